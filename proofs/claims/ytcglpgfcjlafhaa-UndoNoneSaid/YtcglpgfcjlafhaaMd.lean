/- The library, part 4: SP8, SP10, SP11, SP12, SP13, SP14, SP21, SP22, SP23, SP29, SP24, SP25, SP26, SP30, AE36, AE37, AE38. -/
import Derived.Test.YtcglpgfcjlafhaaMc
import Derived.Lib.Bytealg
import Derived.ChangeArms
import Derived.ChangeOld
import Derived.DataReads
/- SP8: a moved node's landing, in plain Lean. -/
namespace Bow
open Go

theorem weights_append : ∀ (a b : List Tree), weights (a ++ b) = weights a + weights b
  | [], b => by rw [weights]; simp
  | x :: a, b => by rw [List.cons_append, weights, weights, weights_append a b]; omega
theorem weights_set {s u : Tree} : ∀ {l : List Tree} {i : Nat}, l[i]? = some s → u.weight ≤ s.weight → weights (l.set i u) ≤ weights l
  | [], i, h, _ => by simp at h
  | x :: l, 0, h, hu => by
    simp at h
    subst h
    rw [List.set_cons_zero, weights, weights]
    omega
  | x :: l, i + 1, h, hu => by
    simp at h
    have := weights_set (l := l) h hu
    rw [List.set_cons_succ, weights, weights]
    omega
theorem withSubs_weight (t : Tree) (ss : List Tree) : (t.withSubs ss).weight + weights t.subs = t.weight + weights ss := by
  cases t
  rw [weight_eq, weight_eq]
  simp only [Tree.withSubs, Tree.label, Tree.text, Tree.attrs, Tree.subs]
  omega
theorem change_weight {F : Tree → Tree} (hF : ∀ y, (F y).weight ≤ y.weight) : ∀ (p : List Int) (t : Tree), (changeT F t p).weight ≤ t.weight
  | [], t => hF t
  | i :: p, t => by
    rw [changeT]
    cases hs : subT t i with
    | none => exact Nat.le_refl _
    | some s =>
      have ih := change_weight hF p s
      have h := weights_set (subT_some hs).2.1 ih
      have := withSubs_weight t (t.subs.set i.toNat (changeT F s p))
      simp only
      omega
theorem del_weight (i : Int) (y : Tree) : (delT i y).weight ≤ y.weight := by
  have h1 := withSubs_weight y (y.subs.take i.toNat ++ y.subs.drop (i.toNat + 1))
  have h2 : weights (y.subs.take i.toNat ++ y.subs.drop (i.toNat + 1)) ≤ weights y.subs := by
    conv => rhs; rw [← List.take_append_drop i.toNat y.subs]
    rw [weights_append, weights_append]
    have h3 : weights (y.subs.drop (i.toNat + 1)) ≤ weights (y.subs.drop i.toNat) := by
      rw [← List.drop_drop]
      cases y.subs.drop i.toNat with
      | nil => simp
      | cons a l => rw [weights]; simp
    omega
  unfold delT
  omega

theorem subT_with (t : Tree) (ss : List Tree) (j : Int) (h : 0 ≤ j) : subT (t.withSubs ss) j = ss[j.toNat]? := by
  unfold subT
  rw [withSubs_subs, decide_eq_false (by omega)]
  rfl
theorem subT_eq {t : Tree} {j : Int} (h : 0 ≤ j) : subT t j = t.subs[j.toNat]? := by
  unfold subT
  rw [decide_eq_false (by omega)]
  rfl
theorem within_cons (k j : Int) (p q : List Int) : within (k :: p) (j :: q) = (decide (k = j) && within p q) := by
  unfold within
  simp
theorem within_nil (q : List Int) : within [] q = true := by unfold within; simp
theorem within_cons_nil (k : Int) (p : List Int) : within (k :: p) [] = false := by unfold within; simp
theorem landT_cons (k i at_ : Int) (q to : List Int) : landT (k :: q) i (k :: to) at_ = (k :: (landT q i to at_).1, (landT q i to at_).2) := by
  unfold landT
  rw [within_cons]
  simp only [List.cons.injEq, true_and, decide_true, Bool.true_and, List.length_cons, Nat.add_lt_add_iff_right, List.getD_cons_succ, List.set_cons_succ]
  cases (decide (q = to) && decide (i < at_)) <;> cases (within q to && (decide (q.length < to.length) && decide (i < to.getD q.length 0))) <;> rfl
theorem landT_other {k j i at_ : Int} {q to : List Int} (h : k ≠ j) : landT (k :: q) i (j :: to) at_ = (j :: to, at_) := by
  unfold landT
  rw [within_cons]
  simp [h]
theorem landT_top (k i at_ : Int) (q : List Int) : landT (k :: q) i [] at_ = ([], at_) := by
  unfold landT
  rw [within_cons_nil]
  simp

theorem withSubs_leaf (t : Tree) (ss : List Tree) : (t.withSubs ss).leaf = t.leaf := by cases t; rfl
theorem withSubs_id (t : Tree) (ss : List Tree) : (t.withSubs ss).id = t.id := by cases t; rfl
/-- Where a moved node lands there is a node, with such a gap. -/
theorem land_at2 {i at_ : Int} (hi : 0 ≤ i) (h0 : 0 ≤ at_) : ∀ (q to : List Int) (t y z : Tree), atT t q = some y → i < y.subs.length → within (q ++ [i]) to = false → atT t to = some z → at_ ≤ z.subs.length →
    ∃ z', atT (changeT (delT i) t q) (landT q i to at_).1 = some z' ∧ 0 ≤ (landT q i to at_).2 ∧ (landT q i to at_).2 ≤ z'.subs.length ∧ z'.leaf = z.leaf ∧ z'.id = z.id
  | [], [], t, y, z, hy, hiy, hw, hz, hat => by
    rw [atT] at hy hz
    injection hy with hy
    injection hz with hz
    subst hy hz
    have hl : (delT i t).subs.length + 1 = t.subs.length := by
      unfold delT
      rw [withSubs_subs]
      simp
      omega
    unfold landT
    rw [changeT]
    by_cases h : i < at_
    · rw [decide_eq_true h]
      exact ⟨_, rfl, by show 0 ≤ at_ - 1; omega, by show at_ - 1 ≤ _; omega, withSubs_leaf _ _, withSubs_id _ _⟩
    · rw [decide_eq_false h]
      simp only [decide_true, Bool.and_false, within_nil, List.length_nil, cond_false, Nat.lt_irrefl, decide_false, Bool.false_and]
      exact ⟨_, rfl, h0, by omega, withSubs_leaf _ _, withSubs_id _ _⟩
  | [], j :: to, t, y, z, hy, hiy, hw, hz, hat => by
    rw [atT] at hy
    injection hy with hy
    subst hy
    rw [atT] at hz
    cases hs : subT t j with
    | none => rw [hs] at hz; cases hz
    | some s =>
    rw [hs] at hz
    simp only at hz
    obtain ⟨hj, hsj, _⟩ := subT_some hs
    have hji : j ≠ i := by
      rintro rfl
      simp [within] at hw
    rw [changeT]
    have e : landT [] i (j :: to) at_ = (bif decide (i < j) then ((j - 1) :: to, at_) else (j :: to, at_)) := by
      unfold landT
      simp [within_nil]
    rw [e]
    by_cases h : i < j
    · rw [decide_eq_true h]
      refine ⟨z, ?_, h0, hat, rfl, rfl⟩
      simp only [cond_true]
      rw [atT]
      have : subT (delT i t) (j - 1) = some s := by
        unfold delT
        rw [subT_with _ _ _ (by omega), List.getElem?_append_right (by simp; omega), List.getElem?_drop, ← hsj]
        congr 1
        simp
        omega
      rw [this]
      exact hz
    · rw [decide_eq_false h]
      refine ⟨z, ?_, h0, hat, rfl, rfl⟩
      simp only [cond_false]
      rw [atT]
      have : subT (delT i t) j = some s := by
        unfold delT
        rw [subT_with _ _ _ hj, List.getElem?_append_left (by simp; omega), List.getElem?_take, if_pos (by omega), hsj]
      rw [this]
      exact hz
  | k :: q, [], t, y, z, hy, hiy, hw, hz, hat => by
    rw [atT] at hz
    injection hz with hz
    subst hz
    rw [landT_top, atT]
    refine ⟨_, rfl, h0, ?_⟩
    rw [changeT]
    cases subT t k with
    | none => exact ⟨hat, rfl, rfl⟩
    | some s =>
      simp only
      rw [withSubs_subs, List.length_set]
      exact ⟨hat, withSubs_leaf _ _, withSubs_id _ _⟩
  | k :: q, j :: to, t, y, z, hy, hiy, hw, hz, hat => by
    rw [atT] at hy hz
    cases hs : subT t k with
    | none => rw [hs] at hy; cases hy
    | some s =>
    rw [hs] at hy
    simp only at hy
    obtain ⟨hk, hsk, _⟩ := subT_some hs
    have hkl := lt_of_get hsk
    rw [changeT, hs]
    simp only
    by_cases h : k = j
    · subst h
      rw [hs] at hz
      simp only at hz
      rw [List.cons_append, within_cons] at hw
      simp only [decide_true, Bool.true_and] at hw
      rw [landT_cons]
      obtain ⟨z', h1, h2, h3, h4⟩ := land_at2 hi h0 q to s y z hy hiy hw hz hat
      refine ⟨z', ?_, h2, h3, h4⟩
      simp only
      rw [atT, subT_with _ _ _ hk, List.getElem?_set_self hkl]
      exact h1
    · rw [landT_other h]
      refine ⟨z, ?_, h0, hat, rfl, rfl⟩
      cases hs2 : subT t j with
      | none => rw [hs2] at hz; cases hz
      | some s2 =>
      rw [hs2] at hz
      simp only at hz
      obtain ⟨hj, hsj, _⟩ := subT_some hs2
      simp only
      rw [atT, subT_with _ _ _ hj, List.getElem?_set_ne (by omega), hsj]
      exact hz

theorem land_at {i at_ : Int} (hi : 0 ≤ i) (h0 : 0 ≤ at_) (q to : List Int) (t y z : Tree) (h1 : atT t q = some y) (h2 : i < y.subs.length) (h3 : within (q ++ [i]) to = false) (h4 : atT t to = some z) (h5 : at_ ≤ z.subs.length) :
    ∃ z', atT (changeT (delT i) t q) (landT q i to at_).1 = some z' ∧ 0 ≤ (landT q i to at_).2 ∧ (landT q i to at_).2 ≤ z'.subs.length := by
  obtain ⟨z', k1, k2, k3, _⟩ := land_at2 hi h0 q to t y z h1 h2 h3 h4 h5
  exact ⟨z', k1, k2, k3⟩

/-! ### The path of a node's parent -/
theorem at_parent : ∀ {p : List Int} (hne : p ≠ []) {t x : Tree}, atT t p = some x → ∃ y, atT t p.dropLast = some y ∧ 0 ≤ p.getLast hne ∧ p.getLast hne < y.subs.length ∧ y.subs[(p.getLast hne).toNat]? = some x
  | [i], _, t, x, h => by
    rw [atT] at h
    cases hs : subT t i with
    | none => rw [hs] at h; cases h
    | some s =>
      rw [hs] at h
      simp only [atT] at h
      injection h with h
      subst h
      obtain ⟨h1, h2, _⟩ := subT_some hs
      have := lt_of_get h2
      exact ⟨t, rfl, h1, by show i < _; omega, h2⟩
  | i :: j :: p, hne, t, x, h => by
    rw [atT] at h
    cases hs : subT t i with
    | none => rw [hs] at h; cases h
    | some s =>
      rw [hs] at h
      obtain ⟨y, h1, h2, h3, h4⟩ := at_parent (p := j :: p) (by simp) h
      refine ⟨y, ?_, ?_⟩
      · rw [List.dropLast_cons_of_ne_nil (by simp), atT, hs]
        exact h1
      · rw [List.getLast_cons (by simp)]
        exact ⟨h2, h3, h4⟩
/-! ### What becomes of a tree -/
/-- A node new. -/
def freshT (o : OpT) : Tree := .mk o.id o.leaf o.label [] [] []
def relabelT (s : List UInt8) : Tree → Tree
  | .mk i l _ a c ss => .mk i l s a c ss
def retextT (l : List PieceT) : Tree → Tree
  | .mk i lf b a c ss => .mk i lf b a (applyE c l).1 ss
def lastP (p : List Int) : Int := p.getLastD 0
theorem lastP_eq {p : List Int} (h : p ≠ []) : p.getLast h = lastP p := by
  unfold lastP
  cases p with
  | nil => exact absurd rfl h
  | cons a p => rw [List.getLastD_eq_getLast?, List.getLast?_eq_some_getLast h]; rfl
def moveT (x t : Tree) (o : OpT) : Tree :=
  changeT (insT (landT o.path.dropLast (lastP o.path) o.to o.at_).2 x) (changeT (delT (lastP o.path)) t o.path.dropLast) (landT o.path.dropLast (lastP o.path) o.to o.at_).1
theorem land_len (q : List Int) (i : Int) (to : List Int) (n : Int) : (landT q i to n).1.length = to.length := by
  unfold landT
  cases (decide (q = to) && decide (i < n)) <;> cases (within q to && (decide (q.length < to.length) && decide (i < to.getD q.length 0))) <;> simp
end Bow
/- SP10: a move, by taking out first or by putting in first, in plain Lean. -/
namespace Bow
open Go

/-! ### Rows -/
section
variable {α : Type}
def insL (m : Nat) (x : α) (l : List α) : List α := l.take m ++ x :: l.drop m
def delL (n : Nat) (l : List α) : List α := l.take n ++ l.drop (n + 1)
theorem insL_zero (x : α) (l : List α) : insL 0 x l = x :: l := rfl
theorem insL_succ (m : Nat) (x a : α) (l : List α) : insL (m + 1) x (a :: l) = a :: insL m x l := rfl
theorem delL_zero (a : α) (l : List α) : delL 0 (a :: l) = l := rfl
theorem delL_succ (n : Nat) (a : α) (l : List α) : delL (n + 1) (a :: l) = a :: delL n l := rfl
theorem del_ins_lt (x : α) : ∀ (l : List α) (n m : Nat), n < m → m ≤ l.length → delL n (insL m x l) = insL (m - 1) x (delL n l)
  | [], n, m, h, hm => by simp at hm; omega
  | a :: l, 0, m + 1, _, _ => rfl
  | a :: l, n + 1, m + 1, h, hm => by
    have hm' : m ≤ l.length := by simpa using hm
    obtain ⟨k, rfl⟩ : ∃ k, m = k + 1 := ⟨m - 1, by omega⟩
    rw [insL_succ, delL_succ, del_ins_lt x l n (k + 1) (by omega) hm', delL_succ]
    rfl
theorem del_ins_ge (x : α) : ∀ (l : List α) (n m : Nat), m ≤ n → n < l.length → delL (n + 1) (insL m x l) = insL m x (delL n l)
  | [], n, m, h, hm => by simp at hm
  | a :: l, n, 0, _, _ => rfl
  | a :: l, n + 1, m + 1, h, hm => by
    have hm' : n < l.length := by simpa using hm
    rw [insL_succ, delL_succ, del_ins_ge x l n m (by omega) hm', delL_succ, insL_succ]
theorem del_set_lt (K : α) : ∀ (l : List α) (i j : Nat), i < j → delL i (l.set j K) = (delL i l).set (j - 1) K
  | [], i, j, h => by simp [delL]
  | a :: l, 0, j + 1, _ => rfl
  | a :: l, i + 1, j + 1, h => by
    obtain ⟨k, rfl⟩ : ∃ k, j = k + 1 := ⟨j - 1, by omega⟩
    rw [List.set_cons_succ, delL_succ, del_set_lt K l i (k + 1) (by omega), delL_succ]
    rfl
theorem del_set_gt (K : α) : ∀ (l : List α) (i j : Nat), j < i → delL i (l.set j K) = (delL i l).set j K
  | [], i, j, h => by simp [delL]
  | a :: l, i + 1, 0, h => rfl
  | a :: l, i + 1, j + 1, h => by
    rw [List.set_cons_succ, delL_succ, del_set_gt K l i j (by omega), delL_succ, List.set_cons_succ]
theorem ins_set_lt (x K : α) : ∀ (l : List α) (m k : Nat), k < m → (insL m x l).set k K = insL m x (l.set k K) ∨ l.length ≤ k
  | [], m, k, h => .inr (by simp)
  | a :: l, m + 1, 0, _ => .inl rfl
  | a :: l, m + 1, k + 1, h => by
    rcases ins_set_lt x K l m k (by omega) with h1 | h1
    · left
      rw [insL_succ, List.set_cons_succ, h1, List.set_cons_succ, insL_succ]
    · right
      simpa using h1
theorem ins_set_ge (x K : α) : ∀ (l : List α) (m k : Nat), m ≤ k → (insL m x l).set (k + 1) K = insL m x (l.set k K)
  | [], m, k, h => by cases m <;> simp [insL]
  | a :: l, 0, k, _ => rfl
  | a :: l, m + 1, k + 1, h => by
    rw [insL_succ, List.set_cons_succ, ins_set_ge x K l m k (by omega), List.set_cons_succ, insL_succ]
theorem ins_get_lt (x : α) : ∀ (l : List α) (m k : Nat), k < m → k < l.length → (insL m x l)[k]? = l[k]?
  | [], m, k, h, hk => by simp at hk
  | a :: l, m + 1, 0, _, _ => rfl
  | a :: l, m + 1, k + 1, h, hk => by
    rw [insL_succ, List.getElem?_cons_succ, List.getElem?_cons_succ]
    exact ins_get_lt x l m k (by omega) (by simpa using hk)
theorem ins_get_ge (x : α) : ∀ (l : List α) (m k : Nat), m ≤ k → m ≤ l.length → (insL m x l)[k + 1]? = l[k]?
  | [], m, k, h, hm => by
    have : m = 0 := by simpa using hm
    subst this
    simp [insL]
  | a :: l, 0, k, _, _ => rfl
  | a :: l, m + 1, k + 1, h, hm => by
    rw [insL_succ, List.getElem?_cons_succ, List.getElem?_cons_succ]
    exact ins_get_ge x l m k (by omega) (by simpa using hm)
end
theorem insT_eq (at_ : Int) (x y : Tree) : insT at_ x y = y.withSubs (insL at_.toNat x y.subs) := rfl
theorem delT_eq (i : Int) (y : Tree) : delT i y = y.withSubs (delL i.toNat y.subs) := rfl
theorem withSubs_withSubs (t : Tree) (a b : List Tree) : (t.withSubs a).withSubs b = t.withSubs b := by cases t; rfl

/-! ### Without a node -/
def withoutT (t : Tree) (p : List Int) : Tree := changeT (delT (lastP p)) t p.dropLast
theorem lastP_cons {p : List Int} (k : Int) (h : p ≠ []) : lastP (k :: p) = lastP p := by
  rw [← lastP_eq (by simp), ← lastP_eq h, List.getLast_cons h]
theorem without_one (t : Tree) (i : Int) : withoutT t [i] = delT i t := rfl
theorem without_cons (t : Tree) (k : Int) {p : List Int} (h : p ≠ []) {s : Tree} (hs : subT t k = some s) : withoutT t (k :: p) = t.withSubs (t.subs.set k.toNat (withoutT s p)) := by
  unfold withoutT
  rw [lastP_cons k h, List.dropLast_cons_of_ne_nil h, changeT, hs]
theorem change_cons (F : Tree → Tree) (t : Tree) (k : Int) (p : List Int) {s : Tree} (hs : subT t k = some s) : changeT F t (k :: p) = t.withSubs (t.subs.set k.toNat (changeT F s p)) := by
  rw [changeT, hs]

/-- A node's path, when another one has been put at a gap. -/
def liftP (to : List Int) (at_ : Int) (fr : List Int) : List Int :=
  bif decide (to.length < fr.length) && (within to fr && decide (at_ ≤ fr.getD to.length 0)) then fr.set to.length (fr.getD to.length 0 + 1) else fr
theorem lift_cons (k at_ : Int) (to fr : List Int) : liftP (k :: to) at_ (k :: fr) = k :: liftP to at_ fr := by
  unfold liftP
  rw [within_cons]
  simp only [decide_true, Bool.true_and, List.length_cons, Nat.add_lt_add_iff_right, List.getD_cons_succ, List.set_cons_succ]
  cases (decide (to.length < fr.length) && (within to fr && decide (at_ ≤ fr.getD to.length 0))) <;> rfl
theorem lift_other {k j : Int} (at_ : Int) (to fr : List Int) (h : j ≠ k) : liftP (j :: to) at_ (k :: fr) = k :: fr := by
  unfold liftP
  rw [within_cons, decide_eq_false h]
  simp
theorem lift_nil (k at_ : Int) (fr : List Int) : liftP [] at_ (k :: fr) = (bif decide (at_ ≤ k) then k + 1 else k) :: fr := by
  unfold liftP
  rw [within_nil]
  by_cases h : at_ ≤ k <;> simp [h]
theorem lift_short (i j at_ : Int) (to : List Int) : liftP (j :: to) at_ [i] = [i] := by
  unfold liftP
  simp

/-- Put in first, then taken out where it stands now: as taken out first, then put in. -/
theorem move_law {at_ : Int} (h0 : 0 ≤ at_) (x : Tree) : ∀ (fr to : List Int) (t s z : Tree), fr ≠ [] → atT t fr = some s → within fr to = false → atT t to = some z → at_ ≤ z.subs.length →
    withoutT (changeT (insT at_ x) t to) (liftP to at_ fr) = changeT (insT (landT fr.dropLast (lastP fr) to at_).2 x) (withoutT t fr) (landT fr.dropLast (lastP fr) to at_).1
  | [], _, _, _, _, h, _, _, _, _ => absurd rfl h
  | [i], [], t, s, z, _, hs, hw, hz, hat => by
    rw [atT] at hz
    injection hz with hz
    subst hz
    rw [atT] at hs
    cases hu : subT t i with
    | none => rw [hu] at hs; cases hs
    | some u =>
    obtain ⟨hi, hsi, _⟩ := subT_some hu
    have hil := lt_of_get hsi
    rw [lift_nil, without_one, without_one]
    show delT _ (insT at_ x t) = _
    have e : landT ([i] : List Int).dropLast (lastP [i]) [] at_ = (bif decide (i < at_) then ([], at_ - 1) else ([], at_)) := by
      unfold landT lastP
      by_cases h : i < at_ <;> simp [h, within_nil]
    rw [e]
    by_cases h : i < at_
    · rw [decide_eq_true h, decide_eq_false (by omega : ¬ at_ ≤ i)]
      simp only [cond_true, cond_false]
      show _ = insT (at_ - 1) x (delT i t)
      rw [insT_eq, insT_eq, delT_eq, delT_eq, withSubs_subs, withSubs_subs, withSubs_withSubs, withSubs_withSubs, del_ins_lt x t.subs i.toNat at_.toNat (by omega) (by omega)]
      congr 2
      omega
    · rw [decide_eq_false h, decide_eq_true (by omega : at_ ≤ i)]
      simp only [cond_true, cond_false]
      show _ = insT at_ x (delT i t)
      rw [insT_eq, insT_eq, delT_eq, delT_eq, withSubs_subs, withSubs_subs, withSubs_withSubs, withSubs_withSubs]
      have : (i + 1).toNat = i.toNat + 1 := by omega
      rw [this, del_ins_ge x t.subs i.toNat at_.toNat (by omega) (by omega)]
  | [i], j :: to, t, s, z, _, hs, hw, hz, hat => by
    rw [atT] at hs hz
    cases hu : subT t i with
    | none => rw [hu] at hs; cases hs
    | some u =>
    cases hv : subT t j with
    | none => rw [hv] at hz; cases hz
    | some v =>
    obtain ⟨hi, hsi, _⟩ := subT_some hu
    obtain ⟨hj, hsj, _⟩ := subT_some hv
    have hil := lt_of_get hsi
    have hjl := lt_of_get hsj
    have hji : j ≠ i := by
      rintro rfl
      simp [within] at hw
    rw [lift_short, without_one, without_one, change_cons _ _ _ _ hv]
    have e : landT ([i] : List Int).dropLast (lastP [i]) (j :: to) at_ = (bif decide (i < j) then ((j - 1) :: to, at_) else (j :: to, at_)) := by
      unfold landT lastP
      simp [within_nil]
    rw [e]
    by_cases h : i < j
    · rw [decide_eq_true h]
      simp only [cond_true]
      have hv' : subT (delT i t) (j - 1) = some v := by
        unfold delT
        rw [subT_with _ _ _ (by omega), List.getElem?_append_right (by simp; omega), List.getElem?_drop, ← hsj]
        congr 1
        simp
        omega
      rw [change_cons _ _ _ _ hv', delT_eq, delT_eq, withSubs_withSubs, withSubs_withSubs, withSubs_subs, withSubs_subs, del_set_lt _ _ _ _ (by omega)]
      congr 2
      omega
    · rw [decide_eq_false h]
      simp only [cond_false]
      have hv' : subT (delT i t) j = some v := by
        unfold delT
        rw [subT_with _ _ _ hj, List.getElem?_append_left (by simp; omega), List.getElem?_take, if_pos (by omega), hsj]
      rw [change_cons _ _ _ _ hv', delT_eq, delT_eq, withSubs_withSubs, withSubs_withSubs, withSubs_subs, withSubs_subs, del_set_gt _ _ _ _ (by omega)]
  | k :: k2 :: q, [], t, s, z, _, hs, hw, hz, hat => by
    rw [atT] at hz
    injection hz with hz
    subst hz
    rw [atT] at hs
    cases hu : subT t k with
    | none => rw [hu] at hs; cases hs
    | some u =>
    obtain ⟨hk, hsk, _⟩ := subT_some hu
    have hkl := lt_of_get hsk
    rw [lift_nil, List.dropLast_cons_of_ne_nil (by simp), landT_top]
    show withoutT (insT at_ x t) _ = insT at_ x (withoutT t _)
    rw [without_cons t k (by simp) hu]
    by_cases h : at_ ≤ k
    · rw [decide_eq_true h]
      simp only [cond_true]
      have e : (k + 1).toNat = k.toNat + 1 := by omega
      have hu' : subT (insT at_ x t) (k + 1) = some u := by
        rw [insT_eq, subT_with _ _ _ (by omega), e, ins_get_ge _ _ _ _ (by omega) (by omega), hsk]
      rw [without_cons _ _ (by simp) hu', insT_eq, insT_eq, withSubs_withSubs, withSubs_withSubs, withSubs_subs, withSubs_subs, e, ins_set_ge _ _ _ _ _ (by omega)]
    · rw [decide_eq_false h]
      simp only [cond_false]
      have hu' : subT (insT at_ x t) k = some u := by
        rw [insT_eq, subT_with _ _ _ hk, ins_get_lt _ _ _ _ (by omega) hkl, hsk]
      rw [without_cons _ _ (by simp) hu', insT_eq, insT_eq, withSubs_withSubs, withSubs_withSubs, withSubs_subs, withSubs_subs, (ins_set_lt x _ t.subs at_.toNat k.toNat (by omega)).resolve_right (by omega)]
  | k :: k2 :: q, j :: to, t, s, z, _, hs, hw, hz, hat => by
    rw [atT] at hs hz
    cases hu : subT t k with
    | none => rw [hu] at hs; cases hs
    | some u =>
    rw [hu] at hs
    simp only at hs
    obtain ⟨hk, hsk, _⟩ := subT_some hu
    have hkl := lt_of_get hsk
    rw [List.dropLast_cons_of_ne_nil (by simp), lastP_cons k (by simp)]
    rw [without_cons t k (by simp) hu]
    by_cases h : k = j
    · subst h
      rw [hu] at hz
      simp only at hz
      rw [within_cons] at hw
      simp only [decide_true, Bool.true_and] at hw
      have ih := move_law h0 x (k2 :: q) to u s z (by simp) hs hw hz hat
      have hle : liftP to at_ (k2 :: q) ≠ [] := by
        unfold liftP
        cases (decide (to.length < (k2 :: q).length) && (within to (k2 :: q) && decide (at_ ≤ (k2 :: q).getD to.length 0))) with
        | false => simp
        | true => intro hh; have := congrArg List.length hh; simp at this
      rw [lift_cons, landT_cons, change_cons _ _ _ _ hu]
      have hu1 : subT (t.withSubs (t.subs.set k.toNat (changeT (insT at_ x) u to))) k = some (changeT (insT at_ x) u to) := by
        rw [subT_with _ _ _ hk, List.getElem?_set_self hkl]
      have hu2 : subT (t.withSubs (t.subs.set k.toNat (withoutT u (k2 :: q)))) k = some (withoutT u (k2 :: q)) := by
        rw [subT_with _ _ _ hk, List.getElem?_set_self hkl]
      rw [without_cons _ _ hle hu1, change_cons _ _ _ _ hu2, withSubs_withSubs, withSubs_withSubs, withSubs_subs, withSubs_subs, List.set_set, List.set_set, ih]
    · cases hv : subT t j with
      | none => rw [hv] at hz; cases hz
      | some v =>
      obtain ⟨hj, hsj, _⟩ := subT_some hv
      rw [lift_other _ _ _ (fun e => h e.symm), landT_other h, change_cons _ _ _ _ hv]
      have hne : k.toNat ≠ j.toNat := by omega
      have hu1 : subT (t.withSubs (t.subs.set j.toNat (changeT (insT at_ x) v to))) k = some u := by
        rw [subT_with _ _ _ hk, List.getElem?_set_ne (fun e => hne e.symm), hsk]
      have hv1 : subT (t.withSubs (t.subs.set k.toNat (withoutT u (k2 :: q)))) j = some v := by
        rw [subT_with _ _ _ hj, List.getElem?_set_ne hne, hsj]
      rw [without_cons _ _ (by simp) hu1, change_cons _ _ _ _ hv1, withSubs_withSubs, withSubs_withSubs, withSubs_subs, withSubs_subs, List.set_comm _ _ (fun e => hne e.symm)]
end Bow
/- SP11: an attribute set, in plain Lean. -/
namespace Bow
open Go

/-! ### The order of texts -/
theorem cmp_less : ∀ a b : List UInt8, Lib.compareBytes a b < 0 ↔ Op.bytesLess a b = true
  | [], [] => by simp [Lib.compareBytes, Op.bytesLess]
  | [], _ :: _ => by simp [Lib.compareBytes, Op.bytesLess]
  | _ :: _, [] => by simp [Lib.compareBytes, Op.bytesLess]
  | x :: a, y :: b => by
    have ih := cmp_less a b
    unfold Lib.compareBytes Op.bytesLess
    by_cases h1 : x < y
    · simp [h1]
    · by_cases h2 : y < x
      · have : x ≠ y := fun e => by subst e; exact h1 h2
        simp [h1, h2, this]
      · have : x = y := UInt8.le_antisymm (UInt8.not_lt.1 h2) (UInt8.not_lt.1 h1)
        subst this
        simp only [h1, if_false, decide_false, beq_self_eq_true, Bool.true_and, Bool.false_or]
        exact ih
theorem cmp_zero : ∀ a b : List UInt8, Lib.compareBytes a b = 0 ↔ a = b
  | [], [] => by simp [Lib.compareBytes]
  | [], _ :: _ => by simp [Lib.compareBytes]
  | _ :: _, [] => by simp [Lib.compareBytes]
  | x :: a, y :: b => by
    have ih := cmp_zero a b
    unfold Lib.compareBytes
    by_cases h1 : x < y
    · have : x ≠ y := fun e => by subst e; exact UInt8.lt_irrefl x h1
      simp [h1, this]
    · by_cases h2 : y < x
      · have : x ≠ y := fun e => by subst e; exact h1 h2
        simp [h1, h2, this]
      · have : x = y := UInt8.le_antisymm (UInt8.not_lt.1 h2) (UInt8.not_lt.1 h1)
        subst this
        simp only [h1, if_false, ih, List.cons.injEq, true_and]
theorem less_irrefl (a : List UInt8) : Op.bytesLess a a = false := by
  cases h : Op.bytesLess a a with
  | false => rfl
  | true =>
    have h1 := (cmp_less a a).2 h
    have h2 := (cmp_zero a a).2 rfl
    omega
theorem less_trans : ∀ {a b c : List UInt8}, Op.bytesLess a b = true → Op.bytesLess b c = true → Op.bytesLess a c = true
  | _, [], _, h, _ => by unfold Op.bytesLess at h; simp at h
  | _, _ :: _, [], _, h => by unfold Op.bytesLess at h; simp at h
  | [], _ :: _, _ :: _, _, _ => by unfold Op.bytesLess; rfl
  | x :: a, y :: b, z :: c, h, k => by
    unfold Op.bytesLess at h k ⊢
    simp only [Bool.or_eq_true, decide_eq_true_eq, Bool.and_eq_true, beq_iff_eq] at h k ⊢
    rcases h with h | ⟨rfl, h⟩ <;> rcases k with k | ⟨rfl, k⟩
    · exact .inl (UInt8.lt_trans h k)
    · exact .inl h
    · exact .inl k
    · exact .inr ⟨rfl, less_trans h k⟩
theorem less_tri : ∀ {a b : List UInt8}, Op.bytesLess a b = false → Op.bytesLess b a = false → a = b
  | [], [], _, _ => rfl
  | [], _ :: _, h, _ => by unfold Op.bytesLess at h; simp at h
  | _ :: _, [], _, h => by unfold Op.bytesLess at h; simp at h
  | x :: a, y :: b, h, k => by
    unfold Op.bytesLess at h k
    simp only [Bool.or_eq_false_iff, decide_eq_false_iff_not, Bool.and_eq_false_iff, beq_eq_false_iff_ne] at h k
    have e : x = y := UInt8.le_antisymm (UInt8.not_lt.1 k.1) (UInt8.not_lt.1 h.1)
    subst e
    rw [less_tri (h.2.resolve_left fun q => q rfl) (k.2.resolve_left fun q => q rfl)]
theorem less_ne {a b : List UInt8} (h : Op.bytesLess a b = true) : a ≠ b := by
  rintro rfl
  rw [less_irrefl] at h
  cases h
theorem less_asymm {a b : List UInt8} (h : Op.bytesLess a b = true) : Op.bytesLess b a = false := by
  cases k : Op.bytesLess b a with
  | false => rfl
  | true =>
    have := less_trans h k
    rw [less_irrefl] at this
    cases this

/-! ### Attributes in order -/
theorem ordOk_less {k s : List UInt8} (h : ordOk (some k) s = true) : Op.bytesLess k s = true := by
  unfold ordOk leS at h
  simp only [Bool.not_eq_true', Bool.or_eq_false_iff, decide_eq_false_iff_not] at h
  cases hk : Op.bytesLess k s with
  | true => rfl
  | false => exact absurd (less_tri h.1 hk) h.2
theorem attrs_behind : ∀ {l : List (List UInt8 × List UInt8)} {k : List UInt8}, attrsOk (some k) l = true → ∀ a ∈ l, Op.bytesLess k a.1 = true
  | [], _, _, a, h => by cases h
  | b :: l, k, h, a, ha => by
    rw [attrsOk, Bool.and_eq_true] at h
    have h1 : Op.bytesLess k b.1 = true := by
      have := h.1
      unfold attrOk at this
      simp only [Bool.and_eq_true] at this
      exact ordOk_less this.2.2
    rcases List.mem_cons.1 ha with rfl | ha
    · exact h1
    · exact less_trans h1 (attrs_behind h.2 a ha)
theorem attrsOk_tail {k : Option (List UInt8)} {a : List UInt8 × List UInt8} {l : List (List UInt8 × List UInt8)} (h : attrsOk k (a :: l) = true) : attrsOk (some a.1) l = true := by
  rw [attrsOk, Bool.and_eq_true] at h
  exact h.2
/-- How many keys are ahead of one. -/
def posK (k : List UInt8) : List (List UInt8 × List UInt8) → Nat
  | [] => 0
  | a :: l => bif Op.bytesLess a.1 k then posK k l + 1 else 0
theorem pos_le (k : List UInt8) : ∀ l, posK k l ≤ l.length
  | [] => Nat.le_refl _
  | a :: l => by
    rw [posK]
    have := pos_le k l
    cases Op.bytesLess a.1 k with
    | true => simpa using this
    | false => simp
theorem pos_iff (k : List UInt8) : ∀ {l : List (List UInt8 × List UInt8)} {k0 : Option (List UInt8)}, attrsOk k0 l = true → ∀ (h : Nat) (hl : h < l.length), (Op.bytesLess l[h].1 k = true ↔ h < posK k l)
  | a :: l, k0, hs, h, hl => by
    rw [posK]
    cases ha : Op.bytesLess a.1 k with
    | true =>
      cases h with
      | zero => simp [ha]
      | succ h =>
        simp only [cond_true, List.getElem_cons_succ, Nat.add_lt_add_iff_right]
        exact pos_iff k (attrsOk_tail hs) h (by simpa using hl)
    | false =>
      simp only [cond_false, Nat.not_lt_zero, iff_false, Bool.not_eq_true]
      cases h with
      | zero => exact ha
      | succ h =>
        have hl' : h < l.length := by simpa using hl
        have := attrs_behind (attrsOk_tail hs) _ (List.getElem_mem hl')
        simp only [List.getElem_cons_succ]
        cases hb : Op.bytesLess l[h].1 k with
        | false => rfl
        | true =>
          rw [less_trans this hb] at ha
          cases ha
/-- Is there one of that key? -/
def hasK (k : List UInt8) (l : List (List UInt8 × List UInt8)) : Bool := decide (posK k l < l.length) && decide ((l.getD (posK k l) ([], [])).1 = k)
def midA (o : OpT) : List (List UInt8 × List UInt8) := bif o.gone then [] else [(o.key, o.value)]
/-- As the program sets one. -/
def setA (o : OpT) (l : List (List UInt8 × List UInt8)) : List (List UInt8 × List UInt8) := l.take (posK o.key l) ++ (midA o ++ l.drop (posK o.key l + (bif hasK o.key l then 1 else 0)))
/-- As the document sets one. -/
def refA (o : OpT) : Bool → List (List UInt8 × List UInt8) → List (List UInt8 × List UInt8)
  | done, [] => bif done then [] else [(o.key, o.value)]
  | done, a :: l => (bif !done && !Op.bytesLess a.1 o.key then [(o.key, o.value)] else []) ++ ((bif decide (a.1 = o.key) then [] else [a]) ++ refA o (done || !Op.bytesLess a.1 o.key) l)
theorem refA_done (o : OpT) : ∀ {l : List (List UInt8 × List UInt8)}, (∀ a ∈ l, a.1 ≠ o.key) → refA o true l = l
  | [], _ => rfl
  | a :: l, h => by
    rw [refA, decide_eq_false (h a List.mem_cons_self)]
    simp [refA_done o fun b hb => h b (List.mem_cons_of_mem _ hb)]
theorem attr_law (o : OpT) : ∀ {l : List (List UInt8 × List UInt8)} {k0 : Option (List UInt8)}, attrsOk k0 l = true → refA o o.gone l = setA o l
  | [], _, _ => by
    unfold setA midA
    rw [refA]
    simp [posK]
  | a :: l, k0, h => by
    have ih := attr_law o (attrsOk_tail h)
    have hb := attrs_behind (attrsOk_tail h)
    rw [refA]
    cases ha : Op.bytesLess a.1 o.key with
    | true =>
      have hne := less_ne ha
      have e1 : posK o.key (a :: l) = posK o.key l + 1 := by rw [posK, ha]; rfl
      have e2 : hasK o.key (a :: l) = hasK o.key l := by
        unfold hasK
        rw [e1]
        simp
      simp only [Bool.not_true, Bool.and_false, cond_false, List.nil_append, Bool.or_false, decide_eq_false hne]
      rw [ih]
      unfold setA
      rw [e1, e2]
      rw [List.take_succ_cons, Nat.add_right_comm (posK o.key l) 1, List.drop_succ_cons]
      simp
    | false =>
      have e1 : posK o.key (a :: l) = 0 := by rw [posK, ha]; rfl
      simp only [Bool.not_false, Bool.and_true, Bool.or_true]
      by_cases he : a.1 = o.key
      · have e2 : hasK o.key (a :: l) = true := by unfold hasK; rw [e1]; simp [he]
        rw [decide_eq_true he, refA_done o fun b hm e => by
          have := hb b hm
          rw [he, ← e, less_irrefl] at this
          cases this]
        unfold setA midA
        rw [e1, e2]
        cases o.gone <;> rfl
      · have e2 : hasK o.key (a :: l) = false := by unfold hasK; rw [e1]; simp [he]
        have hka : Op.bytesLess o.key a.1 = true := by
          cases hk : Op.bytesLess o.key a.1 with
          | true => rfl
          | false => exact absurd (less_tri ha hk) he
        rw [decide_eq_false he, refA_done o fun b hm e => by
          have := less_trans hka (hb b hm)
          rw [← e, less_irrefl] at this
          cases this]
        unfold setA midA
        rw [e1, e2]
        cases o.gone <;> rfl
end Bow
/- SP12: a moved node, when it has been put in: it still stands where it stood, or one on; weights. -/
namespace Bow
open Go

theorem at_cons {t s : Tree} {k : Int} (p : List Int) (h : subT t k = some s) : atT t (k :: p) = atT s p := by rw [atT, h]
theorem lift_at {at_ : Int} (h0 : 0 ≤ at_) (x : Tree) : ∀ (fr to : List Int) (t s z : Tree), fr ≠ [] → atT t fr = some s → within fr to = false → atT t to = some z → at_ ≤ z.subs.length →
    ∃ s', atT (changeT (insT at_ x) t to) (liftP to at_ fr) = some s'
  | [], _, _, _, _, h, _, _, _, _ => absurd rfl h
  | k :: q, [], t, s, z, _, hs, hw, hz, hat => by
    rw [atT] at hz
    injection hz with hz
    subst hz
    rw [atT] at hs
    cases hu : subT t k with
    | none => rw [hu] at hs; cases hs
    | some u =>
    rw [hu] at hs
    obtain ⟨hk, hsk, _⟩ := subT_some hu
    have hkl := lt_of_get hsk
    rw [lift_nil]
    show ∃ s', atT (insT at_ x t) _ = some s'
    by_cases h : at_ ≤ k
    · rw [decide_eq_true h]
      simp only [cond_true]
      have e : (k + 1).toNat = k.toNat + 1 := by omega
      have hu' : subT (insT at_ x t) (k + 1) = some u := by
        rw [insT_eq, subT_with _ _ _ (by omega), e, ins_get_ge _ _ _ _ (by omega) (by omega), hsk]
      exact ⟨s, by rw [at_cons _ hu']; exact hs⟩
    · rw [decide_eq_false h]
      simp only [cond_false]
      have hu' : subT (insT at_ x t) k = some u := by
        rw [insT_eq, subT_with _ _ _ hk, ins_get_lt _ _ _ _ (by omega) hkl, hsk]
      exact ⟨s, by rw [at_cons _ hu']; exact hs⟩
  | k :: q, j :: to, t, s, z, _, hs, hw, hz, hat => by
    rw [atT] at hs hz
    cases hu : subT t k with
    | none => rw [hu] at hs; cases hs
    | some u =>
    rw [hu] at hs
    simp only at hs
    obtain ⟨hk, hsk, _⟩ := subT_some hu
    have hkl := lt_of_get hsk
    by_cases h : k = j
    · subst h
      rw [hu] at hz
      simp only at hz
      rw [within_cons] at hw
      simp only [decide_true, Bool.true_and] at hw
      have hq : q ≠ [] := by
        rintro rfl
        rw [within_nil] at hw
        cases hw
      obtain ⟨s', ih⟩ := lift_at h0 x q to u s z hq hs hw hz hat
      rw [lift_cons, change_cons _ _ _ _ hu]
      have hu1 : subT (t.withSubs (t.subs.set k.toNat (changeT (insT at_ x) u to))) k = some (changeT (insT at_ x) u to) := by
        rw [subT_with _ _ _ hk, List.getElem?_set_self hkl]
      exact ⟨s', by rw [at_cons _ hu1]; exact ih⟩
    · cases hv : subT t j with
      | none => rw [hv] at hz; cases hz
      | some v =>
      obtain ⟨hj, hsj, _⟩ := subT_some hv
      rw [lift_other _ _ _ (fun e => h e.symm), change_cons _ _ _ _ hv]
      have hne : k.toNat ≠ j.toNat := by omega
      have hu1 : subT (t.withSubs (t.subs.set j.toNat (changeT (insT at_ x) v to))) k = some u := by
        rw [subT_with _ _ _ hk, List.getElem?_set_ne (fun e => hne e.symm), hsk]
      exact ⟨s, by rw [at_cons _ hu1]; exact hs⟩

theorem weights_set_add {s u : Tree} {n : Nat} : ∀ {l : List Tree} {i : Nat}, l[i]? = some s → u.weight ≤ s.weight + n → weights (l.set i u) ≤ weights l + n
  | [], i, h, _ => by simp at h
  | x :: l, 0, h, hu => by
    simp at h
    subst h
    rw [List.set_cons_zero, weights, weights]
    omega
  | x :: l, i + 1, h, hu => by
    simp at h
    have := weights_set_add (l := l) h hu
    rw [List.set_cons_succ, weights, weights]
    omega
theorem change_weight_add {F : Tree → Tree} {n : Nat} (hF : ∀ y, (F y).weight ≤ y.weight + n) : ∀ (p : List Int) (t : Tree), (changeT F t p).weight ≤ t.weight + n
  | [], t => hF t
  | i :: p, t => by
    rw [changeT]
    cases hs : subT t i with
    | none => simp only; omega
    | some s =>
      have ih := change_weight_add hF p s
      have h := weights_set_add (subT_some hs).2.1 ih
      have := withSubs_weight t (t.subs.set i.toNat (changeT F s p))
      simp only
      omega
theorem ins_weight (at_ : Int) (x y : Tree) : (insT at_ x y).weight ≤ y.weight + x.weight := by
  have h1 := withSubs_weight y (y.subs.take at_.toNat ++ x :: y.subs.drop at_.toNat)
  have h2 : weights (y.subs.take at_.toNat ++ x :: y.subs.drop at_.toNat) = weights y.subs + x.weight := by
    conv => rhs; rw [← List.take_append_drop at_.toNat y.subs]
    rw [weights_append, weights_append, weights]
    omega
  unfold insT
  omega
theorem lift_len (to : List Int) (at_ : Int) (fr : List Int) : (liftP to at_ fr).length = fr.length := by
  unfold liftP
  cases (decide (to.length < fr.length) && (within to fr && decide (at_ ≤ fr.getD to.length 0))) <;> simp
theorem moveT_eq (x t : Tree) (o : OpT) : moveT x t o = changeT (insT (landT o.path.dropLast (lastP o.path) o.to o.at_).2 x) (withoutT t o.path) (landT o.path.dropLast (lastP o.path) o.to o.at_).1 := rfl
end Bow
/- SP13: what becomes of a tree, in plain Lean; what is known of a valid operation. -/
namespace Bow
open Go

abbrev AttrL := List (List UInt8 × List UInt8)
def Tree.withAttrs : Tree → AttrL → Tree
  | .mk i l b _ c ss, a => .mk i l b a c ss
def setAT (o : OpT) (y : Tree) : Tree := y.withAttrs (setA o y.attrs)
/-- What an operation that is valid makes of a tree. -/
def applyT (t : Tree) (o : OpT) : Tree :=
  bif decide (o.kind = 1) then changeT (insT o.at_ (freshT o)) t o.path
  else bif decide (o.kind = 2) then withoutT t o.path
  else bif decide (o.kind = 3) then (match atT t o.path with | some x => moveT x t o | none => t)
  else bif decide (o.kind = 4) then changeT (setAT o) t o.path
  else bif decide (o.kind = 5) then changeT (relabelT o.label) t o.path
  else changeT (retextT o.pieces) t o.path
def applyR (t : Tree) (o : OpT) : Tree × Int := bif decide (ValidE t o = 0) then (applyT t o, 0) else (.mk 0 false [] [] [] [], ValidE t o)

theorem right_sub {t s : Tree} {i : Int} (ht : t.rightA = true) (h : subT t i = some s) : s.rightA = true := by
  rw [rightA_eq, Bool.and_eq_true, rightsA_all] at ht
  exact List.all_eq_true.1 ht.2 s (subT_some h).2.2
theorem right_at {y : Tree} : ∀ {p : List Int} {t : Tree}, t.rightA = true → atT t p = some y → y.rightA = true
  | [], t, ht, h => by
    rw [atT] at h
    injection h with h
    subst h
    exact ht
  | i :: p, t, ht, h => by
    rw [atT] at h
    cases hs : subT t i with
    | none => rw [hs] at h; cases h
    | some s =>
      rw [hs] at h
      exact right_at (p := p) (right_sub ht hs) h
theorem right_attrs {y : Tree} (h : y.rightA = true) : attrsOk none y.attrs = true := by
  rw [rightA_eq, Bool.and_eq_true] at h
  have := h.1
  unfold rightN at this
  rw [Bool.and_eq_true] at this
  exact this.2

/-- What is known of an operation that is valid. -/
inductive GoodO (t : Tree) (o : OpT) : Prop
  | ins (y) (hk : o.kind = 1) (hy : atT t o.path = some y) (hl : y.leaf = false) (h0 : 0 ≤ o.at_) (h1 : o.at_ ≤ y.subs.length) (h2 : o.label.length ≤ 64) : GoodO t o
  | del (x) (hk : o.kind = 2) (hne : o.path ≠ []) (hx : atT t o.path = some x) : GoodO t o
  | mov (x z) (hk : o.kind = 3) (hne : o.path ≠ []) (hx : atT t o.path = some x) (hw : within o.path o.to = false) (hz : atT t o.to = some z) (hl : z.leaf = false) (h0 : 0 ≤ o.at_) (h1 : o.at_ ≤ z.subs.length) : GoodO t o
  | att (y) (hk : o.kind = 4) (hy : atT t o.path = some y) (h1 : keyOk o.key = true) (h2 : o.gone = true ∨ o.value.length ≤ 256) : GoodO t o
  | lab (y) (hk : o.kind = 5) (hy : atT t o.path = some y) (h2 : o.label.length ≤ 64) : GoodO t o
  | edt (y) (hk : o.kind = 6) (hy : atT t o.path = some y) (hl : y.leaf = true) (he : (applyE y.text o.pieces).2 = 0) : GoodO t o

theorem into_zero {y : Tree} {n : Int} (h : intoE y n = 0) : y.leaf = false ∧ n ≤ y.subs.length := by
  unfold intoE at h
  cases hl : y.leaf with
  | true => rw [hl] at h; cases h
  | false =>
    rw [hl] at h
    by_cases hn : (y.subs.length : Int) < n
    · rw [decide_eq_true hn] at h; cases h
    · exact ⟨rfl, by omega⟩
theorem valid_right {t : Tree} {o : OpT} (h : ValidE t o = 0) : rightT t = true ∧ formedB o = true ∧ validE t o = 0 := by
  unfold ValidE at h
  cases hr : rightT t with
  | false => rw [hr] at h; cases h
  | true =>
    cases hf : formedB o with
    | false => rw [hr, hf] at h; cases h
    | true => rw [hr, hf] at h; exact ⟨rfl, rfl, h⟩
theorem formed_path {o : OpT} (h : formedB o = true) : mayP o.path = true := by
  unfold formedB at h
  rw [Bool.and_eq_true] at h
  exact h.1
theorem may_step {p : List Int} (h : mayP p = true) : ∀ i ∈ p, 0 ≤ i ∧ i ≤ 1048576 := by
  unfold mayP at h
  rw [Bool.and_eq_true] at h
  intro i hi
  have := List.all_eq_true.1 h.2 i hi
  unfold stepOk at this
  simp only [Bool.and_eq_true, decide_eq_true_eq] at this
  omega
theorem good_of {t : Tree} {o : OpT} (h : ValidE t o = 0) : GoodO t o := by
  obtain ⟨hr, hf, hv⟩ := valid_right h
  have hk : o.kind = 1 ∨ o.kind = 2 ∨ o.kind = 3 ∨ o.kind = 4 ∨ o.kind = 5 ∨ o.kind = 6 := by
    unfold formedB at hf
    rw [Bool.and_eq_true] at hf
    have h2 := hf.2
    by_cases e1 : o.kind = 1 <;> by_cases e2 : o.kind = 2 <;> by_cases e3 : o.kind = 3 <;> by_cases e4 : o.kind = 4 <;> by_cases e5 : o.kind = 5 <;> by_cases e6 : o.kind = 6 <;> simp_all
  unfold validE at hv
  unfold formedB at hf
  rw [Bool.and_eq_true] at hf
  have hf2 := hf.2
  by_cases hroot : (decide (o.kind = 2) || decide (o.kind = 3)) && decide (o.path = [])
  · rw [hroot] at hv
    cases hv
  · have hroot : ((decide (o.kind = 2) || decide (o.kind = 3)) && decide (o.path = [])) = false := by simpa using hroot
    rw [hroot] at hv
    simp only [cond_false] at hv
    cases hx : atT t o.path with
    | none => rw [hx] at hv; cases hv
    | some x =>
    rw [hx] at hv
    simp only at hv
    rcases hk with hk | hk | hk | hk | hk | hk
    · simp only [hk] at hv hf2
      obtain ⟨h1, h2⟩ := into_zero hv
      have hf3 : (gapOk o.at_ && decide ((o.label.length : Int) ≤ 64)) = true := hf2
      unfold gapOk at hf3
      simp only [Bool.and_eq_true, decide_eq_true_eq] at hf3
      exact .ins x hk hx h1 hf3.1.1 h2 (by omega)
    · have hne : o.path ≠ [] := by
        intro e
        rw [hk, e] at hroot
        cases hroot
      exact .del x hk hne hx
    · have hne : o.path ≠ [] := by
        intro e
        rw [hk, e] at hroot
        cases hroot
      simp only [hk] at hv hf2
      have hv : (bif within o.path o.to then (84 : Int) else match atT t o.to with | none => 81 | some y => intoE y o.at_) = 0 := hv
      have hf3 : (gapOk o.at_ && mayP o.to) = true := hf2
      unfold gapOk at hf3
      simp only [Bool.and_eq_true, decide_eq_true_eq] at hf3
      cases hw : within o.path o.to with
      | true => rw [hw] at hv; cases hv
      | false =>
        rw [hw] at hv
        cases hz : atT t o.to with
        | none => rw [hz] at hv; cases hv
        | some z =>
          rw [hz] at hv
          obtain ⟨h1, h2⟩ := into_zero hv
          exact .mov x z hk hne hx hw hz h1 hf3.1.1 h2
    · simp only [hk] at hf2
      have hf3 : (keyOk o.key && (o.gone || decide ((o.value.length : Int) ≤ 256))) = true := hf2
      simp only [Bool.and_eq_true, Bool.or_eq_true, decide_eq_true_eq] at hf3
      exact .att x hk hx hf3.1 (hf3.2.imp id fun h => by omega)
    · simp only [hk] at hf2
      have hf3 : decide ((o.label.length : Int) ≤ 64) = true := hf2
      simp only [decide_eq_true_eq] at hf3
      exact .lab x hk hx (by omega)
    · simp only [hk] at hv
      have hv : (bif !x.leaf then (83 : Int) else (applyE x.text o.pieces).2) = 0 := hv
      cases hl : x.leaf with
      | false => rw [hl] at hv; cases hv
      | true => rw [hl] at hv; exact .edt x hk hx hl hv
theorem good_to {o : OpT} (hf : formedB o = true) (hk : o.kind = 3) : mayP o.to = true := by
  unfold formedB at hf
  rw [Bool.and_eq_true] at hf
  have hf2 := hf.2
  simp only [hk] at hf2
  have hf3 : (gapOk o.at_ && mayP o.to) = true := hf2
  rw [Bool.and_eq_true] at hf3
  exact hf3.2
end Bow
/- SP14: how heavy a tree becomes, in plain Lean. -/
namespace Bow
open Go

theorem weights_set_eq {s u : Tree} : ∀ {l : List Tree} {i : Nat}, l[i]? = some s → weights (l.set i u) + s.weight = weights l + u.weight
  | [], i, h => by simp at h
  | x :: l, 0, h => by
    simp at h
    subst h
    rw [List.set_cons_zero, weights, weights]
    omega
  | x :: l, i + 1, h => by
    simp at h
    have := weights_set_eq (u := u) (l := l) h
    rw [List.set_cons_succ, weights, weights]
    omega
theorem change_weight_eq {F : Tree → Tree} {y : Tree} : ∀ {p : List Int} {t : Tree}, atT t p = some y → (changeT F t p).weight + y.weight = t.weight + (F y).weight
  | [], t, h => by
    rw [atT] at h
    injection h with h
    subst h
    rw [changeT]
    omega
  | i :: p, t, h => by
    rw [atT] at h
    cases hs : subT t i with
    | none => rw [hs] at h; cases h
    | some s =>
      rw [hs] at h
      have ih := change_weight_eq (F := F) (p := p) h
      rw [changeT, hs]
      simp only
      have h1 := weights_set_eq (u := changeT F s p) (subT_some hs).2.1
      have h2 := withSubs_weight t (t.subs.set i.toNat (changeT F s p))
      omega
theorem del_weight_eq {y x : Tree} {i : Int} (h : y.subs[i.toNat]? = some x) : (delT i y).weight + x.weight = y.weight := by
  have h1 := withSubs_weight y (y.subs.take i.toNat ++ y.subs.drop (i.toNat + 1))
  have h2 : weights (y.subs.take i.toNat ++ y.subs.drop (i.toNat + 1)) + x.weight = weights y.subs := by
    have hl := lt_of_get h
    conv => rhs; rw [← List.take_append_drop i.toNat y.subs]
    rw [weights_append, weights_append, List.drop_eq_getElem_cons hl, weights]
    have : y.subs[i.toNat] = x := by rw [List.getElem?_eq_getElem hl] at h; injection h
    rw [this]
    omega
  unfold delT
  omega
theorem without_weight {t x : Tree} {p : List Int} (hne : p ≠ []) (hx : atT t p = some x) : (withoutT t p).weight + x.weight = t.weight := by
  obtain ⟨y, y1, y2, y3, y4⟩ := at_parent hne hx
  rw [lastP_eq hne] at y4
  have h1 := change_weight_eq (F := delT (lastP p)) y1
  have h2 := del_weight_eq y4
  unfold withoutT
  omega
def costO (o : OpT) : Nat := 2 + o.label.length + o.key.length + o.value.length + putsLen o.pieces
theorem attrLen_append : ∀ a b : AttrL, attrLen (a ++ b) = attrLen a + attrLen b
  | [], b => by simp [attrLen]
  | x :: a, b => by
    have := attrLen_append a b
    rw [List.cons_append, attrLen_cons, attrLen_cons]
    omega
theorem setA_weight (o : OpT) (y : Tree) : (setAT o y).weight ≤ y.weight + (1 + o.key.length + o.value.length) := by
  have h1 : (setA o y.attrs).length + attrLen (setA o y.attrs) ≤ y.attrs.length + attrLen y.attrs + (1 + o.key.length + o.value.length) := by
    unfold setA
    rw [attrLen_append, attrLen_append]
    have e : attrLen y.attrs = attrLen (y.attrs.take (posK o.key y.attrs)) + attrLen (y.attrs.drop (posK o.key y.attrs)) := by rw [← attrLen_append, List.take_append_drop]
    have e2 : attrLen (y.attrs.drop (posK o.key y.attrs + (bif hasK o.key y.attrs then 1 else 0))) ≤ attrLen (y.attrs.drop (posK o.key y.attrs)) := by
      rw [← List.drop_drop]
      cases hasK o.key y.attrs with
      | false => simp
      | true =>
        cases y.attrs.drop (posK o.key y.attrs) with
        | nil => simp
        | cons a l => rw [attrLen_cons]; simp only [cond_true, List.drop_succ_cons, List.drop_zero]; omega
    have e3 : (midA o).length + attrLen (midA o) ≤ 1 + o.key.length + o.value.length := by
      unfold midA
      cases o.gone <;> simp [attrLen]
      omega
    simp only [List.length_append, List.length_take, List.length_drop]
    omega
  have w1 := weight_eq y
  have w2 := weight_eq (setAT o y)
  have : (setAT o y).label = y.label ∧ (setAT o y).text = y.text ∧ (setAT o y).attrs = setA o y.attrs ∧ (setAT o y).subs = y.subs := by cases y; exact ⟨rfl, rfl, rfl, rfl⟩
  obtain ⟨q1, q2, q3, q4⟩ := this
  rw [q1, q2, q3, q4] at w2
  omega
theorem relabel_weight (s : List UInt8) (y : Tree) : (relabelT s y).weight ≤ y.weight + s.length := by
  have w1 := weight_eq y
  have w2 := weight_eq (relabelT s y)
  have : (relabelT s y).label = s ∧ (relabelT s y).text = y.text ∧ (relabelT s y).attrs = y.attrs ∧ (relabelT s y).subs = y.subs := by cases y; exact ⟨rfl, rfl, rfl, rfl⟩
  obtain ⟨q1, q2, q3, q4⟩ := this
  rw [q1, q2, q3, q4] at w2
  omega
theorem applyE_length (t : List UInt8) (l : List PieceT) : (applyE t l).1.length ≤ t.length + putsLen l := by
  unfold applyE
  cases hr : rightP l with
  | false => simp
  | true =>
    obtain ⟨r1, r2, r3⟩ := rightP_ok hr
    by_cases h : (t.length : Int) < extentP l
    · rw [decide_eq_true h]; simp
    · rw [decide_eq_false h]
      exact editP_len r2 (by omega)
theorem retext_weight (l : List PieceT) (y : Tree) : (retextT l y).weight ≤ y.weight + putsLen l := by
  have w1 := weight_eq y
  have w2 := weight_eq (retextT l y)
  have : (retextT l y).label = y.label ∧ (retextT l y).text = (applyE y.text l).1 ∧ (retextT l y).attrs = y.attrs ∧ (retextT l y).subs = y.subs := by cases y; exact ⟨rfl, rfl, rfl, rfl⟩
  obtain ⟨q1, q2, q3, q4⟩ := this
  rw [q1, q2, q3, q4] at w2
  have := applyE_length y.text l
  omega
theorem fresh_weight (o : OpT) : (freshT o).weight = 1 + o.label.length := by
  have := weight_eq (freshT o)
  have e : (freshT o).label = o.label ∧ (freshT o).text = [] ∧ (freshT o).attrs = [] ∧ (freshT o).subs = [] := ⟨rfl, rfl, rfl, rfl⟩
  obtain ⟨q1, q2, q3, q4⟩ := e
  rw [q1, q2, q3, q4] at this
  simp [attrLen, weights] at this
  omega
theorem applyT_weight {t : Tree} {o : OpT} (h : ValidE t o = 0) : (applyT t o).weight ≤ t.weight + costO o := by
  unfold costO
  cases good_of h with
  | ins y hk hy hl h0 h1 h2 =>
    have e : applyT t o = changeT (insT o.at_ (freshT o)) t o.path := by unfold applyT; rw [hk]; rfl
    have := change_weight_eq (F := insT o.at_ (freshT o)) hy
    have := ins_weight o.at_ (freshT o) y
    have := fresh_weight o
    rw [e]
    omega
  | del x hk hne hx =>
    have e : applyT t o = withoutT t o.path := by unfold applyT; rw [hk]; rfl
    have := without_weight hne hx
    rw [e]
    omega
  | mov x z hk hne hx hw hz hl h0 h1 =>
    have e : applyT t o = moveT x t o := by unfold applyT; rw [hk, hx]; rfl
    have := without_weight hne hx
    have := change_weight_add (F := insT (landT o.path.dropLast (lastP o.path) o.to o.at_).2 x) (n := x.weight) (ins_weight _ x) (landT o.path.dropLast (lastP o.path) o.to o.at_).1 (withoutT t o.path)
    rw [e, moveT_eq]
    omega
  | att y hk hy h1 h2 =>
    have e : applyT t o = changeT (setAT o) t o.path := by unfold applyT; rw [hk]; rfl
    have := change_weight_eq (F := setAT o) hy
    have := setA_weight o y
    rw [e]
    omega
  | lab y hk hy h2 =>
    have e : applyT t o = changeT (relabelT o.label) t o.path := by unfold applyT; rw [hk]; rfl
    have := change_weight_eq (F := relabelT o.label) hy
    have := relabel_weight o.label y
    rw [e]
    omega
  | edt y hk hy hl he =>
    have e : applyT t o = changeT (retextT o.pieces) t o.path := by unfold applyT; rw [hk]; rfl
    have := change_weight_eq (F := retextT o.pieces) hy
    have := retext_weight o.pieces y
    rw [e]
    omega
theorem applyR_weight (t : Tree) (o : OpT) : (applyR t o).1.weight ≤ t.weight + costO o := by
  unfold applyR
  by_cases h : ValidE t o = 0
  · rw [decide_eq_true h]
    exact applyT_weight h
  · rw [decide_eq_false h]
    have e : (Tree.mk 0 false [] [] [] []).weight = 1 := by
      have := weight_eq (Tree.mk 0 false [] [] [] [])
      simp [attrLen, weights, Tree.label, Tree.text, Tree.attrs, Tree.subs] at this
      exact this
    show (Tree.mk 0 false [] [] [] []).weight ≤ _
    rw [e]
    unfold costO
    omega
end Bow
/- SP21: where nodes and gaps are behind an operation (shift), in plain Lean. -/
namespace Bow
open Go

def movesO (o : OpT) : Bool := formedB o && (bif decide (o.kind = 1) then true else bif decide (o.kind = 2) then decide (0 < o.path.length) else bif decide (o.kind = 3) then decide (0 < o.path.length) && !within o.path o.to else false)
structure Chg where
  takes : Bool
  puts : Bool
  frm : List Int
  to : List Int
  at_ : Int
  gap : Int
def chgO (o : OpT) : Chg := ⟨!decide (o.kind = 1), !decide (o.kind = 2), bif decide (o.kind = 1) then [] else o.path.dropLast, bif decide (o.kind = 1) then o.path else o.to, bif decide (o.kind = 1) then 0 else lastP o.path, o.at_⟩
def Chg.number (c : Chg) (p : List Int) (k : Int) : Int :=
  (bif c.takes && (decide (c.at_ < k) && decide (p = c.frm)) then k - 1 else k) + (bif c.puts && (decide (c.gap ≤ k) && decide (p = c.to)) then 1 else 0)
def Chg.land (c : Chg) : Int := bif decide (c.at_ < c.gap) && decide (c.frm = c.to) then c.gap - 1 else c.gap
/-- The numbers of a path, each shifted in its parent as it was. -/
def Chg.nums (c : Chg) : List Int → List Int → List Int
  | _, [] => []
  | q, k :: p => c.number q k :: Chg.nums c (q ++ [k]) p
def nodeP (o : OpT) (p : List Int) : Option (List Int) :=
  bif !movesO o then some p
  else bif (chgO o).takes && within o.path p then (bif !(chgO o).puts then none else some ((chgO o).nums [] o.to ++ [(chgO o).land] ++ p.drop o.path.length))
  else some ((chgO o).nums [] p)
def gapP (o : OpT) (p : List Int) (at_ : Int) (first : Bool) : List Int × Int × Bool :=
  match nodeP o p with
  | none => ([], 0, false)
  | some q => bif !movesO o then (q, at_, true)
    else (q, (bif (chgO o).takes && (decide ((chgO o).at_ < at_) && decide (p = (chgO o).frm)) then at_ - 1 else at_) + (bif (chgO o).puts && (decide (p = (chgO o).to) && (decide ((chgO o).gap < at_) || (decide (at_ = (chgO o).gap) && !first))) then 1 else 0), true)
def undoO (o : OpT) : OpT :=
  bif decide (o.kind = 3) && movesO o then { noOp 3 with path := (nodeP o o.path).getD [], to := (nodeP o (chgO o).frm).getD [], at_ := (chgO o).at_ + (bif decide ((chgO o).frm = (chgO o).to) && decide ((chgO o).land < (chgO o).at_) then 1 else 0) } else noOp 0

/-! ### What becomes of an operation behind another one (but for two edits of one leaf) -/
def soundO (o : OpT) : Bool := formedB o && (bif decide (o.kind = 2) then decide (0 < o.path.length) else bif decide (o.kind = 3) then decide (0 < o.path.length) && !within o.path o.to else true)
def dropO (p : List Int) : OpT := { noOp 2 with path := p }
def shiftedO (b a : OpT) (prior : Bool) : OpT :=
  bif decide (b.kind = 1) then { b with at_ := (gapP a b.path b.at_ prior).2.1, path := (nodeP a b.path).getD [] }
  else bif decide (b.kind = 3) then { b with to := (gapP a b.to b.at_ prior).1, at_ := (gapP a b.to b.at_ prior).2.1, path := (nodeP a b.path).getD [] }
  else { b with path := (nodeP a b.path).getD [] }
def wonO (b a : OpT) : Bool := (decide (a.kind = b.kind) && decide (a.path = b.path)) && (decide (b.kind = 3) || (decide (b.kind = 5) || (decide (b.kind = 4) && decide (a.key = b.key))))
def bothEdit (b a : OpT) : Bool := decide (a.kind = 6) && (decide (b.kind = 6) && decide (a.path = b.path))
def rowO (b a : OpT) (prior : Bool) : List OpT :=
  bif decide (a.kind = 2) then
    (bif within a.path b.path then []
     else bif decide (b.kind = 3) && within a.path b.to then [dropO ((nodeP a b.path).getD [])]
     else [shiftedO b a prior])
  else bif wonO b a then (bif prior then [shiftedO b a prior] else [])
  else bif !decide (a.kind = 3) then [shiftedO b a prior]
  else bif decide (b.kind = 2) then
    (bif within b.path a.path && (!decide (b.path = a.path) && !within b.path a.to) then
      [dropO ((nodeP a a.path).getD []), dropO ((nodeP (dropO ((nodeP a a.path).getD [])) ((nodeP a b.path).getD [])).getD [])]
     else [shiftedO b a prior])
  else bif decide (b.kind = 3) && (within b.path a.to && within a.path b.to) then (bif prior then [undoO a, b] else [])
  else [shiftedO b a prior]
def behindO (b a : OpT) (prior : Bool) : List OpT × Int :=
  bif !soundO a || !soundO b then ([], 80)
  else bif (rowO b a prior).all formedB then ((rowO b a prior).map bareO, 0) else ([], 3)
end Bow
/- SP22: edits made normal; two edits behind each other (leaftext), in plain Lean. -/
namespace Bow
open Go

/-! ### A maker of a normal edit -/
structure Mk where
  l : List PieceT
  keep : Int
def Mk.nil : Mk := ⟨[], 0⟩
/-- The last piece, turned. -/
def modL (f : PieceT → PieceT) : List PieceT → List PieceT
  | [] => []
  | [p] => [f p]
  | p :: q :: r => p :: modL f (q :: r)
def Mk.last (m : Mk) : Mk := bif decide (0 < m.keep) || m.l.isEmpty then ⟨m.l ++ [⟨m.keep, 0, []⟩], 0⟩ else m
def Mk.put (s : List UInt8) (m : Mk) : Mk := bif s.isEmpty then m else ⟨modL (fun p => { p with put := p.put ++ s }) m.last.l, m.last.keep⟩
def Mk.drop (n : Int) (m : Mk) : Mk := bif decide (0 < n) then ⟨modL (fun p => { p with drop := p.drop + n }) m.last.l, m.last.keep⟩ else m
def Mk.kept (n : Int) (m : Mk) : Mk := ⟨m.l, m.keep + n⟩
def Mk.piece (m : Mk) (p : PieceT) : Mk := ((m.kept p.keep).put p.put).drop p.drop
def normP (l : List PieceT) : List PieceT := (l.foldl Mk.piece Mk.nil).l

/-! ### What is left of a normal edit -/
def rowHas : List PieceT → Bool
  | [] => false
  | p :: _ => !(decide (0 < p.keep) || p.put.isEmpty)
def rowPut : List PieceT → List UInt8 × List PieceT
  | [] => ([], [])
  | p :: r => bif decide (0 < p.keep) || p.put.isEmpty then ([], p :: r) else (p.put, { p with put := [] } :: r)
def rowRun : List PieceT → (Int × Bool × Bool) × List PieceT
  | [] => ((0, false, false), [])
  | p :: r => bif decide (0 < p.keep) then ((p.keep, false, true), p :: r) else bif decide (0 < p.drop) then ((p.drop, true, true), p :: r) else rowRun r
def rowTake (n : Int) : List PieceT → List PieceT
  | [] => []
  | p :: r => bif decide (0 < p.keep) then { p with keep := p.keep - n } :: r else { p with drop := p.drop - n } :: r
/-- How many bytes two rows go on with alike; whether each drops them; whether there are any; what is left. -/
def bothR (a b : List PieceT) : (Int × Bool × Bool × Bool) × List PieceT × List PieceT :=
  match rowRun a, rowRun b with
  | ((n, x, any), a'), ((m, y, more), b') =>
    bif !any && !more then ((0, false, false, false), a', b')
    else match bif !any then m else bif more then min n m else n with
      | k => ((k, x, y, true), rowTake k a', rowTake k b')

/-! ### Transform -/
structure Tr where
  p : List PieceT
  q : List PieceT
  x : Mk
  y : Mk
def Tr.puts (prior : Bool) (s : Tr) : Tr :=
  match rowPut s.p, rowPut s.q with
  | (a, p), (b, q) => bif prior then ⟨p, q, (s.x.put a).kept b.length, (s.y.kept a.length).put b⟩ else ⟨p, q, (s.x.kept b.length).put a, (s.y.put b).kept a.length⟩
def Tr.does (s : Tr) (n : Int) (x y : Bool) : Tr :=
  bif x then (bif y then s else { s with x := s.x.drop n }) else bif y then { s with y := s.y.drop n } else { s with x := s.x.kept n, y := s.y.kept n }
def Tr.go (prior : Bool) : Nat → Tr → Tr
  | 0, s => s
  | f + 1, s => match s.puts prior with
    | ⟨p, q, x, y⟩ => match bothR p q with
      | ((n, d, g, any), p', q') => bif any then Tr.go prior f (Tr.does ⟨p', q', x, y⟩ n d g) else ⟨p', q', x, y⟩
def extN : List PieceT → Nat
  | [] => 0
  | p :: l => p.keep.toNat + p.drop.toNat + extN l
def transP (a b : List PieceT) (prior : Bool) : List PieceT × List PieceT × Int :=
  bif !rightP a || !rightP b then ([], [], 2)
  else match Tr.go prior (extN (normP a) + extN (normP b) + 1) ⟨normP a, normP b, Mk.nil, Mk.nil⟩ with
    | ⟨_, _, x, y⟩ => bif !rightP x.l || !rightP y.l then ([], [], 3) else (x.l, y.l, 0)

/-! ### Bounds -/
structure PieceT.Nn (p : PieceT) : Prop where
  k : 0 ≤ p.keep
  d : 0 ≤ p.drop
def PieceT.w (p : PieceT) : Int := p.keep + p.drop + p.put.length + 1
def sumW : List PieceT → Int
  | [] => 0
  | p :: l => p.w + sumW l
def Mk.w (m : Mk) : Int := m.keep + sumW m.l
structure Mk.Ok (m : Mk) : Prop where
  k : 0 ≤ m.keep
  l : ∀ p ∈ m.l, p.Nn
theorem Mk.nil_ok : Mk.nil.Ok := ⟨by decide, by simp [Mk.nil]⟩
theorem sumW_append (a b : List PieceT) : sumW (a ++ b) = sumW a + sumW b := by
  induction a with
  | nil => simp [sumW]
  | cons p a ih => simp only [List.cons_append, sumW, ih]; omega
theorem PieceT.Nn.w_pos {p : PieceT} (h : p.Nn) : 1 ≤ p.w := by
  have := h.k
  have := h.d
  unfold PieceT.w
  omega
theorem sumW_len : ∀ {l : List PieceT}, (∀ p ∈ l, p.Nn) → (l.length : Int) ≤ sumW l
  | [], _ => by simp [sumW]
  | p :: l, h => by
    have h1 := (h p List.mem_cons_self).w_pos
    have h2 := sumW_len fun q hq => h q (List.mem_cons_of_mem _ hq)
    simp only [List.length_cons, sumW]
    omega
theorem sumW_mem : ∀ {l : List PieceT}, (∀ p ∈ l, p.Nn) → ∀ p ∈ l, p.w ≤ sumW l
  | [], _, p, hp => by cases hp
  | q :: l, h, p, hp => by
    have h1 := (h q List.mem_cons_self).w_pos
    have h3 := sumW_len fun q hq => h q (List.mem_cons_of_mem _ hq)
    simp only [sumW]
    rcases List.mem_cons.1 hp with rfl | hp
    · omega
    · have h2 := sumW_mem (fun q hq => h q (List.mem_cons_of_mem _ hq)) p hp
      omega
theorem modL_ne {f : PieceT → PieceT} : ∀ {l : List PieceT}, l ≠ [] → modL f l ≠ []
  | [], h => absurd rfl h
  | [p], _ => by simp [modL]
  | p :: q :: r, _ => by simp [modL]
theorem modL_len (f : PieceT → PieceT) : ∀ l : List PieceT, (modL f l).length = l.length
  | [] => rfl
  | [p] => rfl
  | p :: q :: r => by rw [modL, List.length_cons, modL_len f (q :: r)]; rfl
theorem modL_set (f : PieceT → PieceT) : ∀ (l : List PieceT) (h : l.length - 1 < l.length), modL f l = l.set (l.length - 1) (f l[l.length - 1])
  | [], h => by simp at h
  | [p], _ => rfl
  | p :: q :: r, _ => by
    rw [modL, modL_set f (q :: r) (by simp)]
    simp
theorem modL_nn {f : PieceT → PieceT} (hf : ∀ p, p.Nn → (f p).Nn) : ∀ {l : List PieceT}, (∀ p ∈ l, p.Nn) → ∀ p ∈ modL f l, p.Nn
  | [], _, p, hp => by cases hp
  | [q], h, p, hp => by
    rw [modL, List.mem_singleton] at hp
    exact hp ▸ hf q (h q List.mem_cons_self)
  | q :: q' :: r, h, p, hp => by
    rw [modL] at hp
    rcases List.mem_cons.1 hp with rfl | hp
    · exact h _ List.mem_cons_self
    · exact modL_nn hf (fun z hz => h z (List.mem_cons_of_mem _ hz)) p hp
theorem modL_w {f : PieceT → PieceT} {k : Int} (hf : ∀ p : PieceT, (f p).w = p.w + k) : ∀ {l : List PieceT}, l ≠ [] → sumW (modL f l) = sumW l + k
  | [], h => absurd rfl h
  | [p], _ => by simp only [modL, sumW, hf]; omega
  | p :: q :: r, _ => by
    have ih := modL_w hf (l := q :: r) (by simp)
    rw [modL, sumW, ih, sumW]
    simp only [sumW]
    omega

theorem Mk.last_ne (m : Mk) : m.last.l ≠ [] := by
  unfold Mk.last
  cases h : decide (0 < m.keep) || m.l.isEmpty with
  | true => simp
  | false =>
    intro e
    rw [cond_false] at e
    rw [e] at h
    simp at h
theorem Mk.last_ok {m : Mk} (h : m.Ok) : m.last.Ok ∧ m.last.w ≤ m.w + 1 := by
  unfold Mk.last
  cases decide (0 < m.keep) || m.l.isEmpty with
  | true =>
    refine ⟨⟨Int.le_refl 0, fun p hp => ?_⟩, ?_⟩
    · rcases List.mem_append.1 hp with hp | hp
      · exact h.l p hp
      · rw [List.mem_singleton] at hp
        exact hp ▸ ⟨h.k, Int.le_refl _⟩
    · show (0 : Int) + sumW (m.l ++ [_]) ≤ _
      rw [sumW_append]
      simp only [sumW, PieceT.w, Mk.w, List.length_nil]
      omega
  | false => exact ⟨h, by rw [cond_false]; omega⟩
theorem Mk.put_ok {m : Mk} {s : List UInt8} (h : m.Ok) : (m.put s).Ok ∧ (m.put s).w ≤ m.w + s.length + 1 := by
  unfold Mk.put
  cases hs : s.isEmpty with
  | true => exact ⟨h, by rw [cond_true]; omega⟩
  | false =>
    obtain ⟨h1, h2⟩ := Mk.last_ok h
    refine ⟨⟨h1.k, modL_nn (f := fun p => { p with put := p.put ++ s }) (fun p hp => ⟨hp.k, hp.d⟩) h1.l⟩, ?_⟩
    have := modL_w (f := fun p => { p with put := p.put ++ s }) (k := s.length) (fun p => by simp [PieceT.w]; omega) m.last_ne
    unfold Mk.w at h2 ⊢
    simp only [cond_false]
    omega
theorem Mk.drop_ok {m : Mk} {n : Int} (h : m.Ok) (hn : 0 ≤ n) : (m.drop n).Ok ∧ (m.drop n).w ≤ m.w + n + 1 := by
  unfold Mk.drop
  cases hs : decide (0 < n) with
  | false => exact ⟨h, by rw [cond_false]; omega⟩
  | true =>
    obtain ⟨h1, h2⟩ := Mk.last_ok h
    refine ⟨⟨h1.k, modL_nn (f := fun p => { p with drop := p.drop + n }) (fun p hp => ⟨hp.k, by have := hp.d; show 0 ≤ p.drop + n; omega⟩) h1.l⟩, ?_⟩
    have := modL_w (f := fun p => { p with drop := p.drop + n }) (k := n) (fun p => by simp [PieceT.w]; omega) m.last_ne
    unfold Mk.w at h2 ⊢
    simp only [cond_true]
    omega
theorem Mk.kept_ok {m : Mk} {n : Int} (h : m.Ok) (hn : 0 ≤ n) : (m.kept n).Ok ∧ (m.kept n).w = m.w + n := by
  refine ⟨⟨by have := h.k; show 0 ≤ m.keep + n; omega, h.l⟩, ?_⟩
  unfold Mk.w Mk.kept
  simp only
  omega
theorem Mk.piece_ok {m : Mk} {p : PieceT} (h : m.Ok) (hp : p.Nn) : (m.piece p).Ok ∧ (m.piece p).w ≤ m.w + p.w + 1 := by
  obtain ⟨a1, a2⟩ := Mk.kept_ok h hp.k
  obtain ⟨b1, b2⟩ := Mk.put_ok (s := p.put) a1
  obtain ⟨c1, c2⟩ := Mk.drop_ok b1 hp.d
  refine ⟨c1, ?_⟩
  unfold PieceT.w Mk.piece
  omega
theorem foldl_ok : ∀ {l : List PieceT} {m : Mk}, m.Ok → (∀ p ∈ l, p.Nn) → (l.foldl Mk.piece m).Ok ∧ (l.foldl Mk.piece m).w ≤ m.w + 2 * sumW l
  | [], m, h, _ => ⟨h, by simp [sumW]⟩
  | p :: l, m, h, hl => by
    have hp := hl p List.mem_cons_self
    obtain ⟨h1, h2⟩ := Mk.piece_ok h hp
    obtain ⟨k1, k2⟩ := foldl_ok (l := l) h1 fun q hq => hl q (List.mem_cons_of_mem _ hq)
    refine ⟨k1, ?_⟩
    have := hp.w_pos
    simp only [List.foldl_cons, sumW]
    omega
theorem right_nn {l : List PieceT} (h : rightP l = true) : (∀ p ∈ l, p.Nn) ∧ sumW l ≤ 20000000000 := by
  unfold rightP at h
  rw [Bool.and_eq_true, decide_eq_true_eq] at h
  obtain ⟨h1, h2⟩ := h
  have key : ∀ (l : List PieceT) (n : Nat), rightGo n l = true → (∀ p ∈ l, p.Nn) ∧ sumW l ≤ 3200000 * l.length := by
    intro l
    induction l with
    | nil => intro n _; exact ⟨by simp, by simp [sumW]⟩
    | cons p l ih =>
      intro n h
      rw [rightGo] at h
      simp only [Bool.and_eq_true, decide_eq_true_eq] at h
      obtain ⟨⟨⟨⟨⟨q1, q2⟩, q3⟩, q4⟩, q5⟩, q6⟩ := h
      obtain ⟨i1, i2⟩ := ih _ q6
      refine ⟨fun z hz => ?_, ?_⟩
      · rcases List.mem_cons.1 hz with rfl | hz
        · exact ⟨q1, q3⟩
        · exact i1 z hz
      · simp only [sumW, PieceT.w, List.length_cons]
        omega
  obtain ⟨k1, k2⟩ := key l 0 h2
  exact ⟨k1, by omega⟩
theorem norm_nn {l : List PieceT} (h : rightP l = true) : (∀ p ∈ normP l, p.Nn) ∧ sumW (normP l) ≤ 40000000000 := by
  obtain ⟨h1, h2⟩ := right_nn h
  obtain ⟨k1, k2⟩ := foldl_ok (l := l) Mk.nil_ok h1
  have := k1.k
  have e : Mk.nil.w = 0 := rfl
  unfold Mk.w at k2
  unfold Mk.w at e
  exact ⟨k1.l, by unfold normP; omega⟩
end Bow
/- SP23: bounds of two edits that go on alike, in plain Lean. -/
namespace Bow
open Go

structure RowOk (r : List PieceT) : Prop where
  p : ∀ p ∈ r, p.Nn ∧ p.w ≤ 1000000000000
  l : r.length ≤ 1000000000000
/-- What is begun of a row and what is left; it goes on to where something is left. -/
theorem rowRun_split : ∀ (r : List PieceT), ∃ e, r = e ++ (rowRun r).2
  | [] => ⟨[], rfl⟩
  | p :: r => by
    rw [rowRun]
    cases decide (0 < p.keep) with
    | true => exact ⟨[], rfl⟩
    | false =>
      cases decide (0 < p.drop) with
      | true => exact ⟨[], rfl⟩
      | false =>
        obtain ⟨e, h⟩ := rowRun_split r
        exact ⟨p :: e, by rw [cond_false, cond_false, List.cons_append, ← h]⟩
theorem rowRun_ok {r : List PieceT} (h : RowOk r) : RowOk (rowRun r).2 ∧ 0 ≤ (rowRun r).1.1 ∧ (rowRun r).1.1 ≤ 1000000000000 := by
  obtain ⟨e, he⟩ := rowRun_split r
  have h1 : RowOk (rowRun r).2 := by
    have hl := congrArg List.length he
    rw [List.length_append] at hl
    exact ⟨fun p hp => h.p p (he ▸ List.mem_append_right _ hp), by have := h.l; omega⟩
  refine ⟨h1, ?_⟩
  have key : ∀ (r : List PieceT), (∀ p ∈ r, p.Nn ∧ p.w ≤ 1000000000000) → 0 ≤ (rowRun r).1.1 ∧ (rowRun r).1.1 ≤ 1000000000000 := by
    intro r
    induction r with
    | nil => intro _; exact ⟨by decide, by decide⟩
    | cons p r ih =>
      intro h
      obtain ⟨h2, h3⟩ := h p List.mem_cons_self
      have h4 := h2.k
      have h5 := h2.d
      unfold PieceT.w at h3
      rw [rowRun]
      cases decide (0 < p.keep) with
      | true => exact ⟨h4, by rw [cond_true]; simp only; omega⟩
      | false =>
        cases decide (0 < p.drop) with
        | true => exact ⟨h5, by rw [cond_false, cond_true]; simp only; omega⟩
        | false => exact ih fun q hq => h q (List.mem_cons_of_mem _ hq)
  exact key r h.p
/-- The weight of what is left of a row. -/
def rowR : List PieceT → Int
  | [] => 0
  | p :: l => p.keep + p.drop + p.put.length + rowR l
theorem rowR_le : ∀ {l : List PieceT}, rowR l ≤ sumW l
  | [] => by simp [rowR, sumW]
  | p :: l => by
    have := rowR_le (l := l)
    simp only [rowR, sumW, PieceT.w]
    omega
theorem rowR_nn : ∀ {l : List PieceT}, (∀ p ∈ l, p.Nn) → 0 ≤ rowR l
  | [], _ => by simp [rowR]
  | p :: l, h => by
    have h1 := h p List.mem_cons_self
    have := h1.k
    have := h1.d
    have := rowR_nn fun q hq => h q (List.mem_cons_of_mem _ hq)
    simp only [rowR]
    omega
theorem RowOk.nn {r : List PieceT} (h : RowOk r) : ∀ p ∈ r, p.Nn := fun p hp => (h.p p hp).1
theorem rowPut_len (r : List PieceT) : (rowPut r).2.length = r.length := by
  cases r with
  | nil => rfl
  | cons p r =>
    rw [rowPut]
    cases decide (0 < p.keep) || p.put.isEmpty <;> rfl
theorem rowTake_len (n : Int) (r : List PieceT) : (rowTake n r).length = r.length := by
  cases r with
  | nil => rfl
  | cons p r =>
    rw [rowTake]
    cases decide (0 < p.keep) <;> rfl
theorem rowPut_ok {r : List PieceT} (h : RowOk r) : RowOk (rowPut r).2 ∧ rowR (rowPut r).2 = rowR r - (rowPut r).1.length ∧ extN (rowPut r).2 = extN r ∧ ((rowPut r).1.length : Int) ≤ 1000000000000 := by
  cases r with
  | nil => exact ⟨h, by simp [rowPut, rowR], rfl, by simp [rowPut]⟩
  | cons p r =>
    rw [rowPut]
    cases decide (0 < p.keep) || p.put.isEmpty with
    | true => exact ⟨h, by simp, rfl, by simp⟩
    | false =>
      obtain ⟨h1, h2⟩ := h.p p List.mem_cons_self
      have h3 := h1.k
      have h4 := h1.d
      unfold PieceT.w at h2
      refine ⟨⟨fun q hq => ?_, h.l⟩, ?_, rfl, ?_⟩
      · rcases List.mem_cons.1 hq with rfl | hq
        · exact ⟨⟨h3, h4⟩, by unfold PieceT.w; simp only [List.length_nil]; omega⟩
        · exact h.p q (List.mem_cons_of_mem _ hq)
      · simp only [cond_false, rowR, List.length_nil]
        omega
      · simp only [cond_false]
        omega
theorem rowRun_R : ∀ {r : List PieceT}, (∀ p ∈ r, p.Nn) → rowR (rowRun r).2 ≤ rowR r ∧ extN (rowRun r).2 ≤ extN r
  | [], _ => ⟨Int.le_refl _, Nat.le_refl _⟩
  | p :: r, h => by
    have h1 := h p List.mem_cons_self
    have := h1.k
    have := h1.d
    obtain ⟨i1, i2⟩ := rowRun_R fun q hq => h q (List.mem_cons_of_mem _ hq)
    rw [rowRun]
    cases decide (0 < p.keep) with
    | true => exact ⟨Int.le_refl _, Nat.le_refl _⟩
    | false =>
      cases decide (0 < p.drop) with
      | true => exact ⟨Int.le_refl _, Nat.le_refl _⟩
      | false =>
        simp only [cond_false, rowR, extN]
        constructor <;> omega
/-- What a run says: none, and nothing is left; or so many bytes, of the first piece. -/
def RunIs (n : Int) (x s : Bool) (r : List PieceT) : Prop :=
  (s = false ∧ x = false ∧ n = 0 ∧ r = []) ∨ (s = true ∧ ∃ p l, r = p :: l ∧ ((x = false ∧ n = p.keep ∧ 0 < p.keep) ∨ (x = true ∧ n = p.drop ∧ 0 < p.drop ∧ ¬ 0 < p.keep)))
theorem rowRun_is : ∀ (r : List PieceT), RunIs (rowRun r).1.1 (rowRun r).1.2.1 (rowRun r).1.2.2 (rowRun r).2
  | [] => .inl ⟨rfl, rfl, rfl, rfl⟩
  | p :: r => by
    rw [rowRun]
    cases h1 : decide (0 < p.keep) with
    | true => exact .inr ⟨rfl, p, r, rfl, .inl ⟨rfl, rfl, of_decide_eq_true h1⟩⟩
    | false =>
      cases h2 : decide (0 < p.drop) with
      | true => exact .inr ⟨rfl, p, r, rfl, .inr ⟨rfl, rfl, of_decide_eq_true h2, of_decide_eq_false h1⟩⟩
      | false => exact rowRun_is r
theorem rowTake_ok {n m : Int} {x s : Bool} {r : List PieceT} (h : RowOk r) (hr : RunIs m x s r) (hn : 0 ≤ n) (hm : s = true → n ≤ m) : RowOk (rowTake n r) ∧ rowR (rowTake n r) = rowR r - (bif s then n else 0) ∧ (extN (rowTake n r) : Int) = extN r - (bif s then n else 0) := by
  rcases hr with ⟨rfl, -, -, rfl⟩ | ⟨rfl, p, l, rfl, hp⟩
  · exact ⟨h, by simp [rowTake, rowR], by simp [rowTake, extN]⟩
  · obtain ⟨h1, h2⟩ := h.p p List.mem_cons_self
    have h3 := h1.k
    have h4 := h1.d
    have h5 := hm rfl
    unfold PieceT.w at h2
    rcases hp with ⟨-, rfl, h6⟩ | ⟨-, rfl, h6, h7⟩
    · rw [rowTake, decide_eq_true h6]
      refine ⟨⟨fun q hq => ?_, h.l⟩, ?_, ?_⟩
      · rcases List.mem_cons.1 hq with rfl | hq
        · exact ⟨⟨by show 0 ≤ p.keep - n; omega, h4⟩, by unfold PieceT.w; simp only; omega⟩
        · exact h.p q (List.mem_cons_of_mem _ hq)
      · simp only [cond_true, rowR]
        omega
      · simp only [cond_true, extN]
        omega
    · rw [rowTake, decide_eq_false h7]
      refine ⟨⟨fun q hq => ?_, h.l⟩, ?_, ?_⟩
      · rcases List.mem_cons.1 hq with rfl | hq
        · exact ⟨⟨h3, by show 0 ≤ p.drop - n; omega⟩, by unfold PieceT.w; simp only; omega⟩
        · exact h.p q (List.mem_cons_of_mem _ hq)
      · simp only [cond_false, cond_true, rowR]
        omega
      · simp only [cond_false, cond_true, extN]
        omega
theorem bothR_eq {a b a' b' : List PieceT} {n m : Int} {x1 s1 y1 s2 : Bool} (h : rowRun a = ((n, x1, s1), a')) (h2 : rowRun b = ((m, y1, s2), b')) : bothR a b = bif !s1 && !s2 then ((0, false, false, false), a', b')
    else match bif !s1 then m else bif s2 then min n m else n with
      | k => ((k, x1, y1, true), rowTake k a', rowTake k b') := by
  unfold bothR
  rw [h, h2]
theorem bothR_ok {a b : List PieceT} (ha : RowOk a) (hb : RowOk b) : RowOk (bothR a b).2.1 ∧ RowOk (bothR a b).2.2 ∧ 0 ≤ (bothR a b).1.1 ∧ (bothR a b).1.1 ≤ 1000000000000 ∧
    ((bothR a b).1.2.2.2 = true → 1 ≤ (bothR a b).1.1 ∧ rowR (bothR a b).2.1 + rowR (bothR a b).2.2 ≤ rowR a + rowR b - (bothR a b).1.1 ∧ extN (bothR a b).2.1 + extN (bothR a b).2.2 < extN a + extN b) ∧
    ((bothR a b).1.2.2.2 = false → rowR (bothR a b).2.1 + rowR (bothR a b).2.2 ≤ rowR a + rowR b) := by
  obtain ⟨oa, na, na'⟩ := rowRun_ok ha
  obtain ⟨ob, nb, nb'⟩ := rowRun_ok hb
  obtain ⟨ra, ea⟩ := rowRun_R ha.nn
  obtain ⟨rb, eb⟩ := rowRun_R hb.nn
  have ia := rowRun_is a
  have ib := rowRun_is b
  obtain ⟨⟨⟨n, x1, s1⟩, a'⟩, hra⟩ : ∃ z, rowRun a = z := ⟨_, rfl⟩
  obtain ⟨⟨⟨m, y1, s2⟩, b'⟩, hrb⟩ : ∃ z, rowRun b = z := ⟨_, rfl⟩
  rw [bothR_eq hra hrb]
  rw [hra] at oa na na' ra ea ia
  rw [hrb] at ob nb nb' rb eb ib
  simp only at oa na na' ra ea ia ob nb nb' rb eb ib
  have pa : s1 = true → 1 ≤ n := by
    rcases ia with ⟨rfl, -⟩ | ⟨-, p, l, -, ⟨-, h, h'⟩ | ⟨-, h, h', -⟩⟩
    · intro h; cases h
    · intro _; omega
    · intro _; omega
  have pb : s2 = true → 1 ≤ m := by
    rcases ib with ⟨rfl, -⟩ | ⟨-, p, l, -, ⟨-, h, h'⟩ | ⟨-, h, h', -⟩⟩
    · intro h; cases h
    · intro _; omega
    · intro _; omega
  cases s1 with
  | false =>
    cases s2 with
    | false => exact ⟨oa, ob, Int.le_refl 0, by show (0 : Int) ≤ 1000000000000; omega, fun h => (by cases h), fun _ => by show rowR a' + rowR b' ≤ _; omega⟩
    | true =>
      obtain ⟨t1, t2, t3⟩ := rowTake_ok oa ia nb (fun h => by cases h)
      obtain ⟨u1, u2, u3⟩ := rowTake_ok ob ib nb (fun _ => Int.le_refl _)
      have := pb rfl
      refine ⟨t1, u1, nb, nb', fun _ => ⟨this, ?_, ?_⟩, fun h => by cases h⟩
      · simp only [Bool.not_false, Bool.not_true, Bool.and_false, cond_true, cond_false] at t2 u2 ⊢
        omega
      · simp only [Bool.not_false, Bool.not_true, Bool.and_false, cond_true, cond_false] at t3 u3 ⊢
        omega
  | true =>
    cases s2 with
    | false =>
      obtain ⟨t1, t2, t3⟩ := rowTake_ok oa ia na (fun _ => Int.le_refl _)
      obtain ⟨u1, u2, u3⟩ := rowTake_ok ob ib na (fun h => by cases h)
      have := pa rfl
      refine ⟨t1, u1, na, na', fun _ => ⟨this, ?_, ?_⟩, fun h => by cases h⟩
      · simp only [Bool.not_false, Bool.not_true, Bool.false_and, cond_true, cond_false] at t2 u2 ⊢
        omega
      · simp only [Bool.not_false, Bool.not_true, Bool.false_and, cond_true, cond_false] at t3 u3 ⊢
        omega
    | true =>
      have hmin : 0 ≤ min n m ∧ min n m ≤ n ∧ min n m ≤ m := by omega
      obtain ⟨t1, t2, t3⟩ := rowTake_ok oa ia hmin.1 (fun _ => hmin.2.1)
      obtain ⟨u1, u2, u3⟩ := rowTake_ok ob ib hmin.1 (fun _ => hmin.2.2)
      have := pa rfl
      have := pb rfl
      refine ⟨t1, u1, hmin.1, ?_, fun _ => ⟨?_, ?_, ?_⟩, fun h => by cases h⟩
      · show min n m ≤ _
        omega
      · show 1 ≤ min n m
        omega
      · simp only [Bool.not_true, Bool.false_and, cond_true, cond_false] at t2 u2 ⊢
        omega
      · simp only [Bool.not_true, Bool.false_and, cond_true, cond_false] at t3 u3 ⊢
        omega

theorem norm_ok {l : List PieceT} (h : rightP l = true) : RowOk (normP l) ∧ rowR (normP l) ≤ 40000000000 := by
  obtain ⟨h1, h2⟩ := norm_nn h
  have h3 := sumW_len h1
  have h4 := rowR_le (l := normP l)
  exact ⟨⟨fun p hp => ⟨h1 p hp, by have := sumW_mem h1 p hp; omega⟩, by omega⟩, by omega⟩
theorem Mk.put_ok2 {m : Mk} {s : List UInt8} (h : m.Ok) : (m.put s).Ok ∧ (m.put s).w ≤ m.w + 2 * s.length := by
  refine ⟨(Mk.put_ok h).1, ?_⟩
  cases s with
  | nil => exact Int.le_of_eq (by simp [Mk.put])
  | cons a s =>
    have := (Mk.put_ok (s := a :: s) h).2
    simp only [List.length_cons] at this ⊢
    omega
theorem Mk.drop_ok2 {m : Mk} {n : Int} (h : m.Ok) (hn : 0 ≤ n) : (m.drop n).Ok ∧ (m.drop n).w ≤ m.w + 2 * n := by
  refine ⟨(Mk.drop_ok h hn).1, ?_⟩
  by_cases h1 : 0 < n
  · have := (Mk.drop_ok (n := n) h hn).2
    omega
  · have e : m.drop n = m := by unfold Mk.drop; rw [decide_eq_false h1]; rfl
    rw [e]
    omega
/-- The state of two edits that go on alike. -/
structure Tr.Ok (s : Tr) : Prop where
  p : RowOk s.p
  q : RowOk s.q
  x : s.x.Ok
  y : s.y.Ok
  wx : s.x.w + 3 * (rowR s.p + rowR s.q) ≤ 900000000000
  wy : s.y.w + 3 * (rowR s.p + rowR s.q) ≤ 900000000000
theorem Tr.puts_ok {s : Tr} (h : s.Ok) (prior : Bool) : (s.puts prior).Ok ∧ extN (s.puts prior).p = extN s.p ∧ extN (s.puts prior).q = extN s.q := by
  obtain ⟨p, q, x, y⟩ := s
  obtain ⟨hp, hq, hx, hy, wx, wy⟩ := h
  simp only at hp hq hx hy wx wy
  obtain ⟨op, rp, ep, -⟩ := rowPut_ok hp
  obtain ⟨oq, rq, eq, -⟩ := rowPut_ok hq
  have e : Tr.puts prior ⟨p, q, x, y⟩ = bif prior then ⟨(rowPut p).2, (rowPut q).2, (x.put (rowPut p).1).kept (rowPut q).1.length, (y.kept (rowPut p).1.length).put (rowPut q).1⟩ else ⟨(rowPut p).2, (rowPut q).2, (x.kept (rowPut q).1.length).put (rowPut p).1, (y.put (rowPut q).1).kept (rowPut p).1.length⟩ := rfl
  rw [e]
  cases prior with
  | true =>
    obtain ⟨a1, a2⟩ := Mk.put_ok2 (s := (rowPut p).1) hx
    obtain ⟨b1, b2⟩ := Mk.kept_ok (n := ((rowPut q).1.length : Int)) a1 (Int.natCast_nonneg _)
    obtain ⟨c1, c2⟩ := Mk.kept_ok (n := ((rowPut p).1.length : Int)) hy (Int.natCast_nonneg _)
    obtain ⟨d1, d2⟩ := Mk.put_ok2 (s := (rowPut q).1) c1
    exact ⟨⟨op, oq, b1, d1, by simp only [cond_true]; omega, by simp only [cond_true]; omega⟩, ep, eq⟩
  | false =>
    obtain ⟨a1, a2⟩ := Mk.kept_ok (n := ((rowPut q).1.length : Int)) hx (Int.natCast_nonneg _)
    obtain ⟨b1, b2⟩ := Mk.put_ok2 (s := (rowPut p).1) a1
    obtain ⟨c1, c2⟩ := Mk.put_ok2 (s := (rowPut q).1) hy
    obtain ⟨d1, d2⟩ := Mk.kept_ok (n := ((rowPut p).1.length : Int)) c1 (Int.natCast_nonneg _)
    exact ⟨⟨op, oq, b1, d1, by simp only [cond_false]; omega, by simp only [cond_false]; omega⟩, ep, eq⟩
theorem Tr.does_ok {p q : List PieceT} {x y : Mk} {n R : Int} (hp : RowOk p) (hq : RowOk q) (hx : x.Ok) (hy : y.Ok) (hn : 0 ≤ n) (hR : rowR p + rowR q ≤ R - n) (wx : x.w + 3 * R ≤ 900000000000) (wy : y.w + 3 * R ≤ 900000000000) (d g : Bool) :
    (Tr.does ⟨p, q, x, y⟩ n d g).Ok ∧ (Tr.does ⟨p, q, x, y⟩ n d g).p = p ∧ (Tr.does ⟨p, q, x, y⟩ n d g).q = q := by
  obtain ⟨a1, a2⟩ := Mk.drop_ok2 (n := n) hx hn
  obtain ⟨b1, b2⟩ := Mk.drop_ok2 (n := n) hy hn
  obtain ⟨c1, c2⟩ := Mk.kept_ok (n := n) hx hn
  obtain ⟨d1, d2⟩ := Mk.kept_ok (n := n) hy hn
  cases d <;> cases g
  · exact ⟨⟨hp, hq, c1, d1, by show (x.kept n).w + _ ≤ _; simp only [Tr.does, cond_false]; omega, by show (y.kept n).w + _ ≤ _; simp only [Tr.does, cond_false]; omega⟩, rfl, rfl⟩
  · exact ⟨⟨hp, hq, hx, b1, by show x.w + _ ≤ _; simp only [Tr.does, cond_false, cond_true]; omega, by show (y.drop n).w + _ ≤ _; simp only [Tr.does, cond_false, cond_true]; omega⟩, rfl, rfl⟩
  · exact ⟨⟨hp, hq, a1, hy, by show (x.drop n).w + _ ≤ _; simp only [Tr.does, cond_false, cond_true]; omega, by show y.w + _ ≤ _; simp only [Tr.does, cond_false, cond_true]; omega⟩, rfl, rfl⟩
  · exact ⟨⟨hp, hq, hx, hy, by show x.w + _ ≤ _; simp only [Tr.does, cond_true]; omega, by show y.w + _ ≤ _; simp only [Tr.does, cond_true]; omega⟩, rfl, rfl⟩
theorem Tr.go_succ {prior : Bool} {f : Nat} {s : Tr} {p q p' q' : List PieceT} {x y : Mk} {n : Int} {d g any : Bool} (h1 : s.puts prior = ⟨p, q, x, y⟩) (h2 : bothR p q = ((n, d, g, any), p', q')) :
    Tr.go prior (f + 1) s = bif any then Tr.go prior f (Tr.does ⟨p', q', x, y⟩ n d g) else ⟨p', q', x, y⟩ := by
  rw [Tr.go, h1]
  simp only
  rw [h2]
end Bow
/- SP29: two edits of one leaf behind each other; what becomes of any operation behind any other one, in plain Lean. -/
namespace Bow
open Go

def editO (b a : OpT) (prior : Bool) : OpT := { b with pieces := (transP b.pieces a.pieces prior).1 }
def behindE (b a : OpT) (prior : Bool) : List OpT × Int :=
  bif !soundO a || !soundO b then ([], 80) else bif decide ((transP b.pieces a.pieces prior).2.2 = 0) && formedB (editO b a prior) then ([bareO (editO b a prior)], 0) else ([], 3)
def behindX (b a : OpT) (prior : Bool) : List OpT × Int := bif bothEdit b a then behindE b a prior else behindO b a prior
theorem formed_pieces {o : OpT} (h : formedB o = true) (hk : o.kind = 6) : rightP o.pieces = true := by
  unfold formedB at h
  simpa [hk] using (Bool.and_eq_true_iff.1 h).2
theorem right_bounds {l : List PieceT} (h : rightP l = true) : l.length ≤ 4096 ∧ ∀ p ∈ l, p.put.length ≤ 1000000000 := by
  have h1 : l.length ≤ 4096 := by
    unfold rightP at h
    rw [Bool.and_eq_true, decide_eq_true_eq] at h
    exact h.1
  obtain ⟨h2, h3⟩ := right_nn h
  have h4 := sumW_mem h2
  refine ⟨h1, fun p hp => ?_⟩
  have : ∀ (l : List PieceT) (n : Nat), rightGo n l = true → ∀ p ∈ l, p.put.length ≤ 1048576 := by
    intro l
    induction l with
    | nil => intro n _ p hp; cases hp
    | cons q l ih =>
      intro n h p hp
      rw [rightGo] at h
      simp only [Bool.and_eq_true, decide_eq_true_eq] at h
      rcases List.mem_cons.1 hp with rfl | hp
      · omega
      · exact ih _ h.2 p hp
  unfold rightP at h
  rw [Bool.and_eq_true] at h
  have := this l 0 h.2 p hp
  omega
theorem trans_right (a b : List PieceT) (prior : Bool) : rightP (transP a b prior).1 = true ∧ rightP (transP a b prior).2.1 = true := by
  unfold transP
  cases h1 : !rightP a || !rightP b with
  | true => exact ⟨rfl, rfl⟩
  | false =>
    simp only [cond_false]
    cases Tr.go prior (extN (normP a) + extN (normP b) + 1) ⟨normP a, normP b, Mk.nil, Mk.nil⟩ with
    | mk p q x y =>
      simp only
      cases h2 : !rightP x.l || !rightP y.l with
      | true => exact ⟨rfl, rfl⟩
      | false =>
        simp only [Bool.or_eq_false_iff, Bool.not_eq_false'] at h2
        exact h2

theorem row_len (b a : OpT) (prior : Bool) : (rowO b a prior).length ≤ 2 := by
  unfold rowO
  cases decide (a.kind = 2) with
  | true =>
    cases within a.path b.path with
    | true => exact Nat.zero_le _
    | false => cases decide (b.kind = 3) && within a.path b.to <;> exact Nat.le_succ _
  | false =>
    cases wonO b a with
    | true => cases prior <;> simp
    | false =>
      cases decide (a.kind = 3) with
      | false => exact Nat.le_succ _
      | true =>
        cases decide (b.kind = 2) with
        | true => cases within b.path a.path && (!decide (b.path = a.path) && !within b.path a.to) <;> simp
        | false => cases decide (b.kind = 3) && (within b.path a.to && within a.path b.to) <;> cases prior <;> simp
theorem bothEdit_comm (a b : OpT) : bothEdit a b = bothEdit b a := by
  unfold bothEdit
  have : decide (b.path = a.path) = decide (a.path = b.path) := decide_eq_decide.2 ⟨fun h => h.symm, fun h => h.symm⟩
  rw [this]
  cases decide (a.kind = 6) <;> cases decide (b.kind = 6) <;> rfl

def bothX (a b : OpT) (prior : Bool) : List OpT × List OpT × Int :=
  bif decide ((behindX a b prior).2 = 0) then (bif decide ((behindX b a (!prior)).2 = 0) then ((behindX a b prior).1, (behindX b a (!prior)).1, 0) else ([], [], (behindX b a (!prior)).2)) else ([], [], (behindX a b prior).2)
def bareL (l : List OpT) : List OpT := l.map bareO
end Bow
/- SP24: lists of operations behind each other, in plain Lean; that it ends. -/
namespace Bow
open Go

def muchP (xs ys : List OpT) : Bool := decide (4096 < xs.length) || decide (4096 < ys.length)
/-- Two lists brought by each other: what is asked of shorter ones by f. -/
def bringS (prior : Bool) (f : List OpT → List OpT → Option (List OpT × List OpT × Int)) (xs ys : List OpT) : Option (List OpT × List OpT × Int) :=
  bif muchP xs ys then some ([], [], 3)
  else match xs, ys with
    | [], ys => some ([], ys, 0)
    | a :: xs, [] => some (a :: xs, [], 0)
    | a :: a' :: xs, b :: ys => match f [a] (b :: ys) with
      | none => none
      | some (x, y, e) => bif !decide (e = 0) then some ([], [], e) else match f (a' :: xs) y with
        | none => none
        | some (z, w, e) => bif !decide (e = 0) then some ([], [], e) else bif muchP (x ++ z) w then some ([], [], 3) else some (x ++ z, w, 0)
    | [a], b :: b' :: ys => match f [a] [b] with
      | none => none
      | some (x, y, e) => bif !decide (e = 0) then some ([], [], e) else match f x (b' :: ys) with
        | none => none
        | some (z, w, e) => bif !decide (e = 0) then some ([], [], e) else bif muchP z (y ++ w) then some ([], [], 3) else some (z, y ++ w, 0)
    | [a], [b] => some (bothX a b prior)
/-- In at most so many steps. -/
def bringF (prior : Bool) : Nat → List OpT → List OpT → Option (List OpT × List OpT × Int)
  | 0 => fun _ _ => none
  | n + 1 => bringS prior (bringF prior n)
theorem bringF_succ (prior : Bool) (n : Nat) (xs ys : List OpT) : bringF prior (n + 1) xs ys = bringS prior (bringF prior n) xs ys := rfl

/-! ### How many moves -/
def mv1 (o : OpT) : Nat := bif decide (o.kind = 3) then 1 else 0
def mvs (l : List OpT) : Nat := (l.map mv1).sum
theorem mvs_nil : mvs [] = 0 := rfl
theorem mvs_cons (o : OpT) (l : List OpT) : mvs (o :: l) = mv1 o + mvs l := by simp [mvs]
theorem mvs_append (a b : List OpT) : mvs (a ++ b) = mvs a + mvs b := by simp [mvs]
theorem mv1_le (o : OpT) : mv1 o ≤ 1 := by unfold mv1; cases decide (o.kind = 3) <;> simp
theorem bare_kind (o : OpT) : (bareO o).kind = o.kind := by
  unfold bareO
  cases h1 : o.kind == 1 with
  | true => exact (eq_of_beq h1).symm
  | false => cases h2 : o.kind == 2 with
    | true => exact (eq_of_beq h2).symm
    | false => cases h3 : o.kind == 3 with
      | true => exact (eq_of_beq h3).symm
      | false => cases h4 : o.kind == 4 with
        | true => exact (eq_of_beq h4).symm
        | false => cases h5 : o.kind == 5 with
          | true => exact (eq_of_beq h5).symm
          | false => cases h6 : o.kind == 6 with
            | true => exact (eq_of_beq h6).symm
            | false => rfl
theorem mv1_bare (o : OpT) : mv1 (bareO o) = mv1 o := by unfold mv1; rw [bare_kind]
theorem mvs_bare (l : List OpT) : mvs (l.map bareO) = mvs l := by
  induction l with
  | nil => rfl
  | cons o l ih => rw [List.map_cons, mvs_cons, mvs_cons, ih, mv1_bare]
theorem mv1_of {o o' : OpT} (h : o.kind = o'.kind) : mv1 o = mv1 o' := by unfold mv1; rw [h]
theorem shifted_kind (b a : OpT) (p : Bool) : (shiftedO b a p).kind = b.kind := by
  unfold shiftedO
  cases decide (b.kind = 1) <;> cases decide (b.kind = 3) <;> rfl
theorem mv1_drop (p : List Int) : mv1 (dropO p) = 0 := rfl

/-- One that becomes two: a delete behind a move, or the prior one of two moves across each other; the other one is gone. -/
theorem row_two {b a : OpT} {p : Bool} (h : (rowO b a p).length = 2) : rowO a b (!p) = [] ∧ ((a.kind = 3 ∧ b.kind = 2 ∧ mvs (rowO b a p) = 0) ∨ (a.kind = 3 ∧ b.kind = 3 ∧ p = true ∧ mvs (rowO b a p) ≤ 2)) := by
  unfold rowO at h ⊢
  cases h1 : decide (a.kind = 2) with
  | true =>
    rw [h1] at h
    cases h2 : within a.path b.path with
    | true => rw [h2] at h; cases h
    | false =>
      rw [h2] at h
      cases h3 : decide (b.kind = 3) && within a.path b.to <;> (rw [h3] at h; cases h)
  | false =>
    rw [h1] at h
    cases h2 : wonO b a with
    | true => rw [h2] at h; cases p <;> cases h
    | false =>
      rw [h2] at h
      have k1 : a.kind ≠ 2 := of_decide_eq_false h1
      cases h3 : decide (a.kind = 3) with
      | false => rw [h3] at h; cases h
      | true =>
        rw [h3] at h
        have k3 : a.kind = 3 := of_decide_eq_true h3
        cases h4 : decide (b.kind = 2) with
        | true =>
          rw [h4] at h
          have k4 : b.kind = 2 := of_decide_eq_true h4
          cases h5 : within b.path a.path && (!decide (b.path = a.path) && !within b.path a.to) with
          | false => rw [h5] at h; cases h
          | true =>
            rw [Bool.and_eq_true] at h5
            refine ⟨?_, .inl ⟨k3, k4, ?_⟩⟩
            · rw [h5.1]; rfl
            · simp [mvs_cons, mvs_nil, mv1_drop]
        | false =>
          rw [h4] at h
          cases h5 : decide (b.kind = 3) && (within b.path a.to && within a.path b.to) with
          | false => rw [h5] at h; cases h
          | true =>
            rw [h5] at h
            have h5' := h5
            simp only [Bool.and_eq_true, decide_eq_true_eq] at h5
            obtain ⟨k5, w1, w2⟩ := h5
            cases p with
            | false => cases h
            | true =>
              have hwon : wonO a b = false := by
                unfold wonO at h2 ⊢
                simp only [k3, k5] at h2 ⊢
                have : decide (b.path = a.path) = decide (a.path = b.path) := decide_eq_decide.2 ⟨fun h => h.symm, fun h => h.symm⟩
                simpa [this] using h2
              refine ⟨?_, .inr ⟨k3, k5, rfl, ?_⟩⟩
              · rw [hwon]
                simp [k5, w1, w2]
              · have := mv1_le (undoO a)
                have := mv1_le b
                simp [mvs_cons, mvs_nil]
                omega
theorem row_one {b a : OpT} {p : Bool} (h : (rowO b a p).length ≠ 2) : mvs (rowO b a p) ≤ mv1 b := by
  have e0 : mvs [] ≤ mv1 b := Nat.zero_le _
  have e1 : mvs [shiftedO b a p] ≤ mv1 b := Nat.le_of_eq (by simp [mvs_cons, mvs_nil, mv1_of (shifted_kind b a p)])
  have e2 : ∀ q, mvs [dropO q] ≤ mv1 b := fun q => by simp [mvs_cons, mvs_nil, mv1_drop]
  unfold rowO at h ⊢
  cases h1 : decide (a.kind = 2) with
  | true =>
    cases h2 : within a.path b.path with
    | true => exact e0
    | false => cases h3 : decide (b.kind = 3) && within a.path b.to with
      | true => exact e2 _
      | false => exact e1
  | false =>
    rw [h1] at h
    cases h2 : wonO b a with
    | true => cases p with
      | true => exact e1
      | false => exact e0
    | false =>
      rw [h2] at h
      cases h3 : decide (a.kind = 3) with
      | false => exact e1
      | true =>
        rw [h3] at h
        cases h4 : decide (b.kind = 2) with
        | true =>
          rw [h4] at h
          cases h5 : within b.path a.path && (!decide (b.path = a.path) && !within b.path a.to) with
          | false => exact e1
          | true => rw [h5] at h; exact absurd rfl h
        | false =>
          rw [h4] at h
          cases h5 : decide (b.kind = 3) && (within b.path a.to && within a.path b.to) with
          | false => exact e1
          | true =>
            rw [h5] at h
            cases p with
            | true => exact absurd rfl h
            | false => exact e0

/-- What becomes of two in a cell: no more than there were; no more moves; where as many of both, the side that is not prior has no more. -/
structure Inv (prior : Bool) (xs ys x y : List OpT) : Prop where
  s : x.length + y.length ≤ xs.length + ys.length
  m : mvs x + mvs y ≤ mvs xs + mvs ys
  t : x.length + y.length = xs.length + ys.length → mvs x + mvs y = mvs xs + mvs ys → (bif prior then y.length else x.length) ≤ (bif prior then ys.length else xs.length)
theorem sound_kinds {b a : OpT} {p : Bool} {l : List OpT} (hs : soundO a = true ∧ soundO b = true) (he : bothEdit b a = false) (h : behindX b a p = (l, 0)) : l = (rowO b a p).map bareO := by
  unfold behindX at h
  rw [he] at h
  unfold behindO at h
  rw [hs.1, hs.2] at h
  simp only [Bool.not_true, Bool.or_self, cond_false] at h
  cases hf : (rowO b a p).all formedB with
  | true => rw [hf] at h; exact (Prod.mk.inj h).1.symm
  | false => rw [hf] at h; simp at h
theorem behX_sound {b a : OpT} {p : Bool} {l : List OpT} (h : behindX b a p = (l, 0)) : soundO a = true ∧ soundO b = true := by
  unfold behindX at h
  cases he : bothEdit b a with
  | true =>
    rw [he] at h
    unfold behindE at h
    cases ha : soundO a <;> cases hb : soundO b <;> simp_all
  | false =>
    rw [he] at h
    unfold behindO at h
    cases ha : soundO a <;> cases hb : soundO b <;> simp_all
theorem bothX_ok {a b : OpT} {prior : Bool} {x y : List OpT} (h : bothX a b prior = (x, y, 0)) : behindX a b prior = (x, 0) ∧ behindX b a (!prior) = (y, 0) := by
  unfold bothX at h
  by_cases h1 : (behindX a b prior).2 = 0
  · by_cases h2 : (behindX b a (!prior)).2 = 0
    · rw [decide_eq_true h1, decide_eq_true h2] at h
      injection h with e1 e2
      injection e2 with e2 _
      exact ⟨Prod.ext e1 h1, Prod.ext e2 h2⟩
    · rw [decide_eq_true h1, decide_eq_false h2] at h
      injection h with _ e2
      injection e2 with _ e2
      exact absurd e2 h2
  · rw [decide_eq_false h1] at h
    injection h with _ e2
    injection e2 with _ e2
    exact absurd e2 h1
theorem edit_mv {b a : OpT} {p : Bool} {l : List OpT} (he : bothEdit b a = true) (h : behindX b a p = (l, 0)) : l.length = 1 ∧ mvs l = 0 := by
  unfold behindX at h
  rw [he] at h
  unfold behindE at h
  have hk : b.kind = 6 := by
    unfold bothEdit at he
    simp only [Bool.and_eq_true, decide_eq_true_eq] at he
    exact he.2.1
  cases ha : !soundO a || !soundO b with
  | true => rw [ha] at h; simp at h
  | false =>
    rw [ha] at h
    cases hc : decide ((transP b.pieces a.pieces p).2.2 = 0) && formedB (editO b a p) with
    | false => rw [hc] at h; simp at h
    | true =>
      rw [hc] at h
      have := (Prod.mk.inj h).1
      subst this
      refine ⟨rfl, ?_⟩
      have : mv1 (bareO (editO b a p)) = 0 := by
        rw [mv1_bare]
        unfold mv1
        have : (editO b a p).kind = 6 := hk
        simp [this]
      simp [mvs_cons, mvs_nil, this]
theorem cell_inv {a b : OpT} {prior : Bool} {x y : List OpT} (h : bothX a b prior = (x, y, 0)) : Inv prior [a] [b] x y := by
  obtain ⟨h1, h2⟩ := bothX_ok h
  have hs := behX_sound h1
  cases he : bothEdit a b with
  | true =>
    obtain ⟨q1, q2⟩ := edit_mv he h1
    obtain ⟨q3, q4⟩ := edit_mv (by rw [bothEdit_comm]; exact he) h2
    exact ⟨by simp [q1, q3], by omega, fun _ _ => by cases prior <;> simp [q1, q3]⟩
  | false =>
    have ex := sound_kinds hs he h1
    have ey := sound_kinds ⟨hs.2, hs.1⟩ (by rw [bothEdit_comm]; exact he) h2
    have lx : x.length = (rowO a b prior).length := by rw [ex]; simp
    have ly : y.length = (rowO b a (!prior)).length := by rw [ey]; simp
    have mx : mvs x = mvs (rowO a b prior) := by rw [ex, mvs_bare]
    have my : mvs y = mvs (rowO b a (!prior)) := by rw [ey, mvs_bare]
    have ba := row_len a b prior
    have bb := row_len b a (!prior)
    by_cases c1 : (rowO a b prior).length = 2
    · obtain ⟨r0, rk⟩ := row_two c1
      rw [r0] at ly my
      rcases rk with ⟨k1, k2, k3⟩ | ⟨k1, k2, k3, k4⟩
      · have : mv1 b = 1 := by unfold mv1; simp [k1]
        refine ⟨by simp only [List.length_cons, List.length_nil] at ly ⊢; omega, by simp only [mvs_cons, mvs_nil] at my ⊢; omega, fun _ hm => ?_⟩
        simp only [mvs_cons, mvs_nil] at my hm
        omega
      · have q1 : mv1 b = 1 := by unfold mv1; simp [k1]
        have q2 : mv1 a = 1 := by unfold mv1; simp [k2]
        refine ⟨by simp only [List.length_cons, List.length_nil] at ly ⊢; omega, by simp only [mvs_cons, mvs_nil] at my ⊢; omega, fun _ _ => ?_⟩
        rw [k3]
        simp only [cond_true, List.length_nil] at ly ⊢
        omega
    · have m1 := row_one c1
      by_cases c2 : (rowO b a (!prior)).length = 2
      · obtain ⟨r0, rk⟩ := row_two c2
        rw [Bool.not_not] at r0
        rw [r0] at lx mx
        rcases rk with ⟨k1, k2, k3⟩ | ⟨k1, k2, k3, k4⟩
        · have : mv1 a = 1 := by unfold mv1; simp [k1]
          refine ⟨by simp only [List.length_cons, List.length_nil] at lx ⊢; omega, by simp only [mvs_cons, mvs_nil] at mx ⊢; omega, fun _ hm => ?_⟩
          simp only [mvs_cons, mvs_nil] at mx hm
          omega
        · have q1 : mv1 a = 1 := by unfold mv1; simp [k1]
          have q2 : mv1 b = 1 := by unfold mv1; simp [k2]
          have hp : prior = false := by simpa using k3
          refine ⟨by simp only [List.length_cons, List.length_nil] at lx ⊢; omega, by simp only [mvs_cons, mvs_nil] at mx ⊢; omega, fun _ _ => ?_⟩
          rw [hp]
          simp only [cond_false, List.length_nil] at lx ⊢
          omega
      · have m2 := row_one c2
        refine ⟨by simp only [List.length_cons, List.length_nil]; omega, by simp only [mvs_cons, mvs_nil]; omega, fun _ _ => ?_⟩
        cases prior <;> simp only [cond_true, cond_false, List.length_cons, List.length_nil] <;> omega
theorem bringF_inv (prior : Bool) : ∀ (n : Nat) (xs ys x y : List OpT), bringF prior n xs ys = some (x, y, 0) → Inv prior xs ys x y
  | 0, _, _, _, _, h => by cases h
  | n + 1, xs, ys, x, y, h => by
    rw [bringF_succ] at h
    unfold bringS at h
    cases hm : muchP xs ys with
    | true => rw [hm] at h; simp at h
    | false =>
      rw [hm, cond_false] at h
      match xs, ys, h with
      | [], ys, h =>
        simp only [Option.some.injEq, Prod.mk.injEq] at h
        obtain ⟨rfl, rfl, _⟩ := h
        exact ⟨Nat.le_refl _, Nat.le_refl _, fun _ _ => Nat.le_refl _⟩
      | a :: xs, [], h =>
        simp only [Option.some.injEq, Prod.mk.injEq] at h
        obtain ⟨rfl, rfl, _⟩ := h
        exact ⟨Nat.le_refl _, Nat.le_refl _, fun _ _ => Nat.le_refl _⟩
      | [a], [b], h =>
        simp only [Option.some.injEq] at h
        exact cell_inv h
      | a :: a' :: xs, b :: ys, h =>
        simp only at h
        cases h1 : bringF prior n [a] (b :: ys) with
        | none => rw [h1] at h; cases h
        | some r =>
          obtain ⟨x1, y1, e1⟩ := r
          rw [h1] at h
          simp only at h
          by_cases he : e1 = 0
          · subst he
            simp only [decide_true, Bool.not_true, cond_false] at h
            cases h2 : bringF prior n (a' :: xs) y1 with
            | none => rw [h2] at h; cases h
            | some r =>
              obtain ⟨z, w, e2⟩ := r
              rw [h2] at h
              simp only at h
              by_cases he : e2 = 0
              · subst he
                simp only [decide_true, Bool.not_true, cond_false] at h
                cases hmm : muchP (x1 ++ z) w with
                | true => rw [hmm] at h; simp at h
                | false =>
                  rw [hmm] at h
                  simp only [cond_false, Option.some.injEq, Prod.mk.injEq, and_true] at h
                  obtain ⟨rfl, rfl⟩ := h
                  have i1 := bringF_inv prior n _ _ _ _ h1
                  have i2 := bringF_inv prior n _ _ _ _ h2
                  have s1 := i1.s
                  have s2 := i2.s
                  have m1 := i1.m
                  have m2 := i2.m
                  simp only [mvs_cons, mvs_nil, List.length_cons, List.length_nil] at s1 s2 m1 m2
                  refine ⟨by simp only [List.length_append, List.length_cons]; omega, by simp only [mvs_append, mvs_cons]; omega, fun q1 q2 => ?_⟩
                  simp only [List.length_append, List.length_cons, mvs_append, mvs_cons] at q1 q2
                  have t1 := i1.t (by simp only [List.length_cons, List.length_nil]; omega) (by simp only [mvs_cons, mvs_nil]; omega)
                  have t2 := i2.t (by simp only [List.length_cons]; omega) (by simp only [mvs_cons]; omega)
                  cases prior <;> simp only [cond_true, cond_false, List.length_cons, List.length_nil, List.length_append] at t1 t2 ⊢ <;> omega
              · simp [he] at h
          · simp [he] at h
      | [a], b :: b' :: ys, h =>
        simp only at h
        cases h1 : bringF prior n [a] [b] with
        | none => rw [h1] at h; cases h
        | some r =>
          obtain ⟨x1, y1, e1⟩ := r
          rw [h1] at h
          simp only at h
          by_cases he : e1 = 0
          · subst he
            simp only [decide_true, Bool.not_true, cond_false] at h
            cases h2 : bringF prior n x1 (b' :: ys) with
            | none => rw [h2] at h; cases h
            | some r =>
              obtain ⟨z, w, e2⟩ := r
              rw [h2] at h
              simp only at h
              by_cases he : e2 = 0
              · subst he
                simp only [decide_true, Bool.not_true, cond_false] at h
                cases hmm : muchP z (y1 ++ w) with
                | true => rw [hmm] at h; simp at h
                | false =>
                  rw [hmm] at h
                  simp only [cond_false, Option.some.injEq, Prod.mk.injEq, and_true] at h
                  obtain ⟨rfl, rfl⟩ := h
                  have i1 := bringF_inv prior n _ _ _ _ h1
                  have i2 := bringF_inv prior n _ _ _ _ h2
                  have s1 := i1.s
                  have s2 := i2.s
                  have m1 := i1.m
                  have m2 := i2.m
                  simp only [mvs_cons, mvs_nil, List.length_cons, List.length_nil] at s1 s2 m1 m2
                  refine ⟨by simp only [List.length_append, List.length_cons, List.length_nil]; omega, by simp only [mvs_append, mvs_cons, mvs_nil]; omega, fun q1 q2 => ?_⟩
                  simp only [List.length_append, List.length_cons, List.length_nil, mvs_append, mvs_cons, mvs_nil] at q1 q2
                  have t1 := i1.t (by simp only [List.length_cons, List.length_nil]; omega) (by simp only [mvs_cons, mvs_nil]; omega)
                  have t2 := i2.t (by simp only [List.length_cons]; omega) (by simp only [mvs_cons]; omega)
                  cases prior <;> simp only [cond_true, cond_false, List.length_cons, List.length_nil, List.length_append] at t1 t2 ⊢ <;> omega
              · simp [he] at h
          · simp [he] at h

theorem bringF_err {prior : Bool} : ∀ {n : Nat} {xs ys x y : List OpT} {e : Int}, bringF prior n xs ys = some (x, y, e) → e ≠ 0 → x = [] ∧ y = []
  | 0, _, _, _, _, _, h, _ => by cases h
  | n + 1, xs, ys, x, y, e, h, he => by
    rw [bringF_succ] at h
    unfold bringS at h
    cases hm : muchP xs ys with
    | true => rw [hm] at h; simp at h; exact ⟨h.1, h.2.1⟩
    | false =>
      rw [hm, cond_false] at h
      match xs, ys, h with
      | [], ys, h => simp at h; exact absurd h.2.2.symm he
      | a :: xs, [], h => simp at h; exact absurd h.2.2.symm he
      | [a], [b], h =>
        simp only [Option.some.injEq] at h
        unfold bothX at h
        cases h1 : decide ((behindX a b prior).2 = 0) with
        | false => rw [h1] at h; simp at h; exact ⟨h.1, h.2.1⟩
        | true => cases h2 : decide ((behindX b a (!prior)).2 = 0) with
          | false => rw [h1, h2] at h; simp at h; exact ⟨h.1, h.2.1⟩
          | true => rw [h1, h2] at h; simp at h; exact absurd h.2.2.symm he
      | a :: a' :: xs, b :: ys, h =>
        simp only at h
        cases h1 : bringF prior n [a] (b :: ys) with
        | none => rw [h1] at h; cases h
        | some r =>
          obtain ⟨x1, y1, e1⟩ := r
          rw [h1] at h
          simp only at h
          cases h3 : !decide (e1 = 0) with
          | true => rw [h3] at h; simp at h; exact ⟨h.1, h.2.1⟩
          | false =>
            rw [h3, cond_false] at h
            cases h2 : bringF prior n (a' :: xs) y1 with
            | none => rw [h2] at h; cases h
            | some r =>
              obtain ⟨z, w, e2⟩ := r
              rw [h2] at h
              simp only at h
              cases h4 : !decide (e2 = 0) with
              | true => rw [h4] at h; simp at h; exact ⟨h.1, h.2.1⟩
              | false =>
                rw [h4, cond_false] at h
                cases hmm : muchP (x1 ++ z) w with
                | true => rw [hmm] at h; simp at h; exact ⟨h.1, h.2.1⟩
                | false => rw [hmm] at h; simp at h; exact absurd h.2.2.symm he
      | [a], b :: b' :: ys, h =>
        simp only at h
        cases h1 : bringF prior n [a] [b] with
        | none => rw [h1] at h; cases h
        | some r =>
          obtain ⟨x1, y1, e1⟩ := r
          rw [h1] at h
          simp only at h
          cases h3 : !decide (e1 = 0) with
          | true => rw [h3] at h; simp at h; exact ⟨h.1, h.2.1⟩
          | false =>
            rw [h3, cond_false] at h
            cases h2 : bringF prior n x1 (b' :: ys) with
            | none => rw [h2] at h; cases h
            | some r =>
              obtain ⟨z, w, e2⟩ := r
              rw [h2] at h
              simp only at h
              cases h4 : !decide (e2 = 0) with
              | true => rw [h4] at h; simp at h; exact ⟨h.1, h.2.1⟩
              | false =>
                rw [h4, cond_false] at h
                cases hmm : muchP z (y1 ++ w) with
                | true => rw [hmm] at h; simp at h; exact ⟨h.1, h.2.1⟩
                | false => rw [hmm] at h; simp at h; exact absurd h.2.2.symm he
theorem bringF_mono (prior : Bool) : ∀ (n : Nat) (xs ys : List OpT) (r), bringF prior n xs ys = some r → bringF prior (n + 1) xs ys = some r
  | 0, _, _, _, h => by cases h
  | n + 1, xs, ys, r, h => by
    rw [bringF_succ] at h ⊢
    unfold bringS at h ⊢
    cases hm : muchP xs ys with
    | true => rw [hm] at h; exact h
    | false =>
      rw [hm, cond_false] at h
      rw [cond_false]
      match xs, ys, h with
      | [], ys, h => exact h
      | a :: xs, [], h => exact h
      | [a], [b], h => exact h
      | a :: a' :: xs, b :: ys, h =>
        simp only at h ⊢
        cases h1 : bringF prior n [a] (b :: ys) with
        | none => rw [h1] at h; cases h
        | some r1 =>
          rw [h1] at h
          rw [bringF_mono prior n _ _ _ h1]
          obtain ⟨x1, y1, e1⟩ := r1
          simp only at h ⊢
          cases he : !decide (e1 = 0) with
          | true => rw [he] at h; exact h
          | false =>
            rw [he, cond_false] at h
            rw [cond_false]
            cases h2 : bringF prior n (a' :: xs) y1 with
            | none => rw [h2] at h; cases h
            | some r2 => rw [h2] at h; rw [bringF_mono prior n _ _ _ h2]; exact h
      | [a], b :: b' :: ys, h =>
        simp only at h ⊢
        cases h1 : bringF prior n [a] [b] with
        | none => rw [h1] at h; cases h
        | some r1 =>
          rw [h1] at h
          rw [bringF_mono prior n _ _ _ h1]
          obtain ⟨x1, y1, e1⟩ := r1
          simp only at h ⊢
          cases he : !decide (e1 = 0) with
          | true => rw [he] at h; exact h
          | false =>
            rw [he, cond_false] at h
            rw [cond_false]
            cases h2 : bringF prior n x1 (b' :: ys) with
            | none => rw [h2] at h; cases h
            | some r2 => rw [h2] at h; rw [bringF_mono prior n _ _ _ h2]; exact h
theorem bringF_le {prior : Bool} {n m : Nat} {xs ys : List OpT} {r} (h : bringF prior n xs ys = some r) (hn : n ≤ m) : bringF prior m xs ys = some r := by
  induction hn with
  | refl => exact h
  | step _ ih => exact bringF_mono prior _ _ _ _ ih
theorem bringF_det {prior : Bool} {n m : Nat} {xs ys : List OpT} {r r'} (h : bringF prior n xs ys = some r) (h' : bringF prior m xs ys = some r') : r = r' := by
  have h1 := bringF_le h (Nat.le_max_left n m)
  rw [bringF_le h' (Nat.le_max_right n m)] at h1
  injection h1 with h1
  exact h1.symm

/-- It ends. -/
theorem bringF_total (prior : Bool) : ∀ (s m t : Nat) (xs ys : List OpT), xs.length + ys.length = s → mvs xs + mvs ys = m → (bif prior then ys.length else xs.length) = t → ∃ n r, bringF prior n xs ys = some r := by
  intro s
  induction s using Nat.strongRecOn with
  | _ s ihs =>
  intro m
  induction m using Nat.strongRecOn with
  | _ m ihm =>
  intro t
  induction t using Nat.strongRecOn with
  | _ t iht =>
  intro xs ys hs hm ht
  have hrec : ∀ (x y : List OpT), (x.length + y.length < s ∨ (x.length + y.length = s ∧ (mvs x + mvs y < m ∨ (mvs x + mvs y = m ∧ (bif prior then y.length else x.length) < t)))) → ∃ n r, bringF prior n x y = some r := by
    intro x y h
    rcases h with h | ⟨h1, h | ⟨h2, h3⟩⟩
    · exact ihs _ h _ _ x y rfl rfl rfl
    · exact ihm _ h _ x y h1 rfl rfl
    · exact iht _ h3 x y h1 h2 rfl
  match xs, ys, hs, hm, ht with
  | [], ys, _, _, _ => exact ⟨1, by rw [bringF_succ]; unfold bringS; cases muchP [] ys <;> exact ⟨_, rfl⟩⟩
  | a :: xs, [], _, _, _ => exact ⟨1, by rw [bringF_succ]; unfold bringS; cases muchP (a :: xs) [] <;> exact ⟨_, rfl⟩⟩
  | [a], [b], _, _, _ => exact ⟨1, by rw [bringF_succ]; unfold bringS; cases muchP [a] [b] <;> exact ⟨_, rfl⟩⟩
  | a :: a' :: xs, b :: ys, hs, hm, ht =>
    simp only [List.length_cons, mvs_cons] at hs hm ht
    obtain ⟨n1, ⟨x1, y1, e1⟩, h1⟩ := hrec [a] (b :: ys) (.inl (by simp only [List.length_cons, List.length_nil]; omega))
    by_cases he : e1 = 0
    · subst he
      have i1 := bringF_inv prior n1 _ _ _ _ h1
      have s1 := i1.s
      have m1 := i1.m
      have t1 := i1.t
      simp only [mvs_cons, mvs_nil, List.length_cons, List.length_nil] at s1 m1 t1
      obtain ⟨n2, ⟨z, w, e2⟩, h2⟩ := hrec (a' :: xs) y1 (by
        simp only [List.length_cons, mvs_cons]
        by_cases c1 : xs.length + 1 + y1.length < s
        · exact .inl c1
        · refine .inr ⟨by omega, ?_⟩
          by_cases c2 : mv1 a' + mvs xs + mvs y1 < m
          · exact .inl c2
          · refine .inr ⟨by omega, ?_⟩
            have := t1 (by omega) (by omega)
            cases prior <;> simp only [cond_true, cond_false] at this ht ⊢ <;> omega)
      refine ⟨max n1 n2 + 1, ?_⟩
      rw [bringF_succ]
      unfold bringS
      cases muchP (a :: a' :: xs) (b :: ys) with
      | true => exact ⟨_, rfl⟩
      | false =>
        rw [cond_false]
        simp only
        rw [bringF_le h1 (Nat.le_max_left _ _)]
        simp only [decide_true, Bool.not_true, cond_false]
        rw [bringF_le h2 (Nat.le_max_right _ _)]
        simp only
        cases !decide (e2 = 0) <;> cases muchP (x1 ++ z) w <;> exact ⟨_, rfl⟩
    · refine ⟨n1 + 1, ?_⟩
      rw [bringF_succ]
      unfold bringS
      cases muchP (a :: a' :: xs) (b :: ys) with
      | true => exact ⟨_, rfl⟩
      | false =>
        rw [cond_false]
        simp only
        rw [h1]
        simp only [decide_eq_false he, Bool.not_false, cond_true]
        exact ⟨_, rfl⟩
  | [a], b :: b' :: ys, hs, hm, ht =>
    simp only [List.length_cons, List.length_nil, mvs_cons, mvs_nil] at hs hm ht
    obtain ⟨n1, ⟨x1, y1, e1⟩, h1⟩ := hrec [a] [b] (.inl (by simp only [List.length_cons, List.length_nil]; omega))
    by_cases he : e1 = 0
    · subst he
      have i1 := bringF_inv prior n1 _ _ _ _ h1
      have s1 := i1.s
      have m1 := i1.m
      have t1 := i1.t
      simp only [mvs_cons, mvs_nil, List.length_cons, List.length_nil] at s1 m1 t1
      obtain ⟨n2, ⟨z, w, e2⟩, h2⟩ := hrec x1 (b' :: ys) (by
        simp only [List.length_cons, mvs_cons]
        by_cases c1 : x1.length + (ys.length + 1) < s
        · exact .inl c1
        · refine .inr ⟨by omega, ?_⟩
          by_cases c2 : mvs x1 + (mv1 b' + mvs ys) < m
          · exact .inl c2
          · refine .inr ⟨by omega, ?_⟩
            have := t1 (by omega) (by omega)
            cases prior <;> simp only [cond_true, cond_false] at this ht ⊢ <;> omega)
      refine ⟨max n1 n2 + 1, ?_⟩
      rw [bringF_succ]
      unfold bringS
      cases muchP [a] (b :: b' :: ys) with
      | true => exact ⟨_, rfl⟩
      | false =>
        rw [cond_false]
        simp only
        rw [bringF_le h1 (Nat.le_max_left _ _)]
        simp only [decide_true, Bool.not_true, cond_false]
        rw [bringF_le h2 (Nat.le_max_right _ _)]
        simp only
        cases !decide (e2 = 0) <;> cases muchP z (y1 ++ w) <;> exact ⟨_, rfl⟩
    · refine ⟨n1 + 1, ?_⟩
      rw [bringF_succ]
      unfold bringS
      cases muchP [a] (b :: b' :: ys) with
      | true => exact ⟨_, rfl⟩
      | false =>
        rw [cond_false]
        simp only
        rw [h1]
        simp only [decide_eq_false he, Bool.not_false, cond_true]
        exact ⟨_, rfl⟩
theorem bring_ends (prior : Bool) (xs ys : List OpT) : ∃ n r, bringF prior n xs ys = some r := bringF_total prior _ _ _ xs ys rfl rfl rfl
end Bow
/- SP25: what an operation does not say counts for nothing (square); lists brought one behind the other, in plain Lean. -/
namespace Bow
open Go

/-- The fields that an operation of a known kind says. -/
theorem bareK1 {o : OpT} (h : o.kind = 1) : bareO o = { noOp 1 with path := o.path, at_ := o.at_, id := o.id, leaf := o.leaf, label := o.label } := by unfold bareO; rw [h]; rfl
theorem bareK2 {o : OpT} (h : o.kind = 2) : bareO o = { noOp 2 with path := o.path } := by unfold bareO; rw [h]; rfl
theorem bareK3 {o : OpT} (h : o.kind = 3) : bareO o = { noOp 3 with path := o.path, at_ := o.at_, to := o.to } := by unfold bareO; rw [h]; rfl
theorem bareK4 {o : OpT} (h : o.kind = 4) : bareO o = { noOp 4 with path := o.path, key := o.key, gone := o.gone, value := bif o.gone then [] else o.value } := by unfold bareO; rw [h]; rfl
theorem bareK5 {o : OpT} (h : o.kind = 5) : bareO o = { noOp 5 with path := o.path, label := o.label } := by unfold bareO; rw [h]; rfl
theorem bareK6 {o : OpT} (h : o.kind = 6) : bareO o = { noOp 6 with path := o.path, pieces := o.pieces } := by unfold bareO; rw [h]; rfl
theorem bareX {o : OpT} (h1 : o.kind ≠ 1) (h2 : o.kind ≠ 2) (h3 : o.kind ≠ 3) (h4 : o.kind ≠ 4) (h5 : o.kind ≠ 5) (h6 : o.kind ≠ 6) : bareO o = noOp o.kind := by
  unfold bareO
  have e : ∀ {n : Int}, o.kind ≠ n → (o.kind == n) = false := fun h => by simpa using h
  rw [e h1, e h2, e h3, e h4, e h5, e h6]
  rfl
theorem kind_cases (o : OpT) : o.kind = 1 ∨ o.kind = 2 ∨ o.kind = 3 ∨ o.kind = 4 ∨ o.kind = 5 ∨ o.kind = 6 ∨ (o.kind ≠ 1 ∧ o.kind ≠ 2 ∧ o.kind ≠ 3 ∧ o.kind ≠ 4 ∧ o.kind ≠ 5 ∧ o.kind ≠ 6) := by omega
theorem formed_bad {o : OpT} (h : o.kind ≠ 1 ∧ o.kind ≠ 2 ∧ o.kind ≠ 3 ∧ o.kind ≠ 4 ∧ o.kind ≠ 5 ∧ o.kind ≠ 6) : formedB o = false := by
  unfold formedB
  obtain ⟨h1, h2, h3, h4, h5, h6⟩ := h
  have e : ∀ {n : Int}, o.kind ≠ n → (o.kind == n) = false := fun h => by simpa using h
  rw [e h1, e h2, e h3, e h4, e h5, e h6]
  simp
theorem bare_idem (o : OpT) : bareO (bareO o) = bareO o := by
  rcases kind_cases o with h | h | h | h | h | h | ⟨h1, h2, h3, h4, h5, h6⟩
  · rw [bareK1 h]; rfl
  · rw [bareK2 h]; rfl
  · rw [bareK3 h]; rfl
  · rw [bareK4 h]
    unfold bareO
    cases o.gone <;> rfl
  · rw [bareK5 h]; rfl
  · rw [bareK6 h]; rfl
  · have e : (bareO o).kind = o.kind := bare_kind o
    rw [bareX (o := bareO o) (by rw [e]; exact h1) (by rw [e]; exact h2) (by rw [e]; exact h3) (by rw [e]; exact h4) (by rw [e]; exact h5) (by rw [e]; exact h6), e, bareX h1 h2 h3 h4 h5 h6]
theorem formed_bare (o : OpT) : formedB (bareO o) = formedB o := by
  rcases kind_cases o with h | h | h | h | h | h | hx
  · rw [bareK1 h]; unfold formedB; rw [h]; rfl
  · rw [bareK2 h]; unfold formedB; rw [h]; rfl
  · rw [bareK3 h]; unfold formedB; rw [h]; rfl
  · rw [bareK4 h]; unfold formedB; rw [h]
    cases o.gone <;> rfl
  · rw [bareK5 h]; unfold formedB; rw [h]; rfl
  · rw [bareK6 h]; unfold formedB; rw [h]; rfl
  · rw [formed_bad hx]
    have e : (bareO o).kind = o.kind := bare_kind o
    exact formed_bad (by rw [e]; exact hx)
theorem sound_bare (o : OpT) : soundO (bareO o) = soundO o := by
  unfold soundO
  rw [formed_bare]
  rcases kind_cases o with h | h | h | h | h | h | hx
  · rw [bareK1 h, h]; rfl
  · rw [bareK2 h, h]; rfl
  · rw [bareK3 h, h]; rfl
  · rw [bareK4 h, h]; rfl
  · rw [bareK5 h, h]; rfl
  · rw [bareK6 h, h]; rfl
  · rw [formed_bad hx]; rfl
theorem sound_kind {o : OpT} (h : soundO o = true) : o.kind = 1 ∨ o.kind = 2 ∨ o.kind = 3 ∨ o.kind = 4 ∨ o.kind = 5 ∨ o.kind = 6 := by
  rcases kind_cases o with k | k | k | k | k | k | k
  · exact .inl k
  · exact .inr (.inl k)
  · exact .inr (.inr (.inl k))
  · exact .inr (.inr (.inr (.inl k)))
  · exact .inr (.inr (.inr (.inr (.inl k))))
  · exact .inr (.inr (.inr (.inr (.inr k))))
  · exfalso
    unfold soundO at h
    rw [formed_bad k] at h
    cases h
theorem sound_path {o : OpT} (h : soundO o = true) : (bareO o).path = o.path := by
  rcases sound_kind h with k | k | k | k | k | k
  · rw [bareK1 k]
  · rw [bareK2 k]
  · rw [bareK3 k]
  · rw [bareK4 k]
  · rw [bareK5 k]
  · rw [bareK6 k]
theorem moves_bare {o : OpT} (h : soundO o = true) : movesO (bareO o) = movesO o := by
  unfold movesO
  rw [formed_bare]
  rcases sound_kind h with k | k | k | k | k | k
  · rw [bareK1 k, k]; rfl
  · rw [bareK2 k, k]; rfl
  · rw [bareK3 k, k]; rfl
  · rw [bareK4 k, k]; rfl
  · rw [bareK5 k, k]; rfl
  · rw [bareK6 k, k]; rfl
theorem number_noputs {c d : Chg} (h1 : c.puts = false) (h2 : d.puts = false) (h3 : c.takes = d.takes) (h4 : c.frm = d.frm) (h5 : c.at_ = d.at_) (p : List Int) (k : Int) : c.number p k = d.number p k := by
  unfold Chg.number
  rw [h1, h2, h3, h4, h5]
  rfl
theorem nums_noputs {c d : Chg} (h1 : c.puts = false) (h2 : d.puts = false) (h3 : c.takes = d.takes) (h4 : c.frm = d.frm) (h5 : c.at_ = d.at_) : ∀ (p q : List Int), c.nums q p = d.nums q p
  | [], _ => rfl
  | k :: p, q => by rw [Chg.nums, Chg.nums, number_noputs h1 h2 h3 h4 h5, nums_noputs h1 h2 h3 h4 h5 p]
/-- Of a delete where it puts nothing is not asked. -/
theorem node_bare {a : OpT} (h : soundO a = true) (q : List Int) : nodeP (bareO a) q = nodeP a q := by
  have hm := moves_bare h
  have hp := sound_path h
  unfold nodeP
  rw [hm, hp]
  rcases sound_kind h with k | k | k | k | k | k
  · have e : chgO (bareO a) = chgO a := by rw [bareK1 k]; unfold chgO; rw [k]; rfl
    have e2 : (chgO a).takes = false := by unfold chgO; simp [k]
    rw [e, e2]
    rfl
  · have p1 : (chgO (bareO a)).puts = false := by rw [bareK2 k]; rfl
    have p2 : (chgO a).puts = false := by unfold chgO; simp [k]
    have t1 : (chgO (bareO a)).takes = (chgO a).takes := by rw [bareK2 k]; unfold chgO; rw [k]; rfl
    have f1 : (chgO (bareO a)).frm = (chgO a).frm := by rw [bareK2 k]; unfold chgO; rw [k]; rfl
    have a1 : (chgO (bareO a)).at_ = (chgO a).at_ := by rw [bareK2 k]; unfold chgO; rw [k]; rfl
    rw [p1, p2, t1]
    simp only [nums_noputs p1 p2 t1 f1 a1]
    cases !movesO a <;> cases (chgO a).takes && within a.path q <;> rfl
  · have e : chgO (bareO a) = chgO a := by rw [bareK3 k]; unfold chgO; rw [k]; rfl
    have e2 : (bareO a).to = a.to := by rw [bareK3 k]
    rw [e, e2]
  · have : movesO a = false := by unfold movesO; simp [k]
    rw [this]; rfl
  · have : movesO a = false := by unfold movesO; simp [k]
    rw [this]; rfl
  · have : movesO a = false := by unfold movesO; simp [k]
    rw [this]; rfl
theorem gap_bare {a : OpT} (h : soundO a = true) (q : List Int) (n : Int) (f : Bool) : gapP (bareO a) q n f = gapP a q n f := by
  have hm := moves_bare h
  unfold gapP
  rw [node_bare h]
  cases nodeP a q with
  | none => rfl
  | some r =>
    simp only
    rw [hm]
    cases hmv : movesO a with
    | false => rfl
    | true =>
      rcases sound_kind h with k | k | k | k | k | k
      · have e : chgO (bareO a) = chgO a := by rw [bareK1 k]; unfold chgO; rw [k]; rfl
        rw [e]
      · have p1 : (chgO (bareO a)).puts = false := by rw [bareK2 k]; rfl
        have p2 : (chgO a).puts = false := by unfold chgO; simp [k]
        have t1 : (chgO (bareO a)).takes = (chgO a).takes := by rw [bareK2 k]; unfold chgO; rw [k]; rfl
        have f1 : (chgO (bareO a)).frm = (chgO a).frm := by rw [bareK2 k]; unfold chgO; rw [k]; rfl
        have a1 : (chgO (bareO a)).at_ = (chgO a).at_ := by rw [bareK2 k]; unfold chgO; rw [k]; rfl
        rw [p1, p2, t1, f1, a1]
        rfl
      · have e : chgO (bareO a) = chgO a := by rw [bareK3 k]; unfold chgO; rw [k]; rfl
        rw [e]
      · unfold movesO at hmv; simp [k] at hmv
      · unfold movesO at hmv; simp [k] at hmv
      · unfold movesO at hmv; simp [k] at hmv
theorem undo_bare {a : OpT} (h : soundO a = true) : undoO (bareO a) = undoO a := by
  unfold undoO
  rw [moves_bare h, bare_kind]
  by_cases k : a.kind = 3
  · have e : chgO (bareO a) = chgO a := by rw [bareK3 k]; unfold chgO; rw [k]; rfl
    rw [sound_path h, node_bare h, node_bare h, e]
  · rw [decide_eq_false k]; rfl
theorem won_bare {a b : OpT} (ha : soundO a = true) (hb : soundO b = true) : wonO (bareO b) (bareO a) = wonO b a := by
  unfold wonO
  rw [bare_kind, bare_kind, sound_path ha, sound_path hb]
  by_cases k : a.kind = b.kind
  · by_cases k4 : b.kind = 4
    · have e1 : (bareO b).key = b.key := by rw [bareK4 k4]
      have e2 : (bareO a).key = a.key := by rw [bareK4 (by rw [k]; exact k4)]
      rw [e1, e2]
    · rw [decide_eq_false k4]
      simp
  · rw [decide_eq_false k]
    simp
theorem shifted_bare {a b : OpT} (ha : soundO a = true) (hb : soundO b = true) (p : Bool) : bareO (shiftedO (bareO b) (bareO a) p) = bareO (shiftedO b a p) := by
  unfold shiftedO
  rw [bare_kind, sound_path hb, node_bare ha]
  rcases sound_kind hb with k | k | k | k | k | k
  · simp only [gap_bare ha]
    rw [bareK1 k, k]
    rfl
  · rw [bareK2 k, k]; rfl
  · simp only [gap_bare ha]
    rw [bareK3 k, k]
    rfl
  · rw [bareK4 k, k]
    unfold bareO
    cases b.gone <;> rfl
  · rw [bareK5 k, k]; rfl
  · rw [bareK6 k, k]; rfl
theorem bare_to {o : OpT} (k : o.kind = 3) : (bareO o).to = o.to := by rw [bareK3 k]
theorem row_bare {a b : OpT} (ha : soundO a = true) (hb : soundO b = true) (p : Bool) : (rowO (bareO b) (bareO a) p).map bareO = (rowO b a p).map bareO := by
  have hs := shifted_bare ha hb p
  unfold rowO
  rw [bare_kind a, bare_kind b, sound_path ha, sound_path hb, won_bare ha hb, node_bare ha, node_bare ha, undo_bare ha]
  by_cases k1 : a.kind = 2
  · rw [decide_eq_true k1]
    cases within a.path b.path with
    | true => rfl
    | false =>
      by_cases k3 : b.kind = 3
      · rw [decide_eq_true k3, bare_to k3]
        cases within a.path b.to with
        | true => rfl
        | false => simp only [Bool.and_false, cond_false, cond_true, List.map_cons, List.map_nil, hs]
      · rw [decide_eq_false k3]
        simp only [Bool.false_and, cond_false, cond_true, List.map_cons, List.map_nil, hs]
  · rw [decide_eq_false k1]
    cases wonO b a with
    | true => cases p with
      | true => simp only [cond_false, cond_true, List.map_cons, List.map_nil, hs]
      | false => rfl
    | false =>
      by_cases k3 : a.kind = 3
      · rw [decide_eq_true k3, bare_to k3]
        by_cases k4 : b.kind = 2
        · rw [decide_eq_true k4]
          cases within b.path a.path && (!decide (b.path = a.path) && !within b.path a.to) with
          | true => rfl
          | false => simp only [Bool.not_true, cond_false, cond_true, List.map_cons, List.map_nil, hs]
        · rw [decide_eq_false k4]
          by_cases k5 : b.kind = 3
          · rw [decide_eq_true k5, bare_to k5]
            cases within b.path a.to && within a.path b.to with
            | true => cases p with
              | true => simp only [Bool.not_true, Bool.and_self, cond_false, cond_true, List.map_cons, List.map_nil, bare_idem]
              | false => rfl
            | false => simp only [Bool.not_true, Bool.and_false, cond_false, List.map_cons, List.map_nil, hs]
          · rw [decide_eq_false k5]
            simp only [Bool.not_true, Bool.false_and, cond_false, List.map_cons, List.map_nil, hs]
      · rw [decide_eq_false k3]
        simp only [Bool.not_false, cond_false, cond_true, List.map_cons, List.map_nil, hs]
theorem all_bare (l : List OpT) : (l.map bareO).all formedB = l.all formedB := by
  induction l with
  | nil => rfl
  | cons o l ih => rw [List.map_cons, List.all_cons, List.all_cons, ih, formed_bare]
theorem behX_bad {a b : OpT} (h : (!soundO a || !soundO b) = true) (p : Bool) : behindX b a p = ([], 80) := by
  unfold behindX behindE behindO
  rw [h]
  cases bothEdit b a <;> rfl
theorem behX_bare (b a : OpT) (p : Bool) : behindX (bareO b) (bareO a) p = behindX b a p := by
  cases h : !soundO a || !soundO b with
  | true => rw [behX_bad h, behX_bad (by rw [sound_bare, sound_bare]; exact h)]
  | false =>
    have h' := h
    rw [Bool.or_eq_false_iff] at h'
    have ha : soundO a = true := by simpa using h'.1
    have hb : soundO b = true := by simpa using h'.2
    have he : bothEdit (bareO b) (bareO a) = bothEdit b a := by
      unfold bothEdit
      rw [bare_kind, bare_kind, sound_path ha, sound_path hb]
    unfold behindX
    rw [he]
    cases heb : bothEdit b a with
    | true =>
      have hk : a.kind = 6 ∧ b.kind = 6 := by
        unfold bothEdit at heb
        simp only [Bool.and_eq_true, decide_eq_true_eq] at heb
        exact ⟨heb.1, heb.2.1⟩
      have pa : (bareO a).pieces = a.pieces := by rw [bareK6 hk.1]
      have pb : (bareO b).pieces = b.pieces := by rw [bareK6 hk.2]
      have e : bareO (editO (bareO b) (bareO a) p) = bareO (editO b a p) := by
        unfold editO
        rw [pa, pb, bareK6 hk.2, bareK6 (o := { b with pieces := (transP b.pieces a.pieces p).1 }) hk.2]
        rfl
      have ef : formedB (editO (bareO b) (bareO a) p) = formedB (editO b a p) := by rw [← formed_bare, e, formed_bare]
      unfold behindE
      rw [sound_bare, sound_bare, pa, pb, ef, e]
      rfl
    | false =>
      have e := row_bare ha hb p
      unfold behindO
      rw [sound_bare, sound_bare, ← all_bare, e, all_bare]
      rfl
theorem bothX_bare (a b : OpT) (p : Bool) : bothX (bareO a) (bareO b) p = bothX a b p := by
  unfold bothX
  rw [behX_bare, behX_bare]

/-- Two answers that say the same. -/
def SameR (r r' : List OpT × List OpT × Int) : Prop := r.1.map bareO = r'.1.map bareO ∧ r.2.1.map bareO = r'.2.1.map bareO ∧ r.2.2 = r'.2.2
theorem map_len {xs xs' : List OpT} (h : xs.map bareO = xs'.map bareO) : xs.length = xs'.length := by simpa using congrArg List.length h
theorem muchP_same {xs xs' ys ys' : List OpT} (h1 : xs.map bareO = xs'.map bareO) (h2 : ys.map bareO = ys'.map bareO) : muchP xs ys = muchP xs' ys' := by
  unfold muchP
  rw [map_len h1, map_len h2]
theorem bothX_same {a a' b b' : OpT} (h1 : bareO a = bareO a') (h2 : bareO b = bareO b') (p : Bool) : bothX a b p = bothX a' b' p := by
  rw [← bothX_bare a b, ← bothX_bare a' b', h1, h2]
theorem bringF_same (prior : Bool) : ∀ (n : Nat) (xs ys xs' ys' : List OpT) (r), xs.map bareO = xs'.map bareO → ys.map bareO = ys'.map bareO → bringF prior n xs ys = some r → ∃ r', bringF prior n xs' ys' = some r' ∧ SameR r r'
  | 0, _, _, _, _, _, _, _, h => by cases h
  | n + 1, xs, ys, xs', ys', r, hx, hy, h => by
    rw [bringF_succ] at h ⊢
    unfold bringS at h ⊢
    rw [← muchP_same hx hy]
    have same0 : ∀ e : Int, SameR ([], [], e) ([], [], e) := fun e => ⟨rfl, rfl, rfl⟩
    cases hm : muchP xs ys with
    | true => rw [hm] at h; simp at h; subst h; exact ⟨_, rfl, same0 3⟩
    | false =>
      rw [hm, cond_false] at h
      rw [cond_false]
      match xs, xs', hx, ys, ys', hy, h with
      | [], [], _, ys, ys', hy, h => simp at h; subst h; exact ⟨_, rfl, rfl, hy, rfl⟩
      | [], _ :: _, hx, _, _, _, _ => simp at hx
      | _ :: _, [], hx, _, _, _, _ => simp at hx
      | a :: xs, c :: xs', hx, [], [], _, h => simp at h; subst h; exact ⟨_, rfl, hx, rfl, rfl⟩
      | _ :: _, _ :: _, _, [], _ :: _, hy, _ => simp at hy
      | _ :: _, _ :: _, _, _ :: _, [], hy, _ => simp at hy
      | [a], [c], hx, [b], [d], hy, h =>
        simp only [List.map_cons, List.map_nil, List.cons.injEq, and_true] at hx hy
        simp only [Option.some.injEq] at h
        subst h
        exact ⟨_, rfl, by rw [bothX_same hx hy], by rw [bothX_same hx hy], by rw [bothX_same hx hy]⟩
      | [_], _ :: _ :: _, hx, _, _, _, _ => simp at hx
      | _ :: _ :: _, [_], hx, _, _, _, _ => simp at hx
      | [_], [_], _, [_], _ :: _ :: _, hy, _ => simp at hy
      | [_], [_], _, _ :: _ :: _, [_], hy, _ => simp at hy
      | a :: a' :: xs, c :: c' :: xs', hx, b :: ys, d :: ys', hy, h =>
        simp only [List.map_cons, List.cons.injEq] at hx
        simp only at h ⊢
        cases h1 : bringF prior n [a] (b :: ys) with
        | none => rw [h1] at h; cases h
        | some r1 =>
          rw [h1] at h
          obtain ⟨x1, y1, e1⟩ := r1
          obtain ⟨⟨x2, y2, e2⟩, q1, q2, q3, q4⟩ := bringF_same prior n [a] (b :: ys) [c] (d :: ys') _ (by simp [hx.1]) hy h1
          simp only at q2 q3 q4
          subst q4
          rw [q1]
          simp only at h ⊢
          cases he : !decide (e1 = 0) with
          | true => rw [he] at h; simp at h; subst h; exact ⟨_, rfl, same0 _⟩
          | false =>
            rw [he, cond_false] at h
            rw [cond_false]
            cases h2 : bringF prior n (a' :: xs) y1 with
            | none => rw [h2] at h; cases h
            | some r2 =>
              rw [h2] at h
              obtain ⟨z, w, e2⟩ := r2
              obtain ⟨⟨z2, w2, e3⟩, s1, s2, s3, s4⟩ := bringF_same prior n (a' :: xs) y1 (c' :: xs') y2 _ (by simp [hx.2]) q3 h2
              simp only at s2 s3 s4
              subst s4
              rw [s1]
              simp only at h ⊢
              cases he : !decide (e2 = 0) with
              | true => rw [he] at h; simp at h; subst h; exact ⟨_, rfl, same0 _⟩
              | false =>
                rw [he, cond_false] at h
                rw [cond_false]
                have e4 : (x1 ++ z).map bareO = (x2 ++ z2).map bareO := by rw [List.map_append, List.map_append, q2, s2]
                rw [← muchP_same e4 s3]
                cases hmm : muchP (x1 ++ z) w with
                | true => rw [hmm] at h; simp at h; subst h; exact ⟨_, rfl, same0 _⟩
                | false => rw [hmm] at h; simp at h; subst h; exact ⟨_, rfl, e4, s3, rfl⟩
      | [a], [c], hx, b :: b' :: ys, d :: d' :: ys', hy, h =>
        simp only [List.map_cons, List.cons.injEq] at hy
        simp only at h ⊢
        cases h1 : bringF prior n [a] [b] with
        | none => rw [h1] at h; cases h
        | some r1 =>
          rw [h1] at h
          obtain ⟨x1, y1, e1⟩ := r1
          obtain ⟨⟨x2, y2, e2⟩, q1, q2, q3, q4⟩ := bringF_same prior n [a] [b] [c] [d] _ hx (by simp [hy.1]) h1
          simp only at q2 q3 q4
          subst q4
          rw [q1]
          simp only at h ⊢
          cases he : !decide (e1 = 0) with
          | true => rw [he] at h; simp at h; subst h; exact ⟨_, rfl, same0 _⟩
          | false =>
            rw [he, cond_false] at h
            rw [cond_false]
            cases h2 : bringF prior n x1 (b' :: ys) with
            | none => rw [h2] at h; cases h
            | some r2 =>
              rw [h2] at h
              obtain ⟨z, w, e2⟩ := r2
              obtain ⟨⟨z2, w2, e3⟩, s1, s2, s3, s4⟩ := bringF_same prior n x1 (b' :: ys) x2 (d' :: ys') _ q2 (by simp [hy.2]) h2
              simp only at s2 s3 s4
              subst s4
              rw [s1]
              simp only at h ⊢
              cases he : !decide (e2 = 0) with
              | true => rw [he] at h; simp at h; subst h; exact ⟨_, rfl, same0 _⟩
              | false =>
                rw [he, cond_false] at h
                rw [cond_false]
                have e4 : (y1 ++ w).map bareO = (y2 ++ w2).map bareO := by rw [List.map_append, List.map_append, q3, s3]
                rw [← muchP_same s2 e4]
                cases hmm : muchP z (y1 ++ w) with
                | true => rw [hmm] at h; simp at h; subst h; exact ⟨_, rfl, same0 _⟩
                | false => rw [hmm] at h; simp at h; subst h; exact ⟨_, rfl, s2, e4, rfl⟩
end Bow
/- SP26: a list brought by two lists, one behind the other, and by both in one, in plain Lean. -/
namespace Bow
open Go

def Br (prior : Bool) (xs ys x y : List OpT) : Prop := ∃ n, bringF prior n xs ys = some (x, y, 0)
section
variable {prior : Bool}
theorem Br.det {xs ys x y x' y' : List OpT} (h : Br prior xs ys x y) (h' : Br prior xs ys x' y') : x = x' ∧ y = y' := by
  obtain ⟨n, h⟩ := h
  obtain ⟨m, h'⟩ := h'
  have := bringF_det h h'
  injection this with e1 e2
  injection e2 with e2 _
  exact ⟨e1, e2⟩
theorem Br.much {xs ys x y : List OpT} (h : Br prior xs ys x y) : muchP xs ys = false := by
  obtain ⟨n, h⟩ := h
  cases n with
  | zero => cases h
  | succ n =>
    rw [bringF_succ] at h
    unfold bringS at h
    cases hm : muchP xs ys with
    | false => rfl
    | true => rw [hm] at h; simp at h
theorem Br.nil_inv {ys x y : List OpT} (h : Br prior [] ys x y) : x = [] ∧ y = ys := by
  have hm := h.much
  obtain ⟨n, h⟩ := h
  cases n with
  | zero => cases h
  | succ n =>
    rw [bringF_succ] at h
    unfold bringS at h
    rw [hm] at h
    simp at h
    exact ⟨h.1.symm ▸ rfl, h.2.symm⟩
theorem Br.nil2_inv {xs x y : List OpT} (h : Br prior xs [] x y) : x = xs ∧ y = [] := by
  have hm := h.much
  obtain ⟨n, h⟩ := h
  cases n with
  | zero => cases h
  | succ n =>
    rw [bringF_succ] at h
    unfold bringS at h
    rw [hm] at h
    cases xs with
    | nil => simp at h; exact ⟨h.1.symm ▸ rfl, h.2.symm ▸ rfl⟩
    | cons a xs => simp at h; exact ⟨h.1.symm, h.2.symm ▸ rfl⟩
theorem Br.nil {ys : List OpT} (h : muchP [] ys = false) : Br prior [] ys [] ys := ⟨1, by rw [bringF_succ]; unfold bringS; rw [h]; rfl⟩
theorem Br.nil2 {xs : List OpT} (h : muchP xs [] = false) : Br prior xs [] xs [] := ⟨1, by
  rw [bringF_succ]
  unfold bringS
  rw [h]
  cases xs <;> rfl⟩
theorem bringF_cons {n : Nat} {a a' b : OpT} {xs ys X W : List OpT} (h : bringF prior (n + 1) (a :: a' :: xs) (b :: ys) = some (X, W, 0)) :
    ∃ x1 y1 z, bringF prior n [a] (b :: ys) = some (x1, y1, 0) ∧ bringF prior n (a' :: xs) y1 = some (z, W, 0) ∧ X = x1 ++ z ∧ muchP X W = false := by
  rw [bringF_succ] at h
  unfold bringS at h
  cases hm : muchP (a :: a' :: xs) (b :: ys) with
  | true => rw [hm] at h; simp at h
  | false =>
    rw [hm, cond_false] at h
    simp only at h
    cases h1 : bringF prior n [a] (b :: ys) with
    | none => rw [h1] at h; cases h
    | some r =>
      obtain ⟨x1, y1, e1⟩ := r
      rw [h1] at h
      simp only at h
      by_cases he : e1 = 0
      · subst he
        simp only [decide_true, Bool.not_true, cond_false] at h
        cases h2 : bringF prior n (a' :: xs) y1 with
        | none => rw [h2] at h; cases h
        | some r =>
          obtain ⟨z, w, e2⟩ := r
          rw [h2] at h
          simp only at h
          by_cases he : e2 = 0
          · subst he
            simp only [decide_true, Bool.not_true, cond_false] at h
            cases hmm : muchP (x1 ++ z) w with
            | true => rw [hmm] at h; simp at h
            | false =>
              rw [hmm] at h
              simp only [cond_false, Option.some.injEq, Prod.mk.injEq, and_true] at h
              obtain ⟨rfl, rfl⟩ := h
              exact ⟨x1, y1, z, rfl, h2, rfl, hmm⟩
          · simp [he] at h
      · simp [he] at h
theorem bringF_cons2 {n : Nat} {a b b' : OpT} {ys Z W : List OpT} (h : bringF prior (n + 1) [a] (b :: b' :: ys) = some (Z, W, 0)) :
    ∃ x y w, bringF prior n [a] [b] = some (x, y, 0) ∧ bringF prior n x (b' :: ys) = some (Z, w, 0) ∧ W = y ++ w ∧ muchP Z W = false := by
  rw [bringF_succ] at h
  unfold bringS at h
  cases hm : muchP [a] (b :: b' :: ys) with
  | true => rw [hm] at h; simp at h
  | false =>
    rw [hm, cond_false] at h
    simp only at h
    cases h1 : bringF prior n [a] [b] with
    | none => rw [h1] at h; cases h
    | some r =>
      obtain ⟨x1, y1, e1⟩ := r
      rw [h1] at h
      simp only at h
      by_cases he : e1 = 0
      · subst he
        simp only [decide_true, Bool.not_true, cond_false] at h
        cases h2 : bringF prior n x1 (b' :: ys) with
        | none => rw [h2] at h; cases h
        | some r =>
          obtain ⟨z, w, e2⟩ := r
          rw [h2] at h
          simp only at h
          by_cases he : e2 = 0
          · subst he
            simp only [decide_true, Bool.not_true, cond_false] at h
            cases hmm : muchP z (y1 ++ w) with
            | true => rw [hmm] at h; simp at h
            | false =>
              rw [hmm] at h
              simp only [cond_false, Option.some.injEq, Prod.mk.injEq, and_true] at h
              obtain ⟨rfl, rfl⟩ := h
              exact ⟨x1, y1, w, rfl, h2, rfl, hmm⟩
          · simp [he] at h
      · simp [he] at h
theorem Br.cons {a a' b : OpT} {xs ys x1 y1 z W : List OpT} (h1 : Br prior [a] (b :: ys) x1 y1) (h2 : Br prior (a' :: xs) y1 z W) (m1 : muchP (a :: a' :: xs) (b :: ys) = false) (m2 : muchP (x1 ++ z) W = false) : Br prior (a :: a' :: xs) (b :: ys) (x1 ++ z) W := by
  obtain ⟨n1, h1⟩ := h1
  obtain ⟨n2, h2⟩ := h2
  refine ⟨max n1 n2 + 1, ?_⟩
  rw [bringF_succ]
  unfold bringS
  rw [m1, cond_false]
  simp only
  rw [bringF_le h1 (Nat.le_max_left _ _)]
  simp only [decide_true, Bool.not_true, cond_false]
  rw [bringF_le h2 (Nat.le_max_right _ _)]
  simp only [decide_true, Bool.not_true, cond_false]
  rw [m2]
  rfl
theorem muchP_iff {x y : List OpT} : muchP x y = false ↔ x.length ≤ 4096 ∧ y.length ≤ 4096 := by
  unfold muchP
  simp only [Bool.or_eq_false_iff, decide_eq_false_iff_not, Nat.not_lt]
theorem Br.res {xs ys x y : List OpT} (h : Br prior xs ys x y) : muchP x y = false := by
  have hm := h.much
  obtain ⟨n, h⟩ := h
  cases n with
  | zero => cases h
  | succ n =>
    match xs, ys, h, hm with
    | [], ys, h, hm =>
      obtain ⟨rfl, rfl⟩ := Br.nil_inv ⟨_, h⟩
      exact hm
    | a :: xs, [], h, hm =>
      obtain ⟨rfl, rfl⟩ := Br.nil2_inv ⟨_, h⟩
      exact hm
    | [a], [b], h, _ =>
      have := (bringF_inv prior _ _ _ _ _ h).s
      simp only [List.length_cons, List.length_nil] at this
      exact muchP_iff.2 ⟨by omega, by omega⟩
    | a :: a' :: xs, b :: ys, h, _ =>
      obtain ⟨x1, y1, z, _, _, rfl, hmm⟩ := bringF_cons h
      exact hmm
    | [a], b :: b' :: ys, h, _ =>
      obtain ⟨x1, y1, w, _, _, rfl, hmm⟩ := bringF_cons2 h
      exact hmm
/-- Two lists in one, brought by a third one. -/
theorem Br.split {x2 : List OpT} : ∀ {x1 bs Y Q : List OpT}, Br prior (x1 ++ x2) bs Y Q → ∃ y1 b1 y2, Br prior x1 bs y1 b1 ∧ Br prior x2 b1 y2 Q ∧ Y = y1 ++ y2
  | [], bs, Y, Q, h => by
    have hm := muchP_iff.1 h.much
    exact ⟨[], bs, Y, Br.nil (muchP_iff.2 ⟨Nat.zero_le _, hm.2⟩), h, rfl⟩
  | a :: x1, [], Y, Q, h => by
    have hm := muchP_iff.1 h.much
    simp only [List.length_append] at hm
    obtain ⟨rfl, rfl⟩ := h.nil2_inv
    exact ⟨a :: x1, [], x2, Br.nil2 (muchP_iff.2 ⟨by omega, Nat.zero_le _⟩), Br.nil2 (muchP_iff.2 ⟨by omega, Nat.zero_le _⟩), rfl⟩
  | [a], b :: bs, Y, Q, h => by
    cases x2 with
    | nil =>
      have hm := muchP_iff.1 h.res
      exact ⟨Y, Q, [], h, Br.nil (muchP_iff.2 ⟨Nat.zero_le _, hm.2⟩), (List.append_nil Y).symm⟩
    | cons a' x2 =>
      obtain ⟨n, h⟩ := h
      cases n with
      | zero => cases h
      | succ n =>
        obtain ⟨x, y, z, h1, h2, rfl, _⟩ := bringF_cons h
        exact ⟨x, y, z, ⟨_, h1⟩, ⟨_, h2⟩, rfl⟩
  | a :: a1 :: x1, b :: bs, Y, Q, h => by
    have hm := muchP_iff.1 h.much
    have hr := muchP_iff.1 h.res
    obtain ⟨n, h⟩ := h
    cases n with
    | zero => cases h
    | succ n =>
      obtain ⟨u, v, s, h1, h2, rfl, _⟩ := bringF_cons h
      obtain ⟨s1, t, s2, q1, q2, rfl⟩ := Br.split (x1 := a1 :: x1) (bs := v) ⟨_, h2⟩
      simp only [List.length_append, List.length_cons] at hm hr
      have ht := muchP_iff.1 q2.much
      exact ⟨u ++ s1, t, s2, Br.cons ⟨_, h1⟩ q1 (muchP_iff.2 ⟨by simp only [List.length_cons]; omega, by simp only [List.length_cons]; omega⟩) (muchP_iff.2 ⟨by simp only [List.length_append]; omega, ht.2⟩), q2, (List.append_assoc _ _ _).symm⟩
/-- Brought by two lists in one, it is what it is brought by one and then by the other one. -/
theorem bringF_joined : ∀ (n : Nat) (cs us vs z w : List OpT), bringF prior n cs (us ++ vs) = some (z, w, 0) → ∀ x p y q, Br prior cs us x p → Br prior x vs y q → z = y ∧ w = p ++ q
  | 0, _, _, _, _, _, h, _, _, _, _, _, _ => by cases h
  | n + 1, [], us, vs, z, w, h, x, p, y, q, h1, h2 => by
    obtain ⟨rfl, rfl⟩ := h1.nil_inv
    obtain ⟨rfl, rfl⟩ := h2.nil_inv
    obtain ⟨rfl, rfl⟩ := Br.nil_inv ⟨_, h⟩
    exact ⟨rfl, rfl⟩
  | n + 1, c :: cs, [], vs, z, w, h, x, p, y, q, h1, h2 => by
    obtain ⟨rfl, rfl⟩ := h1.nil2_inv
    exact Br.det ⟨_, h⟩ h2
  | n + 1, c :: c' :: cs, u :: us, vs, z, w, h, x, p, y, q, h1, h2 => by
    obtain ⟨z1, w1, z2, g1, g2, rfl, _⟩ := bringF_cons (ys := us ++ vs) h
    obtain ⟨m, h1⟩ := h1
    cases m with
    | zero => cases h1
    | succ m =>
      obtain ⟨x1, y1, x2, k1, k2, rfl, _⟩ := bringF_cons h1
      obtain ⟨s, b1, t, q1, q2, rfl⟩ := h2.split
      obtain ⟨rfl, rfl⟩ := bringF_joined n [c] (u :: us) vs z1 w1 g1 x1 y1 s b1 ⟨_, k1⟩ q1
      obtain ⟨rfl, rfl⟩ := bringF_joined n (c' :: cs) y1 b1 z2 w g2 x2 p t q ⟨_, k2⟩ q2
      exact ⟨rfl, rfl⟩
  | n + 1, [c], [u], [], z, w, h, x, p, y, q, h1, h2 => by
    obtain ⟨rfl, rfl⟩ := h2.nil2_inv
    obtain ⟨rfl, rfl⟩ := Br.det ⟨_, h⟩ h1
    exact ⟨rfl, (List.append_nil _).symm⟩
  | n + 1, [c], [u], v :: vs, z, w, h, x, p, y, q, h1, h2 => by
    obtain ⟨x1, y1, w1, g1, g2, rfl, _⟩ := bringF_cons2 h
    obtain ⟨rfl, rfl⟩ := Br.det ⟨_, g1⟩ h1
    obtain ⟨rfl, rfl⟩ := Br.det ⟨_, g2⟩ h2
    exact ⟨rfl, rfl⟩
  | n + 1, [c], u :: u' :: us, vs, z, w, h, x, p, y, q, h1, h2 => by
    obtain ⟨x1, y1, w1, g1, g2, rfl, _⟩ := bringF_cons2 (ys := us ++ vs) h
    obtain ⟨m, h1⟩ := h1
    cases m with
    | zero => cases h1
    | succ m =>
      obtain ⟨x1', y1', w2, k1, k2, rfl, _⟩ := bringF_cons2 h1
      obtain ⟨rfl, rfl⟩ := Br.det ⟨_, g1⟩ ⟨_, k1⟩
      obtain ⟨rfl, rfl⟩ := bringF_joined n x1 (u' :: us) vs z w1 g2 x w2 y q ⟨_, k2⟩ h2
      exact ⟨rfl, (List.append_assoc _ _ _).symm⟩
end
end Bow
/- SP30: what two lists come to; brought by two lists or by both in one, in plain Lean. -/
namespace Bow
open Go

/-- What two lists come to. -/
noncomputable def bringX (prior : Bool) (xs ys : List OpT) : List OpT × List OpT × Int :=
  Classical.choose (show ∃ r n, bringF prior n xs ys = some r from let ⟨n, r, h⟩ := bring_ends prior xs ys; ⟨r, n, h⟩)
theorem bringX_spec (prior : Bool) (xs ys : List OpT) : ∃ n, bringF prior n xs ys = some (bringX prior xs ys) :=
  Classical.choose_spec (show ∃ r n, bringF prior n xs ys = some r from let ⟨n, r, h⟩ := bring_ends prior xs ys; ⟨r, n, h⟩)
theorem bringX_eq {prior : Bool} {n : Nat} {xs ys : List OpT} {r} (h : bringF prior n xs ys = some r) : bringX prior xs ys = r := by
  obtain ⟨m, hm⟩ := bringX_spec prior xs ys
  exact bringF_det hm h
noncomputable def listsX (prior : Bool) (xs ys : List OpT) : List OpT × List OpT × Int := (bareL (bringX prior xs ys).1, bareL (bringX prior xs ys).2.1, (bringX prior xs ys).2.2)
theorem bareL_same (l : List OpT) : l.map bareO = (bareL l).map bareO := by
  unfold bareL
  rw [List.map_map]
  exact List.map_congr_left fun o _ => (bare_idem o).symm
theorem joined_law {prior : Bool} {cs us vs x p y q z w : List OpT} (h1 : listsX prior cs us = (x, p, 0)) (h2 : listsX prior x vs = (y, q, 0)) (h3 : listsX prior cs (us ++ vs) = (z, w, 0)) : y = z ∧ w = p ++ q := by
  obtain ⟨n1, b1⟩ := bringX_spec prior cs us
  obtain ⟨n2, b2⟩ := bringX_spec prior x vs
  obtain ⟨n3, b3⟩ := bringX_spec prior cs (us ++ vs)
  unfold listsX at h1 h2 h3
  obtain ⟨⟨x0, p0, e0⟩, r1⟩ : ∃ r, bringX prior cs us = r := ⟨_, rfl⟩
  obtain ⟨⟨y0, q0, f0⟩, r2⟩ : ∃ r, bringX prior x vs = r := ⟨_, rfl⟩
  obtain ⟨⟨z0, w0, g0⟩, r3⟩ : ∃ r, bringX prior cs (us ++ vs) = r := ⟨_, rfl⟩
  rw [r1] at h1 b1
  rw [r2] at h2 b2
  rw [r3] at h3 b3
  simp only [Prod.mk.injEq] at h1 h2 h3
  obtain ⟨rfl, rfl, rfl⟩ := h1
  obtain ⟨rfl, rfl, rfl⟩ := h2
  obtain ⟨rfl, rfl, rfl⟩ := h3
  obtain ⟨⟨y1, q1, e⟩, c1, c2, c3, c4⟩ := bringF_same prior n2 (bareL x0) vs x0 vs _ (bareL_same x0).symm rfl b2
  simp only at c2 c3 c4
  subst c4
  obtain ⟨rfl, rfl⟩ := bringF_joined n3 cs us vs z0 w0 b3 x0 p0 y1 q1 ⟨n1, b1⟩ ⟨n2, c1⟩
  refine ⟨c2, ?_⟩
  show (p0 ++ q1).map bareO = p0.map bareO ++ q0.map bareO
  rw [List.map_append, ← c3]
end Bow
/- AE36: arguments that are read as data, as deep values; a call's contract out of a function's. -/
namespace Bow
open Go

def β0 : Nat → Loc := fun _ => .none

/-! ### Types that are read -/
def tilesB (P : Program) : List Field → Nat → Nat → Bool
  | [], o, N => Nat.beq o N
  | f :: fs, o, N => Nat.beq f.offset o && tilesB P fs (o + P.cellsOf f.type) N
def fieldsIn (G : List TypeId) : List Field → Bool
  | [] => true
  | f :: fs => memN G f.type && fieldsIn G fs
def goodT (P : Program) (G : List TypeId) (t : TypeId) : Bool :=
  match tyU P t with
  | some .bool => true
  | some (.int _) => true
  | some .string => true
  | some (.slice e) => memN G e && Nat.ble 1 (P.cellsOf e)
  | some (.struct fs) => fieldsIn G fs.toList && tilesB P fs.toList 0 (P.cellsOf t)
  | _ => false
def goodL (P : Program) (G : List TypeId) : List TypeId → Bool
  | [] => true
  | t :: ts => goodT P G t && goodL P G ts

/-- An element of these cells, of this type. -/
def mkX (P : Program) (e : TypeId) (vs : List V) : V :=
  match tyU P e with
  | some (.struct _) => .agg vs
  | _ => match vs with
    | [c] => c
    | vs => .agg vs
def VTs (P : Program) (R : TypeId → List V → Prop) : List Field → List V → Prop
  | [], vs => vs = []
  | f :: fs, vs => R f.type (vs.take (P.cellsOf f.type)) ∧ VTs P R fs (vs.drop (P.cellsOf f.type))
/-- Values of a type, so deep at most. -/
def VT (P : Program) : Nat → TypeId → List V → Prop
  | 0, _, _ => False
  | n + 1, t, vs => match tyU P t with
    | some .bool => ∃ b, vs = [.bool b]
    | some (.int k) => ∃ i, vs = [.int k i] ∧ (Lit.int k i).wf = true
    | some .string => ∃ s : List UInt8, vs = [.str s] ∧ s.length ≤ maxLen
    | some (.slice e) => ∃ xs : List (List V), vs = [.sl (P.cellsOf e) (xs.map (mkX P e))] ∧ xs.length ≤ maxLen ∧ ∀ x ∈ xs, VT P n e x
    | some (.struct fs) => VTs P (VT P n) fs.toList vs
    | _ => False

section
variable {H : Type} {enc : TypeId × Value → H} {P : Program} {w : World} {base : Nat} {spare : Nat → Bool} {held : Bool}

theorem notOwn0 (b : Nat) : ¬ ownB β0 [] b := by
  rintro ⟨r, N, ⟨o, h⟩, _⟩
  simp at h

theorem goodL_get {G : List TypeId} : ∀ (ts : List TypeId), goodL P G ts = true → ∀ t ∈ ts, goodT P G t = true
  | [], _, t, h => by cases h
  | x :: ts, hg, t, h => by
    simp only [goodL, Bool.and_eq_true] at hg
    rcases List.mem_cons.1 h with rfl | h
    · exact hg.1
    · exact goodL_get ts hg.2 t h

theorem mkX_cells {e : TypeId} {vs : List V} (h1 : onesB vs = true) : (mkX P e vs).cells = vs := by
  unfold mkX
  split
  · rfl
  · split
    · rename_i c
      have := (onesB_iff _).1 h1 c (by simp)
      cases c <;> first | rfl | cases this
    · rfl

theorem read_data {G : List TypeId} (hG : goodL P G G = true) : ∀ (fuel : Nat) (t : TypeId) (cs : List Value) (x : DataW H × List MemPlace), memN G t = true → DataW.trod enc P w base spare held fuel t cs = some x →
    ∃ vs, RowRep w β0 [] vs cs ∧ onesB vs = true ∧ VT P fuel t vs := by
  intro fuel
  induction fuel with
  | zero => intro t cs x _ h; simp [DataW.trod] at h
  | succ n ih =>
    intro t cs x hm h
    have hg := goodL_get G hG t ((memN_iff _ _).1 hm)
    have one : ∀ (c : V) (v : Value), c.one = true → cs = [v] → Rep w β0 [] c v → RowRep w β0 [] [c] cs ∧ onesB [c] = true := fun c v h1 h2 h3 => by
      subst h2
      refine ⟨⟨rfl, fun k c' u hc hu => ?_⟩, by simp [onesB, h1]⟩
      cases k with
      | zero => simp at hc hu; subst hc hu; exact h3
      | succ k => simp at hc
    unfold goodT at hg
    split at hg
    · rename_i ht
      obtain ⟨b, rfl, _⟩ := DataW.trod_bool (tyU_sound ht) h
      obtain ⟨h1, h2⟩ := one (.bool b) _ rfl rfl (.bool b)
      exact ⟨_, h1, h2, by rw [VT, ht]; exact ⟨b, rfl⟩⟩
    · rename_i k ht
      obtain ⟨i, rfl, _, hw⟩ := DataW.trod_int (tyU_sound ht) h
      obtain ⟨h1, h2⟩ := one (.int k i) _ rfl rfl (.int k i)
      exact ⟨_, h1, h2, by rw [VT, ht]; exact ⟨i, rfl, hw⟩⟩
    · rename_i ht
      obtain ⟨s, rfl, _, hs⟩ := DataW.trod_string (tyU_sound ht) h
      have hsl : s.data.toList.length ≤ maxLen := by
        have e : s.size = s.data.toList.length := by simp only [ByteArray.size, Array.length_toList]
        rw [← e]
        exact hs
      have hr : Rep w β0 [] (.str s.data.toList) (.string s) := by
        have := Rep.str (w := w) (β := β0) (H := []) s.data.toList hsl
        simpa using this
      obtain ⟨h1, h2⟩ := one (.str s.data.toList) _ rfl rfl hr
      exact ⟨_, h1, h2, by rw [VT, ht]; exact ⟨_, rfl, hsl⟩⟩
    · rename_i e ht
      simp only [Bool.and_eq_true] at hg
      obtain ⟨hme, hse⟩ := hg
      have hse : 1 ≤ P.cellsOf e := Nat.le_of_ble_eq_true hse
      rcases DataW.trod_slice (tyU_sound ht) h with ⟨rfl, _⟩ | ⟨a, len, cap, elems, rest, n', hn, rfl, _, _, hlc, hcm, hel, hget, _⟩
      · have hr : Rep w β0 [] (.sl (P.cellsOf e) []) (.slice none 0 0) := .sl _ [] none 0 (fun _ => Go.undef) (Nat.le_refl _) (Nat.zero_le _) (by simp) (fun hne => absurd rfl hne) (fun i x j c hi => by simp at hi)
        obtain ⟨h1, h2⟩ := one (.sl (P.cellsOf e) []) _ rfl rfl hr
        exact ⟨_, h1, h2, by rw [VT, ht]; exact ⟨[], rfl, Nat.zero_le _, by simp⟩⟩
      · injection hn with hn
        subst hn
        have each : ∀ i, i < len → ∃ ci vs, w.cells? base (a.add (i * P.cellsOf e)) (P.cellsOf e) = some ci ∧ RowRep w β0 [] vs ci ∧ onesB vs = true ∧ VT P n e vs := fun i hi => by
          have hb := hget i hi
          rw [List.getElem?_eq_getElem (by omega), Option.bind_eq_some_iff] at hb
          obtain ⟨ci, hci, hti⟩ := hb
          obtain ⟨vs, q1, q2, q3⟩ := ih e ci _ hme hti
          exact ⟨ci, vs, hci, q1, q2, q3⟩
        obtain ⟨ff, hff⟩ : ∃ ff : Nat → List Value × List V, ∀ i, i < len → w.cells? base (a.add (i * P.cellsOf e)) (P.cellsOf e) = some (ff i).1 ∧ RowRep w β0 [] (ff i).2 (ff i).1 ∧ onesB (ff i).2 = true ∧ VT P n e (ff i).2 := by
          refine ⟨fun i => if h : i < len then (Classical.choose (each i h), Classical.choose (Classical.choose_spec (each i h))) else ([], []), fun i hi => ?_⟩
          simp only [hi, dif_pos]
          exact Classical.choose_spec (Classical.choose_spec (each i hi))
        obtain ⟨xs, hxs⟩ : ∃ xs, xs = (List.range len).map fun i => (ff i).2 := ⟨_, rfl⟩
        have hxl : xs.length = len := by rw [hxs]; simp
        have hxg : ∀ i x, (xs.map (mkX P e))[i]? = some x → i < len ∧ x = mkX P e (ff i).2 := fun i x hx => by
          have hi : i < len := by have := lt_of_get hx; simpa [hxl] using this
          refine ⟨hi, ?_⟩
          rw [hxs] at hx
          simp [hi] at hx
          exact hx.symm
        have hcell : ∀ i j, i < len → j < P.cellsOf e → w.cell? (a.add (i * P.cellsOf e + j)) = (ff i).1[j]? ∧ (ff i).1.length = P.cellsOf e := fun i j hi hj => by
          obtain ⟨q1, _⟩ := hff i hi
          obtain ⟨_, q3, q4⟩ := World.cells?_some q1
          exact ⟨by rw [← add_add']; exact q4 j hj, q3⟩
        have hok : ∀ i, i < len → okE (P.cellsOf e) (mkX P e (ff i).2) := fun i hi => by
          obtain ⟨q1, q2, q3, _⟩ := hff i hi
          obtain ⟨_, q4, _⟩ := World.cells?_some q1
          refine ⟨?_, ?_⟩
          · rw [mkX_cells q3, q2.1, q4]
          · rw [mkX_cells q3]; exact q3
        have hr : Rep w β0 [] (.sl (P.cellsOf e) (xs.map (mkX P e))) (.slice (some a) len cap) := by
          have hl : (xs.map (mkX P e)).length = len := by simp [hxl]
          rw [← hl] at hlc ⊢
          refine .sl _ _ _ cap (fun j => (w.cell? (a.add j)).getD Go.undef) hlc hcm (fun x hx => ?_) (fun hne => ?_) (fun i x j c hi hj => ?_)
          · obtain ⟨i, hi, rfl⟩ := List.mem_iff_getElem.1 hx
            obtain ⟨h1, h2⟩ := hxg i _ (List.getElem?_eq_getElem hi)
            rw [h2]
            exact hok i h1
          · have h0 : 0 < len := by rw [← hl]; exact List.length_pos_iff.2 hne
            obtain ⟨q1, _⟩ := hff 0 h0
            have hblk := World.cells?_block q1 hse
            refine ⟨a, rfl, notOwn0 _, ?_, fun j hj => ?_⟩
            · have : (a.add (0 * P.cellsOf e)).block = a.block := by unfold Addr.add; split <;> rfl
              rwa [this] at hblk
            · rw [hl] at hj
              have hi : j / P.cellsOf e < len := Nat.div_lt_of_lt_mul (by rw [Nat.mul_comm]; exact hj)
              have hjm : j % P.cellsOf e < P.cellsOf e := Nat.mod_lt _ hse
              obtain ⟨q2, q3⟩ := hcell (j / P.cellsOf e) (j % P.cellsOf e) hi hjm
              have hj' : j / P.cellsOf e * P.cellsOf e + j % P.cellsOf e = j := by rw [Nat.mul_comm]; exact Nat.div_add_mod _ _
              rw [hj'] at q2
              rw [q2, List.getElem?_eq_getElem (by omega)]
              rfl
          · obtain ⟨hil, rfl⟩ := hxg i x hi
            obtain ⟨q1, q2, q3, _⟩ := hff i hil
            rw [mkX_cells q3] at hj
            have hjl : j < P.cellsOf e := by have := lt_of_get hj; rw [q2.1] at this; obtain ⟨_, q4, _⟩ := World.cells?_some q1; omega
            obtain ⟨q5, q6⟩ := hcell i j hil hjl
            have q7 : (ff i).1[j]? = some (ff i).1[j] := List.getElem?_eq_getElem (by omega)
            simp only [q5, q7, Option.getD_some]
            exact q2.2 j c _ hj q7
        obtain ⟨h1, h2⟩ := one _ _ rfl rfl hr
        refine ⟨_, h1, h2, ?_⟩
        rw [VT, ht]
        refine ⟨xs, rfl, by rw [hxl]; omega, fun x hx => ?_⟩
        rw [hxs] at hx
        obtain ⟨i, hi, rfl⟩ := List.mem_map.1 hx
        exact (hff i (List.mem_range.1 hi)).2.2.2
    · rename_i fs ht
      simp only [Bool.and_eq_true] at hg
      obtain ⟨hfi, htl⟩ := hg
      obtain ⟨xs, n', hn, _, hlen, hxl, hget⟩ := DataW.trod_struct (tyU_sound ht) h
      injection hn with hn
      subst hn
      have key : ∀ (fs' : List Field) (o : Nat), (∀ f ∈ fs', ∃ y, DataW.trod enc P w base spare held n f.type ((cs.drop f.offset).take (P.cellsOf f.type)) = some y) → fieldsIn G fs' = true → tilesB P fs' o (P.cellsOf t) = true → o ≤ cs.length →
          ∃ vs, RowRep w β0 [] vs (cs.drop o) ∧ onesB vs = true ∧ VTs P (VT P n) fs' vs := by
        intro fs'
        induction fs' with
        | nil =>
          intro o _ _ ht _
          have ho := Nat.eq_of_beq_eq_true ht
          refine ⟨[], ?_, rfl, rfl⟩
          rw [List.drop_eq_nil_of_le (by omega)]
          exact ⟨rfl, fun k c u h => by simp at h⟩
        | cons f fs' ih2 =>
          intro o hy hin htl ho
          simp only [tilesB, Bool.and_eq_true] at htl
          simp only [fieldsIn, Bool.and_eq_true] at hin
          have hfo := Nat.eq_of_beq_eq_true htl.1
          obtain ⟨y, hy1⟩ := hy f List.mem_cons_self
          obtain ⟨v1, a1, a2, a3⟩ := ih f.type _ y hin.1 hy1
          have hle : o + P.cellsOf f.type ≤ cs.length := by
            have : ∀ (l : List Field) (o : Nat), tilesB P l o (P.cellsOf t) = true → o ≤ P.cellsOf t := by
              intro l
              induction l with
              | nil => intro o h; have := Nat.eq_of_beq_eq_true h; omega
              | cons g l ih3 =>
                intro o h
                simp only [tilesB, Bool.and_eq_true] at h
                have := ih3 _ h.2
                omega
            have := this _ _ htl.2
            omega
          obtain ⟨v2, b1, b2, b3⟩ := ih2 (o + P.cellsOf f.type) (fun g hg => hy g (List.mem_cons_of_mem _ hg)) hin.2 htl.2 hle
          rw [hfo] at a1
          have hv1 : v1.length = P.cellsOf f.type := by rw [a1.1]; simp; omega
          refine ⟨v1 ++ v2, ?_, ?_, ?_⟩
          · have := a1.append b1
            rwa [← List.drop_drop, List.take_append_drop] at this
          · rw [onesB_iff] at a2 b2 ⊢
            intro c hc
            rcases List.mem_append.1 hc with hc | hc
            · exact a2 c hc
            · exact b2 c hc
          · rw [VTs]
            rw [← hv1]
            simp only [List.take_left', List.drop_left']
            exact ⟨a3, b3⟩
      obtain ⟨vs, k1, k2, k3⟩ := key fs.toList 0 (fun f hf => by
        obtain ⟨i, hi⟩ := List.getElem?_of_mem hf
        have hil := lt_of_get hi
        have := hget i f (by simpa using hi)
        exact ⟨_, by rw [this]; exact List.getElem?_eq_getElem (by rw [hxl]; simpa using hil)⟩) hfi htl (Nat.zero_le _)
      refine ⟨vs, by simpa using k1, k2, ?_⟩
      rw [VT, ht]
      exact k3
    · cases hg

/-! ### Calls -/
theorem calls_of_pure {f : FuncId} {args : List V} {vals : Array Value} {b : Bool} (h : Pure P f args fun x => x = .bool b) (hp : V.pureL args = true) (hl : args.length = vals.size)
    (hr : ∀ (j : Nat) (x : V) (v : Value), args[j]? = some x → vals[j]? = some v → Rep w β0 [] x v) : Calls P f vals w fun e w' => e = .returned (.bool b) ∧ RowKit.Below w.heap.size w w' := by
  intro cs
  have hrel : HRel w β0 [] := ⟨fun r o h => by simp at h, fun r r' b N N' hl => by obtain ⟨o, h⟩ := hl; simp at h⟩
  have hs : SRel [] 0 w β0 [] [] ⟨[], [], fun _ => none, []⟩ bare := by
    refine ⟨hrel, rfl, fun k => by simp [lk, V.conv]; exact .undef _, rfl, List.nodup_nil, by simp, rfl, fun r h _ => by simp at h, fun r _ => rfl, by simp, by simp, by simp, rfl, by simp⟩
  obtain ⟨x, v, w', β', H', fr, hq, _, _, k2, k3, k4, k5, k6⟩ := pure_step h hp hs cs hl (fun j x v hj hv => by
    rw [pure_conv _ _ (pureL_mem _ hp x (List.mem_of_getElem? hj))]
    exact hr j x v hj hv)
  subst hq
  have hv : v = .bool b := rep_bool (m := []) k3
  subst hv
  exact ⟨.returned (.bool b), w', fr, ⟨rfl, k2.os, k2.tape, k2.output, k2.size, fun q hq => k2.keep q hq (notOwn0 q)⟩, k4, k5, k6⟩
end
end Bow
/- AE37: calls of functions that are handed some of the caller's objects, and leave objects of their own. -/
namespace Bow
open Go

/-! ### Names, renamed -/
def Ref.ren (ρ : List Nat) : Ref → Ref
  | .loc k => match ρ[k]? with
    | some j => .loc j
    | none => .bad
  | .abs n => .abs n
  | .bad => .bad
mutual
def V.ren (ρ : List Nat) : V → V
  | .osl r g o l => .osl (r.ren ρ) g o l
  | .ptr r o => .ptr (r.ren ρ) o
  | .eptr r g i o => .eptr (r.ren ρ) g i o
  | .agg cs => .agg (V.renL ρ cs)
  | .tup vs => .tup (V.renL ρ vs)
  | .fn f a c => .fn f (V.renL ρ a) (V.renL ρ c)
  | .yld r => .yld (r.ren ρ)
  | .iface t v => .iface t (v.ren ρ)
  | .int k n => .int k n
  | .bool b => .bool b
  | .tt => .tt
  | .ff => .ff
  | .str s => .str s
  | .sl s xs => .sl s xs
  | .nilsl => .nilsl
  | .iptr cs o => .iptr cs o
  | .nilp => .nilp
  | .nilf => .nilf
  | .nili => .nili
  | .nilmap => .nilmap
  | .undef => .undef
def V.renL (ρ : List Nat) : List V → List V
  | [] => []
  | v :: vs => v.ren ρ :: V.renL ρ vs
end
theorem V.renL_eq (ρ : List Nat) : ∀ vs, V.renL ρ vs = vs.map (V.ren ρ)
  | [] => rfl
  | v :: vs => by rw [V.renL, V.renL_eq ρ vs]; rfl
def HObj.ren (ρ : List Nat) : HObj → HObj
  | .box cs => .box (V.renL ρ cs)
  | .vec g sz xs => .vec g sz xs
  | .loop st pe fn E nt ps asg bo => .loop st pe fn (E.map fun p => (p.1, p.2.ren ρ)) nt ps asg bo
  | .dfr => .dfr

/-- The names ρ of the objects m are m1. -/
def Sub (ρ m m1 : List Nat) : Prop := m1.length = ρ.length ∧ ∀ i k : Nat, ρ[i]? = some k → ∃ r : Nat, m[k]? = some r ∧ m1[i]? = some r

theorem Ref.ren_conv {ρ m m1 : List Nat} (h : Sub ρ m m1) : ∀ r : Ref, r.sc ρ.length → (r.ren ρ).conv m = r.conv m1
  | .loc i, hi => by
    have hi : i < ρ.length := hi
    have e := List.getElem?_eq_getElem hi
    obtain ⟨r, h1, h2⟩ := h.2 i _ e
    simp only [Ref.ren, e, Ref.conv, h1, h2]
  | .abs _, _ => rfl
  | .bad, _ => rfl
theorem Ref.ren_sc {ρ m m1 : List Nat} (h : Sub ρ m m1) : ∀ r : Ref, r.sc ρ.length → (r.ren ρ).sc m.length
  | .loc i, hi => by
    have hi : i < ρ.length := hi
    have e := List.getElem?_eq_getElem hi
    obtain ⟨r, h1, h2⟩ := h.2 i _ e
    simp only [Ref.ren, e]
    exact lt_of_get h1
  | .abs _, _ => trivial
  | .bad, _ => trivial
mutual
theorem V.ren_conv {ρ m m1 : List Nat} (h : Sub ρ m m1) : ∀ v : V, v.sc ρ.length → (v.ren ρ).conv m = v.conv m1
  | .osl r _ _ _, hs => by simp only [V.ren, V.conv, r.ren_conv h hs]
  | .ptr r _, hs => by simp only [V.ren, V.conv, r.ren_conv h hs]
  | .eptr r _ _ _, hs => by simp only [V.ren, V.conv, r.ren_conv h hs]
  | .yld r, hs => by simp only [V.ren, V.conv, r.ren_conv h hs]
  | .agg cs, hs => by simp only [V.ren, V.conv, V.renL_conv h cs hs]
  | .tup cs, hs => by simp only [V.ren, V.conv, V.renL_conv h cs hs]
  | .fn _ a c, hs => by simp only [V.ren, V.conv, V.renL_conv h a hs.1, V.renL_conv h c hs.2]
  | .iface _ v, hs => by simp only [V.ren, V.conv, v.ren_conv h hs]
  | .int .., _ | .bool _, _ | .tt, _ | .ff, _ | .str _, _ | .sl .., _ | .nilsl, _ | .iptr .., _ | .nilp, _ | .nilf, _ | .nili, _ | .nilmap, _ | .undef, _ => rfl
theorem V.renL_conv {ρ m m1 : List Nat} (h : Sub ρ m m1) : ∀ vs : List V, V.scL ρ.length vs → V.convL m (V.renL ρ vs) = V.convL m1 vs
  | [], _ => rfl
  | v :: vs, hs => by simp only [V.renL, V.convL, v.ren_conv h hs.1, V.renL_conv h vs hs.2]
end
mutual
theorem V.ren_sc {ρ m m1 : List Nat} (h : Sub ρ m m1) : ∀ v : V, v.sc ρ.length → (v.ren ρ).sc m.length
  | .osl r _ _ _, hs | .ptr r _, hs | .eptr r _ _ _, hs | .yld r, hs => r.ren_sc h hs
  | .agg cs, hs | .tup cs, hs => V.renL_sc h cs hs
  | .fn _ a c, hs => ⟨V.renL_sc h a hs.1, V.renL_sc h c hs.2⟩
  | .iface _ v, hs => v.ren_sc h hs
  | .int .., _ | .bool _, _ | .tt, _ | .ff, _ | .str _, _ | .sl .., _ | .nilsl, _ | .iptr .., _ | .nilp, _ | .nilf, _ | .nili, _ | .nilmap, _ | .undef, _ => trivial
theorem V.renL_sc {ρ m m1 : List Nat} (h : Sub ρ m m1) : ∀ vs : List V, V.scL ρ.length vs → V.scL m.length (V.renL ρ vs)
  | [], _ => trivial
  | v :: vs, hs => ⟨v.ren_sc h hs.1, V.renL_sc h vs hs.2⟩
end
theorem HObj.ren_conv {ρ m m1 : List Nat} (h : Sub ρ m m1) : ∀ o : HObj, o.sc ρ.length → (o.ren ρ).conv m = o.conv m1
  | .box cs, hs => by simp only [HObj.ren, HObj.conv, V.renL_conv h cs hs]
  | .vec .., _ => rfl
  | .dfr, _ => rfl
  | .loop _ _ _ E _ _ _ _, hs => by
    simp only [HObj.ren, HObj.conv, Env.conv, List.map_map, HObj.loop.injEq, true_and, and_true]
    exact List.map_congr_left fun p hp => by simp only [Function.comp_apply]; rw [V.ren_conv h p.2 (hs p hp)]
theorem HObj.ren_sc {ρ m m1 : List Nat} (h : Sub ρ m m1) : ∀ o : HObj, o.sc ρ.length → (o.ren ρ).sc m.length
  | .box cs, hs => V.renL_sc h cs hs
  | .vec .., _ => trivial
  | .dfr, _ => trivial
  | .loop _ _ _ E _ _ _ _, hs => fun p hp => by
    obtain ⟨q, hq, rfl⟩ := List.mem_map.1 hp
    exact V.ren_sc h q.2 (hs q hq)

/-! ### The caller's objects behind the call -/
def omap (ρ : List Nat) (o : Option HObj) : Option HObj :=
  match o with
  | none => none
  | some o => some (o.ren ρ)
def setAll (ρ : List Nat) : List Nat → Heap → Heap → Heap
  | k :: ks, o :: os, T => setAll ρ ks os (T.set k (omap ρ o))
  | _, os, T => T ++ os.map (omap ρ)
def setAllK (ρ : List Nat) : List Nat → Heap → Heap → (Heap → Prop) → Prop
  | k :: ks, o :: os, T, K => lset T k (omap ρ o) fun T' => setAllK ρ ks os T' K
  | _, os, T, K => K (T ++ lmap (omap ρ) os)
theorem setAllK_eq (ρ : List Nat) : ∀ (ks : List Nat) (os T : Heap) (K : Heap → Prop), setAllK ρ ks os T K = K (setAll ρ ks os T)
  | k :: ks, o :: os, T, K => by rw [setAllK, lset_eq, setAllK_eq ρ ks os]; rfl
  | [], os, T, K => by simp only [setAllK, setAll, lmap_eq]
  | k :: ks, [], T, K => by simp only [setAllK, setAll, lmap_eq]
theorem setAll_len (ρ : List Nat) : ∀ (ks : List Nat) (os T : Heap), ks.length ≤ os.length → (setAll ρ ks os T).length = T.length + (os.length - ks.length)
  | k :: ks, o :: os, T, h => by
    rw [setAll, setAll_len ρ ks os _ (by simpa using h)]
    simp
  | [], os, T, _ => by simp [setAll]
  | k :: ks, [], T, h => by simp at h
theorem setAll_other (ρ : List Nat) {j : Nat} : ∀ (ks : List Nat) (os T : Heap), j ∉ ks → j < T.length → (setAll ρ ks os T)[j]? = T[j]?
  | k :: ks, o :: os, T, h, hj => by
    rw [setAll, setAll_other ρ ks os _ (fun hm => h (List.mem_cons_of_mem _ hm)) (by simpa using hj), List.getElem?_set_ne (fun e : k = j => by subst e; exact h List.mem_cons_self)]
  | [], os, T, _, hj => by simp only [setAll]; rw [List.getElem?_append_left hj]
  | k :: ks, [], T, _, hj => by simp only [setAll]; rw [List.getElem?_append_left hj]
theorem setAll_at (ρ : List Nat) : ∀ (ks : List Nat) (os T : Heap), ks.Nodup → (∀ k ∈ ks, k < T.length) → ks.length ≤ os.length → ∀ (i k : Nat), ks[i]? = some k → (setAll ρ ks os T)[k]? = os[i]?.map (omap ρ)
  | k0 :: ks, o :: os, T, hn, hl, hle, i, k, hk => by
    obtain ⟨h1, h2⟩ := List.nodup_cons.1 hn
    have hk0 := hl k0 List.mem_cons_self
    rw [setAll]
    cases i with
    | zero =>
      simp only [List.getElem?_cons_zero, Option.some.injEq] at hk
      subst hk
      rw [setAll_other ρ ks os _ h1 (by simpa using hk0)]
      simp [hk0]
    | succ i =>
      simp only [List.getElem?_cons_succ] at hk ⊢
      exact setAll_at ρ ks os _ h2 (fun k hk => by simpa using hl k (List.mem_cons_of_mem _ hk)) (by simpa using hle) i k hk
  | [], os, T, _, _, _, i, k, hk => by simp at hk
  | k0 :: ks, [], T, _, _, hle, i, k, hk => by simp at hle
theorem setAll_new (ρ : List Nat) : ∀ (ks : List Nat) (os T : Heap), ks.length ≤ os.length → ∀ j, (setAll ρ ks os T)[T.length + j]? = os[ks.length + j]?.map (omap ρ)
  | k0 :: ks, o :: os, T, hle, j => by
    rw [setAll]
    have := setAll_new ρ ks os (T.set k0 (omap ρ o)) (by simpa using hle) j
    simp only [List.length_set] at this
    rw [this, List.length_cons, show ks.length + 1 + j = (ks.length + j) + 1 by omega, List.getElem?_cons_succ]
  | [], os, T, _, j => by
    simp only [setAll]
    rw [List.getElem?_append_right (by omega)]
    simp
  | k0 :: ks, [], T, hle, j => by simp at hle

def subB : List Nat → Nat → Bool
  | [], _ => true
  | k :: ks, n => Nat.blt k n && subB ks n
theorem subB_get : ∀ (ks : List Nat) (n : Nat), subB ks n = true → ∀ k ∈ ks, k < n
  | [], _, _, k, h => by cases h
  | x :: ks, n, hs, k, h => by
    simp only [subB, Bool.and_eq_true] at hs
    rcases List.mem_cons.1 h with rfl | h
    · exact Nat.le_of_ble_eq_true hs.1
    · exact subB_get ks n hs.2 k h

/-- The objects ks of the caller, as the called one sees them. -/
def objsAre (ks : List Nat) (T : Heap) : List Nat → Heap → Prop
  | [], [] => True
  | k :: l, some o :: os => (lget T k = some (some (o.ren ks)) ∧ o.scB ks.length = true) ∧ objsAre ks T l os
  | _, _ => False
theorem objsAre_get {ks0 : List Nat} {T : Heap} : ∀ {l : List Nat} {os : Heap}, objsAre ks0 T l os → l.length = os.length ∧ ∀ (i k : Nat), l[i]? = some k → ∃ o, os[i]? = some (some o) ∧ T[k]? = some (some (o.ren ks0)) ∧ o.sc ks0.length
  | [], [], _ => ⟨rfl, fun i k h => by simp at h⟩
  | k0 :: l, some o :: os, h => by
    obtain ⟨h1, h2⟩ := objsAre_get h.2
    refine ⟨by simp [h1], fun i k hk => ?_⟩
    cases i with
    | zero =>
      simp only [List.getElem?_cons_zero, Option.some.injEq] at hk
      subst hk
      exact ⟨o, rfl, by rw [← lget_eq]; exact h.1.1, HObj.scB_sc o h.1.2⟩
    | succ i => simpa using h2 i k (by simpa using hk)
  | [], _ :: _, h => h.elim
  | _ :: _, [], h => h.elim
  | _ :: _, none :: _, h => h.elim

def rangeFrom : Nat → Nat → List Nat
  | _, 0 => []
  | n, k + 1 => n :: rangeFrom (n + 1) k
theorem rangeFrom_len : ∀ (k n : Nat), (rangeFrom n k).length = k
  | 0, _ => rfl
  | k + 1, n => by simp [rangeFrom, rangeFrom_len k]
theorem rangeFrom_get : ∀ (k n i : Nat), i < k → (rangeFrom n k)[i]? = some (n + i)
  | k + 1, n, 0, _ => rfl
  | k + 1, n, i + 1, h => by
    rw [rangeFrom, List.getElem?_cons_succ, rangeFrom_get k (n + 1) i (by omega)]
    congr 1
    omega
/-- The names of what the called one has: those that it was handed, and new ones. -/
def subρ (ks : List Nat) (n : Nat) (T1 : Heap) : List Nat := ks ++ rangeFrom n (lcount T1 0 - lcount ks 0)

theorem call_sub {c : Cx} {g : FuncId} {args args' : List V} {E : Env} {T T1 : Heap} {K : V → St → Prop} {Q : V → Heap → Prop} (ks : List Nat) (hf : Fun c.P g T1 args' Q) (hnd : nodupB ks = true) (hlt : subB ks T.length = true) (ho : objsAre ks T ks T1) (ha : args = V.renL ks args') (hsc : V.scBL ks.length args' = true)
    (hD : c.D.all (fun k => !memN ks k) = true)
    (h : ∀ x T1', Q x T1' → allLive (ldrop T1' ks.length) = true ∧ setAllK (subρ ks T.length T1') ks T1' T fun T2 => K (x.ren (subρ ks T.length T1')) ⟨E, T2, c.B, c.D⟩) : CallThen c g args E T K := by
  have hen : Enterable c.P g := by unfold Fun at hf; exact hf.1
  unfold CallThen
  unfold Fun at hf
  refine ⟨hen, fun w β H m a vals cs hs hl hr => ?_⟩
  have hml : m.length = T.length := hs.mlen
  have hnd' := nodupB_iff _ hnd
  have hlt' := subB_get _ _ hlt
  obtain ⟨hol, hoo⟩ := objsAre_get ho
  obtain ⟨m1, hm1⟩ : ∃ m1, m1 = ks.map fun k => (m[k]?).getD 0 := ⟨_, rfl⟩
  have hsub : Sub ks m m1 := by
    refine ⟨by rw [hm1]; simp, fun i k hk => ?_⟩
    have hkm : k < m.length := by rw [hml]; exact hlt' k (List.mem_of_getElem? hk)
    have e := List.getElem?_eq_getElem hkm
    exact ⟨m[k], e, by rw [hm1, List.getElem?_map, hk]; simp [e]⟩
  have hm1l : m1.length = T1.length := by rw [hsub.1]; exact hol
  have hm1nd : m1.Nodup := by
    rw [hm1]
    refine List.Pairwise.map _ (fun x y h => ?_) (List.Pairwise.and_mem.1 hnd')
    obtain ⟨hx, hy, hne⟩ := h
    have hxm : x < m.length := by rw [hml]; exact hlt' x hx
    have hym : y < m.length := by rw [hml]; exact hlt' y hy
    intro e
    simp only [List.getElem?_eq_getElem hxm, List.getElem?_eq_getElem hym, Option.getD_some] at e
    exact hne (hs.inj (List.getElem?_eq_getElem hxm) (by rw [e]; exact List.getElem?_eq_getElem hym))
  have hmem : ∀ r, r ∈ m1 → ∃ i k, ks[i]? = some k ∧ m[k]? = some r ∧ m1[i]? = some r := fun r hr => by
    obtain ⟨i, hi⟩ := List.getElem?_of_mem hr
    have hil : i < ks.length := by have := lt_of_get hi; rw [hsub.1] at this; exact this
    obtain ⟨r', h1, h2⟩ := hsub.2 i _ (List.getElem?_eq_getElem hil)
    rw [hi] at h2
    injection h2 with h2
    subst h2
    exact ⟨i, _, List.getElem?_eq_getElem hil, h1, hi⟩
  have hargsc := (V.scL_iff _ _).1 (V.scBL_sc _ hsc)
  have hs1 : SRel m1 0 w β H m1 ⟨[], T1, fun r => (H[r]?).getD none, []⟩ bare := by
    refine ⟨hs.hrel, rfl, fun k => by simp [lk, V.conv]; exact .undef _, hm1l, hm1nd, fun i r o hi hoi => ?_, by simp, fun r hr hn => by simp [hr], fun r hr => by simp [List.getElem?_eq_none hr], fun k r hk hm => by have := lt_of_get hm; omega, by simp, fun i o hoi => ?_, rfl, by simp⟩
    · have hil : i < ks.length := by have := lt_of_get hi; rw [hsub.1] at this; exact this
      have hk := List.getElem?_eq_getElem hil
      obtain ⟨r', h1, h2⟩ := hsub.2 i _ hk
      rw [hi] at h2
      injection h2 with h2
      subst h2
      obtain ⟨o', e1, e2, e3⟩ := hoo i _ hk
      simp only at hoi
      rw [e1] at hoi
      injection hoi with hoi
      subst hoi
      rw [hs.loc _ r _ h1 e2]
      simp only [Option.map_some]
      rw [HObj.ren_conv hsub o' e3]
    · have hil : i < ks.length := by have := lt_of_get hoi; simp only at this; omega
      obtain ⟨o', e1, e2, e3⟩ := hoo i _ (List.getElem?_eq_getElem hil)
      simp only at hoi ⊢
      rw [e1] at hoi
      injection hoi with hoi
      injection hoi with hoi
      subst hoi
      rw [← hol]
      exact e3
  obtain ⟨x, T1', v, w', β', H', m1', fr, hq, k1, k2, k3, k4, k5, k6⟩ := hf.2 w β H m1 _ vals cs hs1 (by rw [← hl, ha, V.renL_eq]; simp) (fun j y u hj hu => by
    have := hr j (y.ren ks) u (by rw [ha, V.renL_eq, List.getElem?_map, hj]; rfl) hu
    rwa [V.ren_conv hsub y (hargsc y (List.mem_of_getElem? hj))] at this)
  obtain ⟨hlive, h⟩ := h x T1' hq
  rw [setAllK_eq] at h
  rw [ldrop_eq] at hlive
  obtain ⟨ρ, hρ⟩ : ∃ ρ, ρ = subρ ks T.length T1' := ⟨_, rfl⟩
  rw [← hρ] at h
  -- the names behind the call
  have hpre : m1 = m1'.take m1.length := by have := k1.imp; rw [this]
  obtain ⟨new, hnew⟩ : ∃ new, m1' = m1 ++ new := ⟨m1'.drop m1.length, by conv => lhs; rw [← List.take_append_drop m1.length m1', ← hpre]⟩
  have hm1'l : m1'.length = T1'.length := k1.mlen
  have hks' : ks.length ≤ T1'.length := by rw [hnew] at hm1'l; simp at hm1'l; have := hsub.1; omega
  have hnl : new.length = T1'.length - ks.length := by rw [hnew] at hm1'l; simp at hm1'l; have := hsub.1; omega
  have hnget : ∀ j r, new[j]? = some r → m1'[ks.length + j]? = some r := fun j r hj => by
    rw [hnew, List.getElem?_append_right (by rw [hsub.1]; omega), hsub.1, Nat.add_sub_cancel_left]
    exact hj
  have hlen : H.length ≤ H'.length := k2.len
  have hfresh : ∀ r, r ∈ new → H.length ≤ r := fun r hr => by
    obtain ⟨j, hj⟩ := List.getElem?_of_mem hr
    have hm := hnget j r hj
    have hjl : ks.length + j < T1'.length := by have := lt_of_get hm; omega
    have hT := List.getElem?_eq_getElem hjl
    obtain ⟨o, ho⟩ := allLive_get hlive j _ (by rw [List.getElem?_drop]; exact hT)
    rw [ho] at hT
    have hH' := k1.loc _ r _ hm hT
    have hz := k1.own (ks.length + j) r (by rw [hsub.1]; omega) hm
    simp only at hz
    rcases Nat.lt_or_ge r H.length with h1 | h1
    · obtain ⟨o1, e1, _⟩ := k2.evo r _ h1 hH'
      rw [e1] at hz
      cases hz
    · exact h1
  have hρe : ρ = ks ++ rangeFrom T.length new.length := by rw [hρ]; unfold subρ; rw [lcount_eq, lcount_eq, hnl]; simp
  have hρl : ρ.length = T1'.length := by rw [hρe]; simp [rangeFrom_len]; omega
  obtain ⟨m', hm'⟩ : ∃ m', m' = m ++ new := ⟨_, rfl⟩
  have hm'l : m'.length = T.length + new.length := by rw [hm']; simp [hml]
  have hsub' : Sub ρ m' m1' := by
    refine ⟨by rw [hm1'l, hρl], fun i k hk => ?_⟩
    rw [hρe] at hk
    rcases Nat.lt_or_ge i ks.length with h1 | h1
    · rw [List.getElem?_append_left h1] at hk
      obtain ⟨r, e1, e2⟩ := hsub.2 i k hk
      exact ⟨r, by rw [hm', List.getElem?_append_left (lt_of_get e1)]; exact e1, by rw [hnew, List.getElem?_append_left (lt_of_get e2)]; exact e2⟩
    · rw [List.getElem?_append_right h1] at hk
      have hi := lt_of_get hk
      rw [rangeFrom_len] at hi
      rw [rangeFrom_get _ _ _ hi] at hk
      injection hk with hk
      subst hk
      refine ⟨new[i - ks.length], by rw [hm', List.getElem?_append_right (by omega), hml, Nat.add_sub_cancel_left]; exact List.getElem?_eq_getElem hi, ?_⟩
      rw [hnew, List.getElem?_append_right (by rw [hsub.1]; exact h1), hsub.1]
      exact List.getElem?_eq_getElem hi
  have hext : ∀ u : V, u.sc m.length → u.conv m' = u.conv m := fun u hu => by rw [hm']; exact V.conv_ext (Nat.le_refl _) u hu
  have hin : ∀ r, r ∈ m1' → r ∈ m1 ∨ r ∈ new := fun r hr => by rw [hnew] at hr; exact List.mem_append.1 hr
  have hold : ∀ r, r < H.length → r ∉ m1 → H'[r]? = H[r]? := fun r hr hn => by
    have hn' : r ∉ m1' := fun hm => by
      rcases hin r hm with h1 | h1
      · exact hn h1
      · have := hfresh r h1; omega
    rw [k1.base r (Nat.lt_of_lt_of_le hr hlen) hn']
    simp [hr]
  have hscT1 : ∀ (i : Nat) (o : HObj), T1'[i]? = some (some o) → o.sc ρ.length := fun i o ho => by rw [hρl]; exact k1.scT i o ho
  have hT2l : (setAll ρ ks T1' T).length = T.length + new.length := by rw [setAll_len _ _ _ _ hks', hnl]
  -- an object, handed over or new
  have hobj : ∀ (i k r : Nat) (o : Option HObj), ρ[i]? = some k → m'[k]? = some r → T1'[i]? = some o → H'[r]? = some ((omap ρ o).map (HObj.conv m')) := fun i k r o hi hk ho => by
    obtain ⟨r', e1, e2⟩ := hsub'.2 i k hi
    rw [hk] at e1
    injection e1 with e1
    subst e1
    rw [k1.loc i r o e2 ho]
    cases o with
    | none => rfl
    | some o => simp only [omap, Option.map_some]; rw [HObj.ren_conv hsub' o (hscT1 i o ho)]
  have hcase : ∀ k, k < T.length + new.length → (∃ i, ρ[i]? = some k ∧ (setAll ρ ks T1' T)[k]? = T1'[i]?.map (omap ρ)) ∨ (k < T.length ∧ k ∉ ks ∧ (setAll ρ ks T1' T)[k]? = T[k]?) := fun k hk => by
    rcases Nat.lt_or_ge k T.length with h1 | h1
    · by_cases hm : k ∈ ks
      · obtain ⟨i, hi⟩ := List.getElem?_of_mem hm
        exact .inl ⟨i, by rw [hρe, List.getElem?_append_left (lt_of_get hi)]; exact hi, setAll_at ρ ks T1' T hnd' hlt' hks' i k hi⟩
      · exact .inr ⟨h1, hm, setAll_other ρ ks T1' T hm h1⟩
    · refine .inl ⟨ks.length + (k - T.length), ?_, ?_⟩
      · rw [hρe, List.getElem?_append_right (by omega), Nat.add_sub_cancel_left, rangeFrom_get _ _ _ (by omega)]
        congr 1
        omega
      · have := setAll_new ρ ks T1' T hks' (k - T.length)
        rwa [Nat.add_sub_cancel' h1] at this
  refine ⟨_, _, v, w', β', H', m', fr, h, ?_, k2, by rw [V.ren_conv hsub' x (by rw [hρl, ← hm1'l]; exact sc_of_rep x k3)]; exact k3, k4, k5, k6, by rw [hm']; exact List.prefix_append _ _⟩
  refine ⟨k1.hrel, hs.size, fun k => ?_, by rw [hm'l, hT2l], ?_, fun k r o hk ho' => ?_, ?_, fun r hr hn => ?_, fun r hr => hs.fut r (Nat.le_trans hlen hr), fun k r hk hm => ?_, fun p hp => ?_, fun k o ho' => ?_, hs.defs, ?_⟩
  · simp only
    rw [hext _ (by have := lk_sc E k hs.scE; rwa [hml])]
    exact (hs.env k).mono k2
  · rw [hm']
    refine List.nodup_append.2 ⟨hs.nodup, ?_, fun a ha b hb e => ?_⟩
    · have := k1.nodup
      rw [hnew] at this
      exact (List.nodup_append.1 this).2.1
    · subst e
      obtain ⟨j, hj⟩ := List.getElem?_of_mem ha
      have := hs.lt hj
      have := hfresh _ hb
      omega
  · have hkl : k < T.length + new.length := by have := lt_of_get hk; omega
    simp only at ho'
    rcases hcase k hkl with ⟨i, e1, e2⟩ | ⟨e1, e2, e3⟩
    · rw [e2] at ho'
      rw [Option.map_eq_some_iff] at ho'
      obtain ⟨o1, e4, e5⟩ := ho'
      subst e5
      exact hobj i k r o1 e1 hk e4
    · rw [e3] at ho'
      have hkm : m[k]? = some r := by rw [hm', List.getElem?_append_left (by omega)] at hk; exact hk
      have hrn : r ∉ m1 := fun hm => by
        obtain ⟨i, k2', q1, q2, _⟩ := hmem r hm
        have := hs.inj q2 hkm
        subst this
        exact e2 (List.mem_of_getElem? q1)
      rw [hold r (hs.lt hkm) hrn, hs.loc k r o hkm ho']
      cases o with
      | none => rfl
      | some o =>
        simp only [Option.map_some, Option.some.injEq]
        have := hs.scT k o ho'
        rw [hm']
        exact (HObj.conv_ext (Nat.le_refl _) o (by rw [hml]; exact this)).symm
  · have := hs.imp
    rw [hm', List.take_append_of_le_length]
    · exact this
    · have := congrArg List.length this
      simp at this
      omega
  · simp only
    have hrm : r ∉ m := fun hm => hn (by rw [hm']; exact List.mem_append_left _ hm)
    have hrnew : r ∉ new := fun hm => hn (by rw [hm']; exact List.mem_append_right _ hm)
    have hr1 : r ∉ m1 := fun hm => by
      obtain ⟨i, k2', q1, q2, _⟩ := hmem r hm
      exact hrm (List.mem_of_getElem? q2)
    have hr1' : r ∉ m1' := fun hm => by rcases hin r hm with h1 | h1; exact hr1 h1; exact hrnew h1
    rw [k1.base r hr hr1']
    simp only
    rcases Nat.lt_or_ge r H.length with h1 | h1
    · rw [hs.base r h1 hrm]
      rfl
    · have e0 : c.B r = none := hs.fut r h1
      rw [e0, List.getElem?_eq_none h1]
      rfl
  · rcases Nat.lt_or_ge k m.length with h1 | h1
    · rw [hm', List.getElem?_append_left h1] at hm
      exact hs.own k r hk hm
    · rw [hm', List.getElem?_append_right h1] at hm
      exact hs.fut r (hfresh r (List.mem_of_getElem? hm))
  · simp only
    rw [hT2l]
    exact V.sc_mono (Nat.le_add_right _ _) _ (hs.scE p hp)
  · have hkl : k < T.length + new.length := by have := lt_of_get ho'; simp only at this; omega
    simp only at ho' ⊢
    rw [hT2l]
    rcases hcase k hkl with ⟨i, e1, e2⟩ | ⟨e1, e2, e3⟩
    · rw [e2, Option.map_eq_some_iff] at ho'
      obtain ⟨o1, e4, e5⟩ := ho'
      cases o1 with
      | none => cases e5
      | some o1 =>
        simp only [omap, Option.some.injEq] at e5
        subst e5
        rw [← hm'l]
        exact HObj.ren_sc hsub' o1 (hscT1 i o1 e4)
    · rw [e3] at ho'
      exact HObj.sc_mono (Nat.le_add_right _ _) _ (hs.scT k o ho')
  · intro j k hj
    obtain ⟨r', b, N, e1, e2, e3, e4⟩ := hs.marks j k hj
    have hkm : k < T.length := by have := lt_of_get e1; omega
    have hkn : k ∉ ks := fun hm => by
      have := List.all_eq_true.1 hD k (List.mem_of_getElem? hj)
      rw [(memN_iff _ _).2 hm] at this
      cases this
    have hr1 : r' ∉ m1 := fun hm => by
      obtain ⟨i, k2', q1, q2, _⟩ := hmem r' hm
      have := hs.inj q2 e1
      subst this
      exact hkn (List.mem_of_getElem? q1)
    have hH0 := hs.loc k r' _ e1 e2
    refine ⟨r', b, N, by rw [hm', List.getElem?_append_left (lt_of_get e1)]; exact e1, by simp only; rw [setAll_other ρ ks T1' T hkn hkm]; exact e2, ?_, e4⟩
    exact dfr_stays k2 (by simpa [HObj.conv] using hH0) e3 (by rw [hold r' (hs.lt e1) hr1, hH0]; rfl)

/-- A function's contract, out of its body's evaluation. -/
theorem fun_fn {P : Program} {f : FuncId} {fn : Func} {body : Code} {T : Heap} {args : List V} {Q : V → Heap → Prop} (n : Nat) (hf : P.funcs[f]? = some fn) (hn : (fn.name == "runtime.NumGoroutine") = false) (hb : fn.body = some body) (hnt : Nat.ble args.length fn.ntmps = true)
    (h : ∀ (imps : List Nat) (B : Base), imps.length = T.length → evp { P := P, nt := fn.ntmps, fn := f, ro := none, imps := imps, X := XR P imps fn.results B Q, B := B, D := [] } n [.code body] (env0 0 args) T) : Fun P f T args Q :=
  fun_of_goes hf hn hb hnt fun imps B hi => evp_sound _ _ _ _ _ (h imps B hi)

/-- What a call leaves, but for what nobody names: the first n objects. -/
def keepK (n : Nat) (x : V) (T : Heap) (Q : V → Heap → Prop) : Prop := ∃ T1, T1.length = n ∧ x.scB n = true ∧ heapIs n T T1 ∧ Q x T1
theorem fun_keep {P : Program} {f : FuncId} {T : Heap} {args : List V} {Q : V → Heap → Prop} (n : Nat) (hn : Nat.ble T.length n = true) (h : Fun P f T args fun x T' => keepK n x T' Q) : Fun P f T args Q := by
  unfold Fun at *
  refine ⟨h.1, fun w β H m B vals cs hs hl hr => ?_⟩
  obtain ⟨x, T', v, w', β', H', m', fr, ⟨T1, q1, q2, q3, q4⟩, k1, k2, k3, k4⟩ := h.2 w β H m B vals cs hs hl hr
  subst q1
  obtain ⟨T'', rfl, hsc⟩ := heapIs_eq q3
  have hml : m.length = T.length := hs.mlen
  obtain ⟨m2, H2, e1, e2, e3⟩ := SRel.dropTo T'' k1 (by rw [hml]; exact Nat.le_of_ble_eq_true hn) (by simp) hsc (by simp)
  refine ⟨x, T1, v, w', β', H2, m2, fr, q4, e1, k2.trans e2, ?_, k4⟩
  have hx := V.scB_sc x q2
  have : x.conv m2 = x.conv m' := by
    rw [e3]
    have hle : T1.length ≤ (m'.take T1.length).length := by
      have := k1.mlen
      simp at this ⊢
      omega
    conv => rhs; rw [← List.take_append_drop T1.length m']
    exact (V.conv_ext hle x hx).symm
  rw [this]
  exact k3.mono e2
end Bow
/- AE38: a row that grows for more; own slices cut; a nil slice as own memory. -/
namespace Bow
open Go

theorem run_append_zeros {P : Program} {w : World} {t t' e : TypeId} {i : TypeInfo} {z : Value} {kd kk : IntKind} (n : Nat) (ht : P.underlying t = some (.slice e)) (ht' : P.underlying t' = some (.int kd)) (hi : P.info? e = some i) (hz : i.zero = some z) (ty : TypeId)
    (_hzs : z.cells.size = i.size) (hsz : 0 < i.size) (h1 : 1 ≤ n) (h63 : n ≤ 9223372036854775807) (hb : n * i.bytes ≤ 281474976710656) (hfit : Builtin.nextslicecap n 0 * i.bytes ≤ 281474976710656) :
    (Builtin.append_ #[t, t'] ty #[.slice none 0 0, .int kk n]).run P w =
      .ok (.slice (some ⟨w.heap.size, 0, none⟩) n (grownCap w n 0 e)) (w.drew.alloc (.cells (Builtin.zeroCells z.cells n ++ Builtin.zeroCells z.cells (grownCap w n 0 e - n)) e)) := by
  have hn : ¬ (n ≤ 0) := by omega
  have hn0 : ¬ n = 0 := by omega
  have hs0 : ¬ i.size = 0 := by omega
  have e1 : IntKind.i64.max = 9223372036854775807 := by decide
  have hw : IntKind.i64.wrap (n : Int) = n := by
    rw [IntKind.wrap_i64]; omega
  have h48 : ¬ (281474976710656 < Builtin.nextslicecap n 0 * i.bytes) := by omega
  have hb' : ¬ (281474976710656 < (n : Int) * (i.bytes : Int)) := by
    have h : ((n * i.bytes : Nat) : Int) ≤ 281474976710656 := by omega
    rw [Int.natCast_mul] at h
    omega
  have h63' : ¬ ((9223372036854775807 : Int) < (n : Int)) := by omega
  have hneg : ¬ ((n : Int) < 0) := by omega
  simp [Builtin.append_, run_underlying ht, run_underlying ht', run_sizeOf' hi, typeInfo, zeroValue, hi, hz, hn0, h63', h48, hb', hneg, hw, Question.forced, newRow, grownCap, e1, asInt, asIntOf, Builtin.firstCells]
  intro h
  exact absurd h (Nat.ne_of_gt (Nat.mul_pos h1 hsz))

section
variable {c : Cx} {E : Env} {T : Heap} {ops : Array Oper} {i : Nat} {rest : List Nat} {k : List Item} {o : Oper}

theorem goes_cap0 {t e : TypeId} {x : Operand} (n : Nat) (ho : lget ops.toList i = some o) (hg : o.guard = none) (hop : o.op = .call { callee := .builtin .cap, args := #[x], argTypes := #[t] }) (hx : opd E x = .nilsl) (ht : tyU c.P t = some (.slice e))
    (h : putE c.nt o.dst (.int .i64 0) E False fun E' => evp c n (.inRegion ops rest :: k) E' T) : Goes c (.inRegion ops (i :: rest) :: k) E T := by
  refine goes_opTo n ho hg hop (OpTo.still fun o hop w β H m a hs => ⟨.int .i64 0, ?_, .int _ _⟩) (fun cl h => by cases h) h
  have hr := opd_rep hs x
  simp only [hx, V.conv] at hr
  generalize hq : a.eval x = q at hr
  cases hr
  simp [execOp, hop, resolve, invoke, builtin, Builtin.cap_, hq, run_underlying (tyU_sound ht), goInt]

theorem goes_nilcut {t e : TypeId} {x hi : Operand} {kk : IntKind} {ti : TypeInfo} (n : Nat) (ho : lget ops.toList i = some o) (hg : o.guard = none) (hop : o.op = .slice t x none (some hi) none) (hx : opd E x = .nilsl) (hh : opd E hi = .int kk 0) (ht : tyU c.P t = some (.slice e)) (hi' : tyI c.P e = some ti)
    (h : putE c.nt o.dst .nilsl E False fun E' => evp c n (.inRegion ops rest :: k) E' T) : Goes c (.inRegion ops (i :: rest) :: k) E T := by
  refine goes_opTo n ho hg hop (OpTo.still fun o hop w β H m a hs => ⟨.slice none 0 0, ?_, .nilsl⟩) (fun cl h => by cases h) h
  have hr := opd_rep hs x
  simp only [hx, V.conv] at hr
  have hr2 := rep_int (m := m) (by have := opd_rep hs hi; rwa [hh] at this)
  generalize hq : a.eval x = q at hr
  cases hr
  simp [execOp, hop, hq, hr2, Instr.sliceAt, Instr.slice, Instr.sliceBounds, Instr.sliceBound, asIntOf, run_underlying (tyU_sound ht), run_sizeOf' (tyI_sound hi')]

/-- The built-in append of so many zeros, onto nil. -/
theorem goes_growTo {t t' e : TypeId} {x y : Operand} {kd : IntKind} {ti : TypeInfo} {z : Value} (n N : Nat) (ho : lget ops.toList i = some o) (hg : o.guard = none) (hop : o.op = .call { callee := .builtin .append, args := #[x, y], argTypes := #[t, t'] }) (hx : opd E x = .nilsl) (hy : opd E y = .int .i64 N) (h1 : 1 ≤ N)
    (ht : tyU c.P t = some (.slice e)) (ht' : tyU c.P t' = some (.int kd)) (hi : tyI c.P e = some ti) (hz : ti.zero = some z) (hsz : (Nat.beq z.cells.size ti.size && Nat.ble 1 ti.size && Nat.ble 1 ti.bytes && onesB (ofVal z).cells && Nat.beq (lcount (ofVal z).cells 0) ti.size) = true) (hb : room N ti.bytes)
    (h : putE c.nt o.dst (.osl (.loc T.length) 0 0 N) E False fun E' => lsnoc T (some (.vec 0 ti.size (List.replicate N (ofVal z)))) fun T' => evp c n (.inRegion ops rest :: k) E' T') : Goes c (.inRegion ops (i :: rest) :: k) E T := by
  simp only [lsnoc_eq] at h
  simp only [Bool.and_eq_true, lcount_eq, Nat.add_zero] at hsz
  obtain ⟨⟨⟨⟨s1, s2⟩, s3⟩, s4⟩, s5⟩ := hsz
  have s1 := Nat.eq_of_beq_eq_true s1
  have s2 : 1 ≤ ti.size := Nat.le_of_ble_eq_true s2
  have s3 : 1 ≤ ti.bytes := Nat.le_of_ble_eq_true s3
  have s5 := Nat.eq_of_beq_eq_true s5
  unfold room at hb
  have hN : N ≤ 70368744177664 := Nat.le_trans (Nat.le_mul_of_pos_right N s3) hb
  refine goes_opTo n ho hg hop (fun o hop w β H m a hs => ?_) (fun cl h => by cases h) h
  have hr := opd_rep hs x
  simp only [hx, V.conv] at hr
  have e2 := rep_int (m := m) (by have := opd_rep hs y; rwa [hy] at this)
  generalize hq : a.eval x = q at hr
  cases hr
  have hrun := run_append_zeros (P := c.P) (w := w) (kk := .i64) N (tyU_sound ht) (tyU_sound ht') (tyI_sound hi) hz o.type s1 (by omega) h1 (by omega) (by omega) (growslice_fits (by omega) (by omega))
  have hge := grownCap_ge w N 0 e
  have hcm := grownCap_le_maxLen w N 0 e (by unfold maxLen; omega)
  obtain ⟨cap, hcap⟩ : ∃ cap, cap = grownCap w N 0 e := ⟨_, rfl⟩
  rw [← hcap] at hge hcm hrun
  have hzr : RowRep w β H (V.convL m (ofVal z).cells) z.cells.toList := ofVal_row m z
  have hzp : V.convL m (ofVal z).cells = (ofVal z).cells := by
    refine pureL_conv m _ ?_
    have key1 : ∀ v, (ofVal1 v).pureB = true := fun v => by
      unfold ofVal1
      split <;> first | rfl | skip
      cases (Nat.ble _ 1000000) <;> rfl
    have key : ∀ l : List Value, V.pureL (lmap ofVal1 l) = true := fun l => by
      induction l with
      | nil => rfl
      | cons x l ih => simp only [lmap, V.pureL, key1, ih, Bool.and_self]
    unfold ofVal
    split
    · exact key _
    · rw [ofVal1_cells]
      simp [V.pureL, key1]
  rw [hzp] at hzr
  have hsame : SRel c.imps c.nt w.drew β H m ⟨E, T, c.B, c.D⟩ a := hs.same (Fr.of_heap rfl rfl rfl rfl) (hs.hrel.of_heap rfl rfl rfl rfl)
  obtain ⟨cells, hcells⟩ : ∃ cells, cells = Builtin.zeroCells z.cells N ++ Builtin.zeroCells z.cells (cap - N) := ⟨_, rfl⟩
  rw [← hcells] at hrun
  have hcs : cells.size = cap * ti.size := by
    rw [hcells]
    simp only [Array.size_append, zeroCells_size', s1, ← Nat.add_mul]
    congr 1
    omega
  obtain ⟨β', H', k1, k2, k3⟩ := hsame.newVec 0 ti.size (List.replicate N (ofVal z)) cells e N cap (tyG_zero _) s2 (fun x hx => by rw [List.eq_of_mem_replicate hx]; exact ⟨s5, s4⟩) (by simp) hge hcm hcs.symm
    (fun ix x j cc v hx hj hv => by
      have hxl := lt_of_get hx
      rw [List.length_replicate] at hxl
      have hxe := List.eq_of_mem_replicate (List.mem_of_getElem? hx)
      subst hxe
      have hjl := lt_of_get hj
      have hlt : ix * ti.size + j < N * ti.size := by
        have : (ix + 1) * ti.size ≤ N * ti.size := Nat.mul_le_mul_right _ hxl
        rw [Nat.add_mul] at this
        omega
      rw [hcells, Array.getElem?_append_left (by rw [zeroCells_size', s1]; exact hlt)] at hv
      have hget : (Builtin.zeroCells z.cells N)[ix * ti.size + j]? = some z.cells[(ix * ti.size + j) % z.cells.size]! := by
        simp [Builtin.zeroCells, s1, hlt]
      rw [hget] at hv
      injection hv with hv
      have hmod : (ix * ti.size + j) % z.cells.size = j := by rw [s1, Nat.add_comm, Nat.add_mul_mod_self_right, Nat.mod_eq_of_lt (by omega)]
      rw [hmod] at hv
      refine (hzr.2 j cc v hj ?_).mono (Fr.of_heap rfl rfl rfl rfl)
      rw [← hv]
      have : j < z.cells.size := by omega
      simp [this])
  refine ⟨_, _, _, β', H', _, ?_, .inl rfl, k1, (show Fr w β H w.drew β H from Fr.of_heap rfl rfl rfl rfl).trans k2, k3, List.prefix_append _ _⟩
  rw [← hq, ← e2] at hrun
  simp [execOp, hop, resolve, invoke, builtin, hrun]

/-- An own slice, cut behind its first elements: of the next generation. -/
theorem goes_cut {t e : TypeId} {x hi : Operand} {kk : IntKind} {ti : TypeInfo} {kn g l sz h : Nat} {xs : List V} (n : Nat) (ho : lget ops.toList i = some o) (hg : o.guard = none) (hop : o.op = .slice t x none (some hi) none) (hx : opd E x = .osl (.loc kn) g 0 l) (hh : opd E hi = .int kk h) (ht : tyU c.P t = some (.slice e)) (hi' : tyI c.P e = some ti)
    (hk : lget T kn = some (some (.vec g sz xs))) (hle : h ≤ l)
    (hn : putE c.nt o.dst (.osl (.loc kn) (bump g) 0 h) E False fun E' => lset T kn (some (.vec (bump g) sz (xs.take h))) fun T' => evp c n (.inRegion ops rest :: k) E' T') : Goes c (.inRegion ops (i :: rest) :: k) E T := by
  simp only [lset_eq] at hn
  rw [lget_eq] at hk
  refine goes_opTo n ho hg hop (fun o hop w β H m a hs => ?_) (fun cl h => by cases h) hn
  have hv := opd_rep hs x
  obtain ⟨r, hr, hH⟩ := hs.at hk
  simp only [hx, V.conv, Ref.conv, hr] at hv
  simp only [HObj.conv] at hH
  have hob := hs.hrel.obj r _ hH
  have hrl := hs.lt hr
  have e2 := rep_int (m := m) (by have := opd_rep hs hi; rwa [hh] at this)
  have hvec2 : ∀ sz2 xs2, H[r]? = some (some (.vec g sz2 xs2)) → sz2 = sz ∧ xs2 = xs := fun sz2 xs2 h2 => by
    rw [hH] at h2
    injection h2 with h2
    injection h2 with h2
    injection h2 with _ e1 e2
    exact ⟨e1.symm, e2.symm⟩
  generalize hq : a.eval x = q at hv
  have hrun : ∀ (ad : Option Addr) (cap : Nat), q = .slice ad l cap → l ≤ cap → (execOp a.eval o).run c.P w = .ok (.value (.slice (if cap = 0 then ad else Option.map (fun x => x.add 0) ad) h cap)) w := by
    intro ad cap hqe hlc
    subst hqe
    have hhc : h ≤ cap := by omega
    simp [execOp, hop, hq, e2, Instr.sliceAt, Instr.slice, Instr.sliceBounds, Instr.sliceBound, asIntOf, run_underlying (tyU_sound ht), run_sizeOf' (tyI_sound hi'), hhc]
  cases hv with
  | oslNil _ _ sz2 xs2 ad hH' hβ =>
    rw [hβ] at hob
    have hxs : xs = [] := hob
    subst hxs
    obtain rfl : h = 0 := by omega
    have hfr : Fr w β H w (upd β r .nil) (H.set r (some (.vec (bump g) sz ([] : List V)))) := Fr.regen (lt_bump g) (by rw [hβ]; simp) hH rfl rfl rfl (Nat.le_refl _) (fun _ _ _ => rfl) (fun b N hb => by cases hb)
    have hrel : HRel w (upd β r .nil) (H.set r (some (.vec (bump g) sz ([] : List V)))) := hs.hrel.regen (lt_bump g) (by rw [hβ]; simp) hH rfl rfl rfl (Nat.le_refl _) (fun _ _ _ => rfl) (fun b N hb => by cases hb) rfl
    refine ⟨_, _, w, _, _, m, hrun ad 0 rfl (Nat.le_refl _), .inl rfl, by simpa using hs.regen hk hr hfr hrel, hfr, ?_, List.prefix_refl _⟩
    simp only [V.conv, Ref.conv, hr]
    exact .oslNil r _ sz [] _ (by simp [hrl]) (upd_same _ _ _)
  | oslBlk _ _ _ _ sz2 xs2 b N ad cap hH' hβ hl hN hcap ha hlen =>
    obtain ⟨rfl, rfl⟩ := hvec2 _ _ hH'
    rw [hβ] at hob
    obtain ⟨vs, et, _, h1, h2, h3, h4, h5, h6⟩ := hob
    have hl' : ∀ b' N', Loc.blk b N = Loc.blk b' N' → w.heap.size ≤ b' ∨ ∃ N2, β r = .blk b' N2 := fun b' N' hb' => by injection hb' with e1 e2; subst e1; exact .inr ⟨N, hβ⟩
    have hfr : Fr w β H w (upd β r (.blk b N)) (H.set r (some (.vec (bump g) sz2 (xs2.take h)))) := Fr.regen (lt_bump g) (by rw [hβ]; simp) hH rfl rfl rfl (Nat.le_refl _) (fun _ _ _ => rfl) hl'
    have hrel : HRel w (upd β r (.blk b N)) (H.set r (some (.vec (bump g) sz2 (xs2.take h)))) :=
      hs.hrel.regen (lt_bump g) (by rw [hβ]; simp) hH rfl rfl rfl (Nat.le_refl _) (fun _ _ _ => rfl) hl'
        ⟨vs, et, tyG_bump _ _, h1, h2, Nat.le_trans (Nat.mul_le_mul_right _ (by simp; omega)) h3, h4, fun x hx => h5 x (List.mem_of_mem_take hx), fun p x j c v hi hj hv => by
          rw [List.getElem?_take] at hi
          split at hi
          · exact (h6 p x j c v hi hj hv).mono hfr
          · cases hi⟩
    refine ⟨_, _, w, _, _, m, hrun ad cap rfl hl, .inl rfl, hs.regen hk hr hfr hrel, hfr, ?_, List.prefix_refl _⟩
    simp only [V.conv, Ref.conv, hr]
    exact .oslBlk r _ 0 _ sz2 (xs2.take h) b N _ _ (by simp [hrl]) (upd_same _ _ _) (by omega) hN hcap (fun hc => by
      rw [if_neg (by omega), ha hc]
      simp [at_add]) (by simp; omega)
  | oslStale _ _ _ _ g' sz' xs' _ hH' hg =>
    rw [hH] at hH'
    injection hH' with hH'
    injection hH' with hH'
    injection hH' with e0 _ _
    omega
  | oslDead _ _ _ _ _ hd => rw [hH] at hd; cases hd
end

/-- A nil slice, as own memory. -/
theorem goes_own {c : Cx} {todo : List Item} {E : Env} {T : Heap} (t sz : Nat) (hx : lk E t = .nilsl) (h : Goes c todo ((t, .osl (.loc T.length) 0 0 0) :: E) (T ++ [some (.vec 0 sz [])])) : Goes c todo E T := by
  refine goes_step fun w β H m a b cs hs _ _ _ => ?_
  obtain ⟨β', H', k1, k2, k3⟩ := hs.newNil 0 sz none
  have hr := hs.env t
  simp only [hx, V.conv] at hr
  generalize hq : a.tmps.getD t Go.undef = q at hr
  cases hr
  refine ⟨w, β', H', m ++ [H.length], a, todo, ⟨(t, .osl (.loc T.length) 0 0 0) :: E, T ++ [some (.vec 0 sz [])], c.B, c.D⟩, .refl _ _, ?_, k2, h⟩
  refine { k1 with env := fun j => ?_, scE := fun p hp => ?_ }
  · simp only [lk]
    cases hb : Nat.beq t j with
    | false => exact k1.env j
    | true =>
      obtain rfl := Nat.eq_of_beq_eq_true hb
      simp only [cond_true, hq]
      exact k3
  · simp only [List.mem_cons] at hp
    rcases hp with rfl | hp
    · show T.length < (T ++ _).length
      simp
    · exact k1.scE p hp
end Bow
