/- The library, part 5: SP6, SP7, SP8, SP10, SP11, SP12, SP13, SP14, SP21, SP22, W1, W2, W3, W4, W5, W6, W7, W8, W9, W10, W11, W12, W13, W14, W15, W16, W17, W18, W19, W20, W21, W22, W23, WB1. -/
import Derived.Test.YtgdiffkimgnhgaaGreatMd
import Derived.Lib.Bytealg
import Derived.Test.YtgdiffkimgnhgaaGreatRows
import Derived.KernelRfl
import Derived.Test.YtgdiffkimgnhgaaGreatMc
import Derived.Shelf.Strings.BuilderK
import Derived.Test.YtgdiffkimgnhgaaGreatProg
/- SP6: edits of a text, in plain Lean. -/
namespace Bow
open Go

def extentP (l : List PieceT) : Int := l.foldr (fun p n => p.keep + p.drop + n) 0
def editP : List UInt8 → List PieceT → List UInt8
  | t, [] => t
  | t, p :: l => t.take p.keep.toNat ++ p.put ++ editP (t.drop (p.keep + p.drop).toNat) l
/-- What Apply answers. -/
def applyE (t : List UInt8) (l : List PieceT) : List UInt8 × Int :=
  bif !rightP l then ([], 2) else bif decide ((t.length : Int) < extentP l) then ([], 50) else (editP t l, 0)
def strE (r : List UInt8 × Int) : V := .tup [.str r.1, .int .i64 r.2]
theorem extentP_cons (p : PieceT) (l : List PieceT) : extentP (p :: l) = p.keep + p.drop + extentP l := rfl
structure PieceT.Ok (p : PieceT) : Prop where
  k0 : 0 ≤ p.keep
  k1 : p.keep ≤ 1048576
  d0 : 0 ≤ p.drop
  d1 : p.drop ≤ 1048576
theorem rightGo_ok : ∀ {l : List PieceT} {n : Nat}, rightGo n l = true → (∀ p ∈ l, p.Ok) ∧ (l = [] ∨ n + putsLen l ≤ 1048576)
  | [], n, _ => ⟨(fun p h => by cases h), .inl rfl⟩
  | p :: l, n, h => by
    rw [rightGo] at h
    simp only [Bool.and_eq_true, decide_eq_true_eq] at h
    obtain ⟨⟨⟨⟨⟨h1, h2⟩, h3⟩, h4⟩, h5⟩, h6⟩ := h
    obtain ⟨k1, k2⟩ := rightGo_ok h6
    refine ⟨fun q hq => ?_, .inr ?_⟩
    · rcases List.mem_cons.1 hq with rfl | hq
      · exact ⟨h1, h2, h3, h4⟩
      · exact k1 q hq
    · have e : putsLen (p :: l) = p.put.length + putsLen l := rfl
      rw [e]
      rcases k2 with rfl | k2
      · have : putsLen [] = 0 := rfl
        omega
      · omega
theorem rightP_ok {l : List PieceT} (h : rightP l = true) : l.length ≤ 4096 ∧ (∀ p ∈ l, p.Ok) ∧ putsLen l ≤ 1048576 := by
  unfold rightP at h
  simp only [Bool.and_eq_true, decide_eq_true_eq] at h
  obtain ⟨h1, h2⟩ := h
  obtain ⟨k1, k2⟩ := rightGo_ok h2
  refine ⟨h1, k1, ?_⟩
  rcases k2 with rfl | k2
  · exact Nat.zero_le _
  · omega
theorem extentP_nonneg : ∀ {l : List PieceT}, (∀ p ∈ l, p.Ok) → 0 ≤ extentP l
  | [], _ => Int.le_refl _
  | p :: l, h => by
    have := extentP_nonneg (l := l) fun q hq => h q (List.mem_cons_of_mem _ hq)
    have hp := h p List.mem_cons_self
    have := hp.k0
    have := hp.d0
    rw [extentP_cons]
    omega
theorem extentP_le : ∀ {l : List PieceT}, (∀ p ∈ l, p.Ok) → extentP l ≤ l.length * 2097152
  | [], _ => by simp [extentP]
  | p :: l, h => by
    have := extentP_le (l := l) fun q hq => h q (List.mem_cons_of_mem _ hq)
    have hp := h p List.mem_cons_self
    have := hp.k1
    have := hp.d1
    rw [extentP_cons, List.length_cons]
    omega
theorem editP_len : ∀ {l : List PieceT} {t : List UInt8}, (∀ p ∈ l, p.Ok) → extentP l ≤ t.length → (editP t l).length ≤ t.length + putsLen l
  | [], t, _, _ => by simp [editP, putsLen]
  | p :: l, t, h, he => by
    rw [extentP_cons] at he
    have hp := h p List.mem_cons_self
    have hl := fun q hq => h q (List.mem_cons_of_mem p hq)
    have := extentP_nonneg hl
    have ih := editP_len (l := l) (t := t.drop (p.keep + p.drop).toNat) hl (by have := hp.k0; have := hp.d0; simp; omega)
    have e : putsLen (p :: l) = p.put.length + putsLen l := rfl
    rw [editP, e]
    simp at ih ⊢
    have := hp.k0
    have := hp.d0
    omega
end Bow
/- SP7: which operations are valid, and what becomes of a tree. -/
namespace Bow
open Go

/-- Of an operation that is formed, on a tree that is right. -/
def validE (t : Tree) (o : OpT) : Int :=
  bif (decide (o.kind = 2) || decide (o.kind = 3)) && decide (o.path = []) then 82
  else match atT t o.path with
    | none => 81
    | some x => bif decide (o.kind = 1) then intoE x o.at_
      else bif decide (o.kind = 3) then (bif within o.path o.to then 84 else match atT t o.to with
        | none => 81
        | some y => intoE y o.at_)
      else bif decide (o.kind = 6) then (bif !x.leaf then 83 else (applyE x.text o.pieces).2)
      else 0
def ValidE (t : Tree) (o : OpT) : Int := bif !rightT t then 2 else bif !formedB o then 80 else validE t o
end Bow
/- SP8: a moved node's landing, in plain Lean. -/
namespace Bow
open Go

theorem weights_append : ∀ (a b : List Tree), weights (a ++ b) = weights a + weights b
  | [], b => by rw [weights]; simp
  | x :: a, b => by rw [List.cons_append, weights, weights, weights_append a b]; omega
theorem weights_set {s u : Tree} : ∀ {l : List Tree} {i : Nat}, l[i]? = some s → u.weight ≤ s.weight → weights (l.set i u) ≤ weights l
  | [], i, h, _ => by simp at h
  | x :: l, 0, h, hu => by
    simp at h
    subst h
    rw [List.set_cons_zero, weights, weights]
    omega
  | x :: l, i + 1, h, hu => by
    simp at h
    have := weights_set (l := l) h hu
    rw [List.set_cons_succ, weights, weights]
    omega
theorem withSubs_weight (t : Tree) (ss : List Tree) : (t.withSubs ss).weight + weights t.subs = t.weight + weights ss := by
  cases t
  rw [weight_eq, weight_eq]
  simp only [Tree.withSubs, Tree.label, Tree.text, Tree.attrs, Tree.subs]
  omega
theorem change_weight {F : Tree → Tree} (hF : ∀ y, (F y).weight ≤ y.weight) : ∀ (p : List Int) (t : Tree), (changeT F t p).weight ≤ t.weight
  | [], t => hF t
  | i :: p, t => by
    rw [changeT]
    cases hs : subT t i with
    | none => exact Nat.le_refl _
    | some s =>
      have ih := change_weight hF p s
      have h := weights_set (subT_some hs).2.1 ih
      have := withSubs_weight t (t.subs.set i.toNat (changeT F s p))
      simp only
      omega
theorem del_weight (i : Int) (y : Tree) : (delT i y).weight ≤ y.weight := by
  have h1 := withSubs_weight y (y.subs.take i.toNat ++ y.subs.drop (i.toNat + 1))
  have h2 : weights (y.subs.take i.toNat ++ y.subs.drop (i.toNat + 1)) ≤ weights y.subs := by
    conv => rhs; rw [← List.take_append_drop i.toNat y.subs]
    rw [weights_append, weights_append]
    have h3 : weights (y.subs.drop (i.toNat + 1)) ≤ weights (y.subs.drop i.toNat) := by
      rw [← List.drop_drop]
      cases y.subs.drop i.toNat with
      | nil => simp
      | cons a l => rw [weights]; simp
    omega
  unfold delT
  omega

theorem subT_with (t : Tree) (ss : List Tree) (j : Int) (h : 0 ≤ j) : subT (t.withSubs ss) j = ss[j.toNat]? := by
  unfold subT
  rw [withSubs_subs, decide_eq_false (by omega)]
  rfl
theorem within_cons (k j : Int) (p q : List Int) : within (k :: p) (j :: q) = (decide (k = j) && within p q) := by
  unfold within
  simp
theorem within_nil (q : List Int) : within [] q = true := by unfold within; simp
theorem within_cons_nil (k : Int) (p : List Int) : within (k :: p) [] = false := by unfold within; simp
theorem landT_cons (k i at_ : Int) (q to : List Int) : landT (k :: q) i (k :: to) at_ = (k :: (landT q i to at_).1, (landT q i to at_).2) := by
  unfold landT
  rw [within_cons]
  simp only [List.cons.injEq, true_and, decide_true, Bool.true_and, List.length_cons, Nat.add_lt_add_iff_right, List.getD_cons_succ, List.set_cons_succ]
  cases (decide (q = to) && decide (i < at_)) <;> cases (within q to && (decide (q.length < to.length) && decide (i < to.getD q.length 0))) <;> rfl
theorem landT_other {k j i at_ : Int} {q to : List Int} (h : k ≠ j) : landT (k :: q) i (j :: to) at_ = (j :: to, at_) := by
  unfold landT
  rw [within_cons]
  simp [h]
theorem landT_top (k i at_ : Int) (q : List Int) : landT (k :: q) i [] at_ = ([], at_) := by
  unfold landT
  rw [within_cons_nil]
  simp

theorem withSubs_leaf (t : Tree) (ss : List Tree) : (t.withSubs ss).leaf = t.leaf := by cases t; rfl
theorem withSubs_id (t : Tree) (ss : List Tree) : (t.withSubs ss).id = t.id := by cases t; rfl
/-- Where a moved node lands there is a node, with such a gap. -/
theorem land_at2 {i at_ : Int} (hi : 0 ≤ i) (h0 : 0 ≤ at_) : ∀ (q to : List Int) (t y z : Tree), atT t q = some y → i < y.subs.length → within (q ++ [i]) to = false → atT t to = some z → at_ ≤ z.subs.length →
    ∃ z', atT (changeT (delT i) t q) (landT q i to at_).1 = some z' ∧ 0 ≤ (landT q i to at_).2 ∧ (landT q i to at_).2 ≤ z'.subs.length ∧ z'.leaf = z.leaf ∧ z'.id = z.id
  | [], [], t, y, z, hy, hiy, hw, hz, hat => by
    rw [atT] at hy hz
    injection hy with hy
    injection hz with hz
    subst hy hz
    have hl : (delT i t).subs.length + 1 = t.subs.length := by
      unfold delT
      rw [withSubs_subs]
      simp
      omega
    unfold landT
    rw [changeT]
    by_cases h : i < at_
    · rw [decide_eq_true h]
      exact ⟨_, rfl, by show 0 ≤ at_ - 1; omega, by show at_ - 1 ≤ _; omega, withSubs_leaf _ _, withSubs_id _ _⟩
    · rw [decide_eq_false h]
      simp only [decide_true, Bool.and_false, within_nil, List.length_nil, cond_false, Nat.lt_irrefl, decide_false, Bool.false_and]
      exact ⟨_, rfl, h0, by omega, withSubs_leaf _ _, withSubs_id _ _⟩
  | [], j :: to, t, y, z, hy, hiy, hw, hz, hat => by
    rw [atT] at hy
    injection hy with hy
    subst hy
    rw [atT] at hz
    cases hs : subT t j with
    | none => rw [hs] at hz; cases hz
    | some s =>
    rw [hs] at hz
    simp only at hz
    obtain ⟨hj, hsj, _⟩ := subT_some hs
    have hji : j ≠ i := by
      rintro rfl
      simp [within] at hw
    rw [changeT]
    have e : landT [] i (j :: to) at_ = (bif decide (i < j) then ((j - 1) :: to, at_) else (j :: to, at_)) := by
      unfold landT
      simp [within_nil]
    rw [e]
    by_cases h : i < j
    · rw [decide_eq_true h]
      refine ⟨z, ?_, h0, hat, rfl, rfl⟩
      simp only [cond_true]
      rw [atT]
      have : subT (delT i t) (j - 1) = some s := by
        unfold delT
        rw [subT_with _ _ _ (by omega), List.getElem?_append_right (by simp; omega), List.getElem?_drop, ← hsj]
        congr 1
        simp
        omega
      rw [this]
      exact hz
    · rw [decide_eq_false h]
      refine ⟨z, ?_, h0, hat, rfl, rfl⟩
      simp only [cond_false]
      rw [atT]
      have : subT (delT i t) j = some s := by
        unfold delT
        rw [subT_with _ _ _ hj, List.getElem?_append_left (by simp; omega), List.getElem?_take, if_pos (by omega), hsj]
      rw [this]
      exact hz
  | k :: q, [], t, y, z, hy, hiy, hw, hz, hat => by
    rw [atT] at hz
    injection hz with hz
    subst hz
    rw [landT_top, atT]
    refine ⟨_, rfl, h0, ?_⟩
    rw [changeT]
    cases subT t k with
    | none => exact ⟨hat, rfl, rfl⟩
    | some s =>
      simp only
      rw [withSubs_subs, List.length_set]
      exact ⟨hat, withSubs_leaf _ _, withSubs_id _ _⟩
  | k :: q, j :: to, t, y, z, hy, hiy, hw, hz, hat => by
    rw [atT] at hy hz
    cases hs : subT t k with
    | none => rw [hs] at hy; cases hy
    | some s =>
    rw [hs] at hy
    simp only at hy
    obtain ⟨hk, hsk, _⟩ := subT_some hs
    have hkl := lt_of_get hsk
    rw [changeT, hs]
    simp only
    by_cases h : k = j
    · subst h
      rw [hs] at hz
      simp only at hz
      rw [List.cons_append, within_cons] at hw
      simp only [decide_true, Bool.true_and] at hw
      rw [landT_cons]
      obtain ⟨z', h1, h2, h3, h4⟩ := land_at2 hi h0 q to s y z hy hiy hw hz hat
      refine ⟨z', ?_, h2, h3, h4⟩
      simp only
      rw [atT, subT_with _ _ _ hk, List.getElem?_set_self hkl]
      exact h1
    · rw [landT_other h]
      refine ⟨z, ?_, h0, hat, rfl, rfl⟩
      cases hs2 : subT t j with
      | none => rw [hs2] at hz; cases hz
      | some s2 =>
      rw [hs2] at hz
      simp only at hz
      obtain ⟨hj, hsj, _⟩ := subT_some hs2
      simp only
      rw [atT, subT_with _ _ _ hj, List.getElem?_set_ne (by omega), hsj]
      exact hz

theorem land_at {i at_ : Int} (hi : 0 ≤ i) (h0 : 0 ≤ at_) (q to : List Int) (t y z : Tree) (h1 : atT t q = some y) (h2 : i < y.subs.length) (h3 : within (q ++ [i]) to = false) (h4 : atT t to = some z) (h5 : at_ ≤ z.subs.length) :
    ∃ z', atT (changeT (delT i) t q) (landT q i to at_).1 = some z' ∧ 0 ≤ (landT q i to at_).2 ∧ (landT q i to at_).2 ≤ z'.subs.length := by
  obtain ⟨z', k1, k2, k3, _⟩ := land_at2 hi h0 q to t y z h1 h2 h3 h4 h5
  exact ⟨z', k1, k2, k3⟩

/-! ### The path of a node's parent -/
theorem at_parent : ∀ {p : List Int} (hne : p ≠ []) {t x : Tree}, atT t p = some x → ∃ y, atT t p.dropLast = some y ∧ 0 ≤ p.getLast hne ∧ p.getLast hne < y.subs.length ∧ y.subs[(p.getLast hne).toNat]? = some x
  | [i], _, t, x, h => by
    rw [atT] at h
    cases hs : subT t i with
    | none => rw [hs] at h; cases h
    | some s =>
      rw [hs] at h
      simp only [atT] at h
      injection h with h
      subst h
      obtain ⟨h1, h2, _⟩ := subT_some hs
      have := lt_of_get h2
      exact ⟨t, rfl, h1, by show i < _; omega, h2⟩
  | i :: j :: p, hne, t, x, h => by
    rw [atT] at h
    cases hs : subT t i with
    | none => rw [hs] at h; cases h
    | some s =>
      rw [hs] at h
      obtain ⟨y, h1, h2, h3, h4⟩ := at_parent (p := j :: p) (by simp) h
      refine ⟨y, ?_, ?_⟩
      · rw [List.dropLast_cons_of_ne_nil (by simp), atT, hs]
        exact h1
      · rw [List.getLast_cons (by simp)]
        exact ⟨h2, h3, h4⟩
/-! ### What becomes of a tree -/
/-- A node new. -/
def freshT (o : OpT) : Tree := .mk o.id o.leaf o.label [] [] []
def relabelT (s : List UInt8) : Tree → Tree
  | .mk i l _ a c ss => .mk i l s a c ss
def retextT (l : List PieceT) : Tree → Tree
  | .mk i lf b a c ss => .mk i lf b a (applyE c l).1 ss
def lastP (p : List Int) : Int := p.getLastD 0
theorem lastP_eq {p : List Int} (h : p ≠ []) : p.getLast h = lastP p := by
  unfold lastP
  cases p with
  | nil => exact absurd rfl h
  | cons a p => rw [List.getLastD_eq_getLast?, List.getLast?_eq_some_getLast h]; rfl
def moveT (x t : Tree) (o : OpT) : Tree :=
  changeT (insT (landT o.path.dropLast (lastP o.path) o.to o.at_).2 x) (changeT (delT (lastP o.path)) t o.path.dropLast) (landT o.path.dropLast (lastP o.path) o.to o.at_).1
theorem land_len (q : List Int) (i : Int) (to : List Int) (n : Int) : (landT q i to n).1.length = to.length := by
  unfold landT
  cases (decide (q = to) && decide (i < n)) <;> cases (within q to && (decide (q.length < to.length) && decide (i < to.getD q.length 0))) <;> simp
end Bow
/- SP10: a move, by taking out first or by putting in first, in plain Lean. -/
namespace Bow
open Go

/-! ### Rows -/
section
variable {α : Type}
def insL (m : Nat) (x : α) (l : List α) : List α := l.take m ++ x :: l.drop m
def delL (n : Nat) (l : List α) : List α := l.take n ++ l.drop (n + 1)
theorem insL_succ (m : Nat) (x a : α) (l : List α) : insL (m + 1) x (a :: l) = a :: insL m x l := rfl
theorem delL_succ (n : Nat) (a : α) (l : List α) : delL (n + 1) (a :: l) = a :: delL n l := rfl
theorem del_ins_lt (x : α) : ∀ (l : List α) (n m : Nat), n < m → m ≤ l.length → delL n (insL m x l) = insL (m - 1) x (delL n l)
  | [], n, m, h, hm => by simp at hm; omega
  | a :: l, 0, m + 1, _, _ => rfl
  | a :: l, n + 1, m + 1, h, hm => by
    have hm' : m ≤ l.length := by simpa using hm
    obtain ⟨k, rfl⟩ : ∃ k, m = k + 1 := ⟨m - 1, by omega⟩
    rw [insL_succ, delL_succ, del_ins_lt x l n (k + 1) (by omega) hm', delL_succ]
    rfl
theorem del_ins_ge (x : α) : ∀ (l : List α) (n m : Nat), m ≤ n → n < l.length → delL (n + 1) (insL m x l) = insL m x (delL n l)
  | [], n, m, h, hm => by simp at hm
  | a :: l, n, 0, _, _ => rfl
  | a :: l, n + 1, m + 1, h, hm => by
    have hm' : n < l.length := by simpa using hm
    rw [insL_succ, delL_succ, del_ins_ge x l n m (by omega) hm', delL_succ, insL_succ]
theorem del_set_lt (K : α) : ∀ (l : List α) (i j : Nat), i < j → delL i (l.set j K) = (delL i l).set (j - 1) K
  | [], i, j, h => by simp [delL]
  | a :: l, 0, j + 1, _ => rfl
  | a :: l, i + 1, j + 1, h => by
    obtain ⟨k, rfl⟩ : ∃ k, j = k + 1 := ⟨j - 1, by omega⟩
    rw [List.set_cons_succ, delL_succ, del_set_lt K l i (k + 1) (by omega), delL_succ]
    rfl
theorem del_set_gt (K : α) : ∀ (l : List α) (i j : Nat), j < i → delL i (l.set j K) = (delL i l).set j K
  | [], i, j, h => by simp [delL]
  | a :: l, i + 1, 0, h => rfl
  | a :: l, i + 1, j + 1, h => by
    rw [List.set_cons_succ, delL_succ, del_set_gt K l i j (by omega), delL_succ, List.set_cons_succ]
theorem ins_set_lt (x K : α) : ∀ (l : List α) (m k : Nat), k < m → (insL m x l).set k K = insL m x (l.set k K) ∨ l.length ≤ k
  | [], m, k, h => .inr (by simp)
  | a :: l, m + 1, 0, _ => .inl rfl
  | a :: l, m + 1, k + 1, h => by
    rcases ins_set_lt x K l m k (by omega) with h1 | h1
    · left
      rw [insL_succ, List.set_cons_succ, h1, List.set_cons_succ, insL_succ]
    · right
      simpa using h1
theorem ins_set_ge (x K : α) : ∀ (l : List α) (m k : Nat), m ≤ k → (insL m x l).set (k + 1) K = insL m x (l.set k K)
  | [], m, k, h => by cases m <;> simp [insL]
  | a :: l, 0, k, _ => rfl
  | a :: l, m + 1, k + 1, h => by
    rw [insL_succ, List.set_cons_succ, ins_set_ge x K l m k (by omega), List.set_cons_succ, insL_succ]
theorem ins_get_lt (x : α) : ∀ (l : List α) (m k : Nat), k < m → k < l.length → (insL m x l)[k]? = l[k]?
  | [], m, k, h, hk => by simp at hk
  | a :: l, m + 1, 0, _, _ => rfl
  | a :: l, m + 1, k + 1, h, hk => by
    rw [insL_succ, List.getElem?_cons_succ, List.getElem?_cons_succ]
    exact ins_get_lt x l m k (by omega) (by simpa using hk)
theorem ins_get_ge (x : α) : ∀ (l : List α) (m k : Nat), m ≤ k → m ≤ l.length → (insL m x l)[k + 1]? = l[k]?
  | [], m, k, h, hm => by
    have : m = 0 := by simpa using hm
    subst this
    simp [insL]
  | a :: l, 0, k, _, _ => rfl
  | a :: l, m + 1, k + 1, h, hm => by
    rw [insL_succ, List.getElem?_cons_succ, List.getElem?_cons_succ]
    exact ins_get_ge x l m k (by omega) (by simpa using hm)
end
theorem insT_eq (at_ : Int) (x y : Tree) : insT at_ x y = y.withSubs (insL at_.toNat x y.subs) := rfl
theorem delT_eq (i : Int) (y : Tree) : delT i y = y.withSubs (delL i.toNat y.subs) := rfl
theorem withSubs_withSubs (t : Tree) (a b : List Tree) : (t.withSubs a).withSubs b = t.withSubs b := by cases t; rfl

/-! ### Without a node -/
def withoutT (t : Tree) (p : List Int) : Tree := changeT (delT (lastP p)) t p.dropLast
theorem lastP_cons {p : List Int} (k : Int) (h : p ≠ []) : lastP (k :: p) = lastP p := by
  rw [← lastP_eq (by simp), ← lastP_eq h, List.getLast_cons h]
theorem without_one (t : Tree) (i : Int) : withoutT t [i] = delT i t := rfl
theorem without_cons (t : Tree) (k : Int) {p : List Int} (h : p ≠ []) {s : Tree} (hs : subT t k = some s) : withoutT t (k :: p) = t.withSubs (t.subs.set k.toNat (withoutT s p)) := by
  unfold withoutT
  rw [lastP_cons k h, List.dropLast_cons_of_ne_nil h, changeT, hs]
theorem change_cons (F : Tree → Tree) (t : Tree) (k : Int) (p : List Int) {s : Tree} (hs : subT t k = some s) : changeT F t (k :: p) = t.withSubs (t.subs.set k.toNat (changeT F s p)) := by
  rw [changeT, hs]

/-- A node's path, when another one has been put at a gap. -/
def liftP (to : List Int) (at_ : Int) (fr : List Int) : List Int :=
  bif decide (to.length < fr.length) && (within to fr && decide (at_ ≤ fr.getD to.length 0)) then fr.set to.length (fr.getD to.length 0 + 1) else fr
theorem lift_cons (k at_ : Int) (to fr : List Int) : liftP (k :: to) at_ (k :: fr) = k :: liftP to at_ fr := by
  unfold liftP
  rw [within_cons]
  simp only [decide_true, Bool.true_and, List.length_cons, Nat.add_lt_add_iff_right, List.getD_cons_succ, List.set_cons_succ]
  cases (decide (to.length < fr.length) && (within to fr && decide (at_ ≤ fr.getD to.length 0))) <;> rfl
theorem lift_other {k j : Int} (at_ : Int) (to fr : List Int) (h : j ≠ k) : liftP (j :: to) at_ (k :: fr) = k :: fr := by
  unfold liftP
  rw [within_cons, decide_eq_false h]
  simp
theorem lift_nil (k at_ : Int) (fr : List Int) : liftP [] at_ (k :: fr) = (bif decide (at_ ≤ k) then k + 1 else k) :: fr := by
  unfold liftP
  rw [within_nil]
  by_cases h : at_ ≤ k <;> simp [h]
theorem lift_short (i j at_ : Int) (to : List Int) : liftP (j :: to) at_ [i] = [i] := by
  unfold liftP
  simp

/-- Put in first, then taken out where it stands now: as taken out first, then put in. -/
theorem move_law {at_ : Int} (h0 : 0 ≤ at_) (x : Tree) : ∀ (fr to : List Int) (t s z : Tree), fr ≠ [] → atT t fr = some s → within fr to = false → atT t to = some z → at_ ≤ z.subs.length →
    withoutT (changeT (insT at_ x) t to) (liftP to at_ fr) = changeT (insT (landT fr.dropLast (lastP fr) to at_).2 x) (withoutT t fr) (landT fr.dropLast (lastP fr) to at_).1
  | [], _, _, _, _, h, _, _, _, _ => absurd rfl h
  | [i], [], t, s, z, _, hs, hw, hz, hat => by
    rw [atT] at hz
    injection hz with hz
    subst hz
    rw [atT] at hs
    cases hu : subT t i with
    | none => rw [hu] at hs; cases hs
    | some u =>
    obtain ⟨hi, hsi, _⟩ := subT_some hu
    have hil := lt_of_get hsi
    rw [lift_nil, without_one, without_one]
    show delT _ (insT at_ x t) = _
    have e : landT ([i] : List Int).dropLast (lastP [i]) [] at_ = (bif decide (i < at_) then ([], at_ - 1) else ([], at_)) := by
      unfold landT lastP
      by_cases h : i < at_ <;> simp [h, within_nil]
    rw [e]
    by_cases h : i < at_
    · rw [decide_eq_true h, decide_eq_false (by omega : ¬ at_ ≤ i)]
      simp only [cond_true, cond_false]
      show _ = insT (at_ - 1) x (delT i t)
      rw [insT_eq, insT_eq, delT_eq, delT_eq, withSubs_subs, withSubs_subs, withSubs_withSubs, withSubs_withSubs, del_ins_lt x t.subs i.toNat at_.toNat (by omega) (by omega)]
      congr 2
      omega
    · rw [decide_eq_false h, decide_eq_true (by omega : at_ ≤ i)]
      simp only [cond_true, cond_false]
      show _ = insT at_ x (delT i t)
      rw [insT_eq, insT_eq, delT_eq, delT_eq, withSubs_subs, withSubs_subs, withSubs_withSubs, withSubs_withSubs]
      have : (i + 1).toNat = i.toNat + 1 := by omega
      rw [this, del_ins_ge x t.subs i.toNat at_.toNat (by omega) (by omega)]
  | [i], j :: to, t, s, z, _, hs, hw, hz, hat => by
    rw [atT] at hs hz
    cases hu : subT t i with
    | none => rw [hu] at hs; cases hs
    | some u =>
    cases hv : subT t j with
    | none => rw [hv] at hz; cases hz
    | some v =>
    obtain ⟨hi, hsi, _⟩ := subT_some hu
    obtain ⟨hj, hsj, _⟩ := subT_some hv
    have hil := lt_of_get hsi
    have hjl := lt_of_get hsj
    have hji : j ≠ i := by
      rintro rfl
      simp [within] at hw
    rw [lift_short, without_one, without_one, change_cons _ _ _ _ hv]
    have e : landT ([i] : List Int).dropLast (lastP [i]) (j :: to) at_ = (bif decide (i < j) then ((j - 1) :: to, at_) else (j :: to, at_)) := by
      unfold landT lastP
      simp [within_nil]
    rw [e]
    by_cases h : i < j
    · rw [decide_eq_true h]
      simp only [cond_true]
      have hv' : subT (delT i t) (j - 1) = some v := by
        unfold delT
        rw [subT_with _ _ _ (by omega), List.getElem?_append_right (by simp; omega), List.getElem?_drop, ← hsj]
        congr 1
        simp
        omega
      rw [change_cons _ _ _ _ hv', delT_eq, delT_eq, withSubs_withSubs, withSubs_withSubs, withSubs_subs, withSubs_subs, del_set_lt _ _ _ _ (by omega)]
      congr 2
      omega
    · rw [decide_eq_false h]
      simp only [cond_false]
      have hv' : subT (delT i t) j = some v := by
        unfold delT
        rw [subT_with _ _ _ hj, List.getElem?_append_left (by simp; omega), List.getElem?_take, if_pos (by omega), hsj]
      rw [change_cons _ _ _ _ hv', delT_eq, delT_eq, withSubs_withSubs, withSubs_withSubs, withSubs_subs, withSubs_subs, del_set_gt _ _ _ _ (by omega)]
  | k :: k2 :: q, [], t, s, z, _, hs, hw, hz, hat => by
    rw [atT] at hz
    injection hz with hz
    subst hz
    rw [atT] at hs
    cases hu : subT t k with
    | none => rw [hu] at hs; cases hs
    | some u =>
    obtain ⟨hk, hsk, _⟩ := subT_some hu
    have hkl := lt_of_get hsk
    rw [lift_nil, List.dropLast_cons_of_ne_nil (by simp), landT_top]
    show withoutT (insT at_ x t) _ = insT at_ x (withoutT t _)
    rw [without_cons t k (by simp) hu]
    by_cases h : at_ ≤ k
    · rw [decide_eq_true h]
      simp only [cond_true]
      have e : (k + 1).toNat = k.toNat + 1 := by omega
      have hu' : subT (insT at_ x t) (k + 1) = some u := by
        rw [insT_eq, subT_with _ _ _ (by omega), e, ins_get_ge _ _ _ _ (by omega) (by omega), hsk]
      rw [without_cons _ _ (by simp) hu', insT_eq, insT_eq, withSubs_withSubs, withSubs_withSubs, withSubs_subs, withSubs_subs, e, ins_set_ge _ _ _ _ _ (by omega)]
    · rw [decide_eq_false h]
      simp only [cond_false]
      have hu' : subT (insT at_ x t) k = some u := by
        rw [insT_eq, subT_with _ _ _ hk, ins_get_lt _ _ _ _ (by omega) hkl, hsk]
      rw [without_cons _ _ (by simp) hu', insT_eq, insT_eq, withSubs_withSubs, withSubs_withSubs, withSubs_subs, withSubs_subs, (ins_set_lt x _ t.subs at_.toNat k.toNat (by omega)).resolve_right (by omega)]
  | k :: k2 :: q, j :: to, t, s, z, _, hs, hw, hz, hat => by
    rw [atT] at hs hz
    cases hu : subT t k with
    | none => rw [hu] at hs; cases hs
    | some u =>
    rw [hu] at hs
    simp only at hs
    obtain ⟨hk, hsk, _⟩ := subT_some hu
    have hkl := lt_of_get hsk
    rw [List.dropLast_cons_of_ne_nil (by simp), lastP_cons k (by simp)]
    rw [without_cons t k (by simp) hu]
    by_cases h : k = j
    · subst h
      rw [hu] at hz
      simp only at hz
      rw [within_cons] at hw
      simp only [decide_true, Bool.true_and] at hw
      have ih := move_law h0 x (k2 :: q) to u s z (by simp) hs hw hz hat
      have hle : liftP to at_ (k2 :: q) ≠ [] := by
        unfold liftP
        cases (decide (to.length < (k2 :: q).length) && (within to (k2 :: q) && decide (at_ ≤ (k2 :: q).getD to.length 0))) with
        | false => simp
        | true => intro hh; have := congrArg List.length hh; simp at this
      rw [lift_cons, landT_cons, change_cons _ _ _ _ hu]
      have hu1 : subT (t.withSubs (t.subs.set k.toNat (changeT (insT at_ x) u to))) k = some (changeT (insT at_ x) u to) := by
        rw [subT_with _ _ _ hk, List.getElem?_set_self hkl]
      have hu2 : subT (t.withSubs (t.subs.set k.toNat (withoutT u (k2 :: q)))) k = some (withoutT u (k2 :: q)) := by
        rw [subT_with _ _ _ hk, List.getElem?_set_self hkl]
      rw [without_cons _ _ hle hu1, change_cons _ _ _ _ hu2, withSubs_withSubs, withSubs_withSubs, withSubs_subs, withSubs_subs, List.set_set, List.set_set, ih]
    · cases hv : subT t j with
      | none => rw [hv] at hz; cases hz
      | some v =>
      obtain ⟨hj, hsj, _⟩ := subT_some hv
      rw [lift_other _ _ _ (fun e => h e.symm), landT_other h, change_cons _ _ _ _ hv]
      have hne : k.toNat ≠ j.toNat := by omega
      have hu1 : subT (t.withSubs (t.subs.set j.toNat (changeT (insT at_ x) v to))) k = some u := by
        rw [subT_with _ _ _ hk, List.getElem?_set_ne (fun e => hne e.symm), hsk]
      have hv1 : subT (t.withSubs (t.subs.set k.toNat (withoutT u (k2 :: q)))) j = some v := by
        rw [subT_with _ _ _ hj, List.getElem?_set_ne hne, hsj]
      rw [without_cons _ _ (by simp) hu1, change_cons _ _ _ _ hv1, withSubs_withSubs, withSubs_withSubs, withSubs_subs, withSubs_subs, List.set_comm _ _ (fun e => hne e.symm)]
end Bow
/- SP11: an attribute set, in plain Lean. -/
namespace Bow
open Go

/-! ### The order of texts -/
theorem cmp_less : ∀ a b : List UInt8, Lib.compareBytes a b < 0 ↔ Op.bytesLess a b = true
  | [], [] => by simp [Lib.compareBytes, Op.bytesLess]
  | [], _ :: _ => by simp [Lib.compareBytes, Op.bytesLess]
  | _ :: _, [] => by simp [Lib.compareBytes, Op.bytesLess]
  | x :: a, y :: b => by
    have ih := cmp_less a b
    unfold Lib.compareBytes Op.bytesLess
    by_cases h1 : x < y
    · simp [h1]
    · by_cases h2 : y < x
      · have : x ≠ y := fun e => by subst e; exact h1 h2
        simp [h1, h2, this]
      · have : x = y := UInt8.le_antisymm (UInt8.not_lt.1 h2) (UInt8.not_lt.1 h1)
        subst this
        simp only [h1, if_false, decide_false, beq_self_eq_true, Bool.true_and, Bool.false_or]
        exact ih
theorem cmp_zero : ∀ a b : List UInt8, Lib.compareBytes a b = 0 ↔ a = b
  | [], [] => by simp [Lib.compareBytes]
  | [], _ :: _ => by simp [Lib.compareBytes]
  | _ :: _, [] => by simp [Lib.compareBytes]
  | x :: a, y :: b => by
    have ih := cmp_zero a b
    unfold Lib.compareBytes
    by_cases h1 : x < y
    · have : x ≠ y := fun e => by subst e; exact UInt8.lt_irrefl x h1
      simp [h1, this]
    · by_cases h2 : y < x
      · have : x ≠ y := fun e => by subst e; exact h1 h2
        simp [h1, h2, this]
      · have : x = y := UInt8.le_antisymm (UInt8.not_lt.1 h2) (UInt8.not_lt.1 h1)
        subst this
        simp only [h1, if_false, ih, List.cons.injEq, true_and]
theorem less_irrefl (a : List UInt8) : Op.bytesLess a a = false := by
  cases h : Op.bytesLess a a with
  | false => rfl
  | true =>
    have h1 := (cmp_less a a).2 h
    have h2 := (cmp_zero a a).2 rfl
    omega
theorem less_trans : ∀ {a b c : List UInt8}, Op.bytesLess a b = true → Op.bytesLess b c = true → Op.bytesLess a c = true
  | _, [], _, h, _ => by unfold Op.bytesLess at h; simp at h
  | _, _ :: _, [], _, h => by unfold Op.bytesLess at h; simp at h
  | [], _ :: _, _ :: _, _, _ => by unfold Op.bytesLess; rfl
  | x :: a, y :: b, z :: c, h, k => by
    unfold Op.bytesLess at h k ⊢
    simp only [Bool.or_eq_true, decide_eq_true_eq, Bool.and_eq_true, beq_iff_eq] at h k ⊢
    rcases h with h | ⟨rfl, h⟩ <;> rcases k with k | ⟨rfl, k⟩
    · exact .inl (UInt8.lt_trans h k)
    · exact .inl h
    · exact .inl k
    · exact .inr ⟨rfl, less_trans h k⟩
theorem less_tri : ∀ {a b : List UInt8}, Op.bytesLess a b = false → Op.bytesLess b a = false → a = b
  | [], [], _, _ => rfl
  | [], _ :: _, h, _ => by unfold Op.bytesLess at h; simp at h
  | _ :: _, [], _, h => by unfold Op.bytesLess at h; simp at h
  | x :: a, y :: b, h, k => by
    unfold Op.bytesLess at h k
    simp only [Bool.or_eq_false_iff, decide_eq_false_iff_not, Bool.and_eq_false_iff, beq_eq_false_iff_ne] at h k
    have e : x = y := UInt8.le_antisymm (UInt8.not_lt.1 k.1) (UInt8.not_lt.1 h.1)
    subst e
    rw [less_tri (h.2.resolve_left fun q => q rfl) (k.2.resolve_left fun q => q rfl)]
theorem less_ne {a b : List UInt8} (h : Op.bytesLess a b = true) : a ≠ b := by
  rintro rfl
  rw [less_irrefl] at h
  cases h
theorem less_asymm {a b : List UInt8} (h : Op.bytesLess a b = true) : Op.bytesLess b a = false := by
  cases k : Op.bytesLess b a with
  | false => rfl
  | true =>
    have := less_trans h k
    rw [less_irrefl] at this
    cases this

/-! ### Attributes in order -/
theorem ordOk_less {k s : List UInt8} (h : ordOk (some k) s = true) : Op.bytesLess k s = true := by
  unfold ordOk leS at h
  simp only [Bool.not_eq_true', Bool.or_eq_false_iff, decide_eq_false_iff_not] at h
  cases hk : Op.bytesLess k s with
  | true => rfl
  | false => exact absurd (less_tri h.1 hk) h.2
theorem attrs_behind : ∀ {l : List (List UInt8 × List UInt8)} {k : List UInt8}, attrsOk (some k) l = true → ∀ a ∈ l, Op.bytesLess k a.1 = true
  | [], _, _, a, h => by cases h
  | b :: l, k, h, a, ha => by
    rw [attrsOk, Bool.and_eq_true] at h
    have h1 : Op.bytesLess k b.1 = true := by
      have := h.1
      unfold attrOk at this
      simp only [Bool.and_eq_true] at this
      exact ordOk_less this.2.2
    rcases List.mem_cons.1 ha with rfl | ha
    · exact h1
    · exact less_trans h1 (attrs_behind h.2 a ha)
theorem attrsOk_tail {k : Option (List UInt8)} {a : List UInt8 × List UInt8} {l : List (List UInt8 × List UInt8)} (h : attrsOk k (a :: l) = true) : attrsOk (some a.1) l = true := by
  rw [attrsOk, Bool.and_eq_true] at h
  exact h.2
/-- How many keys are ahead of one. -/
def posK (k : List UInt8) : List (List UInt8 × List UInt8) → Nat
  | [] => 0
  | a :: l => bif Op.bytesLess a.1 k then posK k l + 1 else 0
theorem pos_le (k : List UInt8) : ∀ l, posK k l ≤ l.length
  | [] => Nat.le_refl _
  | a :: l => by
    rw [posK]
    have := pos_le k l
    cases Op.bytesLess a.1 k with
    | true => simpa using this
    | false => simp
theorem pos_iff (k : List UInt8) : ∀ {l : List (List UInt8 × List UInt8)} {k0 : Option (List UInt8)}, attrsOk k0 l = true → ∀ (h : Nat) (hl : h < l.length), (Op.bytesLess l[h].1 k = true ↔ h < posK k l)
  | a :: l, k0, hs, h, hl => by
    rw [posK]
    cases ha : Op.bytesLess a.1 k with
    | true =>
      cases h with
      | zero => simp [ha]
      | succ h =>
        simp only [cond_true, List.getElem_cons_succ, Nat.add_lt_add_iff_right]
        exact pos_iff k (attrsOk_tail hs) h (by simpa using hl)
    | false =>
      simp only [cond_false, Nat.not_lt_zero, iff_false, Bool.not_eq_true]
      cases h with
      | zero => exact ha
      | succ h =>
        have hl' : h < l.length := by simpa using hl
        have := attrs_behind (attrsOk_tail hs) _ (List.getElem_mem hl')
        simp only [List.getElem_cons_succ]
        cases hb : Op.bytesLess l[h].1 k with
        | false => rfl
        | true =>
          rw [less_trans this hb] at ha
          cases ha
/-- Is there one of that key? -/
def hasK (k : List UInt8) (l : List (List UInt8 × List UInt8)) : Bool := decide (posK k l < l.length) && decide ((l.getD (posK k l) ([], [])).1 = k)
def midA (o : OpT) : List (List UInt8 × List UInt8) := bif o.gone then [] else [(o.key, o.value)]
/-- As the program sets one. -/
def setA (o : OpT) (l : List (List UInt8 × List UInt8)) : List (List UInt8 × List UInt8) := l.take (posK o.key l) ++ (midA o ++ l.drop (posK o.key l + (bif hasK o.key l then 1 else 0)))
/-- As the document sets one. -/
def refA (o : OpT) : Bool → List (List UInt8 × List UInt8) → List (List UInt8 × List UInt8)
  | done, [] => bif done then [] else [(o.key, o.value)]
  | done, a :: l => (bif !done && !Op.bytesLess a.1 o.key then [(o.key, o.value)] else []) ++ ((bif decide (a.1 = o.key) then [] else [a]) ++ refA o (done || !Op.bytesLess a.1 o.key) l)
theorem refA_done (o : OpT) : ∀ {l : List (List UInt8 × List UInt8)}, (∀ a ∈ l, a.1 ≠ o.key) → refA o true l = l
  | [], _ => rfl
  | a :: l, h => by
    rw [refA, decide_eq_false (h a List.mem_cons_self)]
    simp [refA_done o fun b hb => h b (List.mem_cons_of_mem _ hb)]
theorem attr_law (o : OpT) : ∀ {l : List (List UInt8 × List UInt8)} {k0 : Option (List UInt8)}, attrsOk k0 l = true → refA o o.gone l = setA o l
  | [], _, _ => by
    unfold setA midA
    rw [refA]
    simp [posK]
  | a :: l, k0, h => by
    have ih := attr_law o (attrsOk_tail h)
    have hb := attrs_behind (attrsOk_tail h)
    rw [refA]
    cases ha : Op.bytesLess a.1 o.key with
    | true =>
      have hne := less_ne ha
      have e1 : posK o.key (a :: l) = posK o.key l + 1 := by rw [posK, ha]; rfl
      have e2 : hasK o.key (a :: l) = hasK o.key l := by
        unfold hasK
        rw [e1]
        simp
      simp only [Bool.not_true, Bool.and_false, cond_false, List.nil_append, Bool.or_false, decide_eq_false hne]
      rw [ih]
      unfold setA
      rw [e1, e2]
      rw [List.take_succ_cons, Nat.add_right_comm (posK o.key l) 1, List.drop_succ_cons]
      simp
    | false =>
      have e1 : posK o.key (a :: l) = 0 := by rw [posK, ha]; rfl
      simp only [Bool.not_false, Bool.and_true, Bool.or_true]
      by_cases he : a.1 = o.key
      · have e2 : hasK o.key (a :: l) = true := by unfold hasK; rw [e1]; simp [he]
        rw [decide_eq_true he, refA_done o fun b hm e => by
          have := hb b hm
          rw [he, ← e, less_irrefl] at this
          cases this]
        unfold setA midA
        rw [e1, e2]
        cases o.gone <;> rfl
      · have e2 : hasK o.key (a :: l) = false := by unfold hasK; rw [e1]; simp [he]
        have hka : Op.bytesLess o.key a.1 = true := by
          cases hk : Op.bytesLess o.key a.1 with
          | true => rfl
          | false => exact absurd (less_tri ha hk) he
        rw [decide_eq_false he, refA_done o fun b hm e => by
          have := less_trans hka (hb b hm)
          rw [← e, less_irrefl] at this
          cases this]
        unfold setA midA
        rw [e1, e2]
        cases o.gone <;> rfl
end Bow
/- SP12: a moved node, when it has been put in: it still stands where it stood, or one on; weights. -/
namespace Bow
open Go

theorem at_cons {t s : Tree} {k : Int} (p : List Int) (h : subT t k = some s) : atT t (k :: p) = atT s p := by rw [atT, h]
theorem lift_at {at_ : Int} (h0 : 0 ≤ at_) (x : Tree) : ∀ (fr to : List Int) (t s z : Tree), fr ≠ [] → atT t fr = some s → within fr to = false → atT t to = some z → at_ ≤ z.subs.length →
    ∃ s', atT (changeT (insT at_ x) t to) (liftP to at_ fr) = some s'
  | [], _, _, _, _, h, _, _, _, _ => absurd rfl h
  | k :: q, [], t, s, z, _, hs, hw, hz, hat => by
    rw [atT] at hz
    injection hz with hz
    subst hz
    rw [atT] at hs
    cases hu : subT t k with
    | none => rw [hu] at hs; cases hs
    | some u =>
    rw [hu] at hs
    obtain ⟨hk, hsk, _⟩ := subT_some hu
    have hkl := lt_of_get hsk
    rw [lift_nil]
    show ∃ s', atT (insT at_ x t) _ = some s'
    by_cases h : at_ ≤ k
    · rw [decide_eq_true h]
      simp only [cond_true]
      have e : (k + 1).toNat = k.toNat + 1 := by omega
      have hu' : subT (insT at_ x t) (k + 1) = some u := by
        rw [insT_eq, subT_with _ _ _ (by omega), e, ins_get_ge _ _ _ _ (by omega) (by omega), hsk]
      exact ⟨s, by rw [at_cons _ hu']; exact hs⟩
    · rw [decide_eq_false h]
      simp only [cond_false]
      have hu' : subT (insT at_ x t) k = some u := by
        rw [insT_eq, subT_with _ _ _ hk, ins_get_lt _ _ _ _ (by omega) hkl, hsk]
      exact ⟨s, by rw [at_cons _ hu']; exact hs⟩
  | k :: q, j :: to, t, s, z, _, hs, hw, hz, hat => by
    rw [atT] at hs hz
    cases hu : subT t k with
    | none => rw [hu] at hs; cases hs
    | some u =>
    rw [hu] at hs
    simp only at hs
    obtain ⟨hk, hsk, _⟩ := subT_some hu
    have hkl := lt_of_get hsk
    by_cases h : k = j
    · subst h
      rw [hu] at hz
      simp only at hz
      rw [within_cons] at hw
      simp only [decide_true, Bool.true_and] at hw
      have hq : q ≠ [] := by
        rintro rfl
        rw [within_nil] at hw
        cases hw
      obtain ⟨s', ih⟩ := lift_at h0 x q to u s z hq hs hw hz hat
      rw [lift_cons, change_cons _ _ _ _ hu]
      have hu1 : subT (t.withSubs (t.subs.set k.toNat (changeT (insT at_ x) u to))) k = some (changeT (insT at_ x) u to) := by
        rw [subT_with _ _ _ hk, List.getElem?_set_self hkl]
      exact ⟨s', by rw [at_cons _ hu1]; exact ih⟩
    · cases hv : subT t j with
      | none => rw [hv] at hz; cases hz
      | some v =>
      obtain ⟨hj, hsj, _⟩ := subT_some hv
      rw [lift_other _ _ _ (fun e => h e.symm), change_cons _ _ _ _ hv]
      have hne : k.toNat ≠ j.toNat := by omega
      have hu1 : subT (t.withSubs (t.subs.set j.toNat (changeT (insT at_ x) v to))) k = some u := by
        rw [subT_with _ _ _ hk, List.getElem?_set_ne (fun e => hne e.symm), hsk]
      exact ⟨s, by rw [at_cons _ hu1]; exact hs⟩

theorem weights_set_add {s u : Tree} {n : Nat} : ∀ {l : List Tree} {i : Nat}, l[i]? = some s → u.weight ≤ s.weight + n → weights (l.set i u) ≤ weights l + n
  | [], i, h, _ => by simp at h
  | x :: l, 0, h, hu => by
    simp at h
    subst h
    rw [List.set_cons_zero, weights, weights]
    omega
  | x :: l, i + 1, h, hu => by
    simp at h
    have := weights_set_add (l := l) h hu
    rw [List.set_cons_succ, weights, weights]
    omega
theorem change_weight_add {F : Tree → Tree} {n : Nat} (hF : ∀ y, (F y).weight ≤ y.weight + n) : ∀ (p : List Int) (t : Tree), (changeT F t p).weight ≤ t.weight + n
  | [], t => hF t
  | i :: p, t => by
    rw [changeT]
    cases hs : subT t i with
    | none => simp only; omega
    | some s =>
      have ih := change_weight_add hF p s
      have h := weights_set_add (subT_some hs).2.1 ih
      have := withSubs_weight t (t.subs.set i.toNat (changeT F s p))
      simp only
      omega
theorem ins_weight (at_ : Int) (x y : Tree) : (insT at_ x y).weight ≤ y.weight + x.weight := by
  have h1 := withSubs_weight y (y.subs.take at_.toNat ++ x :: y.subs.drop at_.toNat)
  have h2 : weights (y.subs.take at_.toNat ++ x :: y.subs.drop at_.toNat) = weights y.subs + x.weight := by
    conv => rhs; rw [← List.take_append_drop at_.toNat y.subs]
    rw [weights_append, weights_append, weights]
    omega
  unfold insT
  omega
theorem lift_len (to : List Int) (at_ : Int) (fr : List Int) : (liftP to at_ fr).length = fr.length := by
  unfold liftP
  cases (decide (to.length < fr.length) && (within to fr && decide (at_ ≤ fr.getD to.length 0))) <;> simp
theorem moveT_eq (x t : Tree) (o : OpT) : moveT x t o = changeT (insT (landT o.path.dropLast (lastP o.path) o.to o.at_).2 x) (withoutT t o.path) (landT o.path.dropLast (lastP o.path) o.to o.at_).1 := rfl
end Bow
/- SP13: what becomes of a tree, in plain Lean; what is known of a valid operation. -/
namespace Bow
open Go

abbrev AttrL := List (List UInt8 × List UInt8)
def Tree.withAttrs : Tree → AttrL → Tree
  | .mk i l b _ c ss, a => .mk i l b a c ss
def setAT (o : OpT) (y : Tree) : Tree := y.withAttrs (setA o y.attrs)
/-- What an operation that is valid makes of a tree. -/
def applyT (t : Tree) (o : OpT) : Tree :=
  bif decide (o.kind = 1) then changeT (insT o.at_ (freshT o)) t o.path
  else bif decide (o.kind = 2) then withoutT t o.path
  else bif decide (o.kind = 3) then (match atT t o.path with | some x => moveT x t o | none => t)
  else bif decide (o.kind = 4) then changeT (setAT o) t o.path
  else bif decide (o.kind = 5) then changeT (relabelT o.label) t o.path
  else changeT (retextT o.pieces) t o.path
def applyR (t : Tree) (o : OpT) : Tree × Int := bif decide (ValidE t o = 0) then (applyT t o, 0) else (.mk 0 false [] [] [] [], ValidE t o)

theorem right_sub {t s : Tree} {i : Int} (ht : t.rightA = true) (h : subT t i = some s) : s.rightA = true := by
  rw [rightA_eq, Bool.and_eq_true, rightsA_all] at ht
  exact List.all_eq_true.1 ht.2 s (subT_some h).2.2
theorem right_at {y : Tree} : ∀ {p : List Int} {t : Tree}, t.rightA = true → atT t p = some y → y.rightA = true
  | [], t, ht, h => by
    rw [atT] at h
    injection h with h
    subst h
    exact ht
  | i :: p, t, ht, h => by
    rw [atT] at h
    cases hs : subT t i with
    | none => rw [hs] at h; cases h
    | some s =>
      rw [hs] at h
      exact right_at (p := p) (right_sub ht hs) h
theorem right_attrs {y : Tree} (h : y.rightA = true) : attrsOk none y.attrs = true := by
  rw [rightA_eq, Bool.and_eq_true] at h
  have := h.1
  unfold rightN at this
  rw [Bool.and_eq_true] at this
  exact this.2

/-- What is known of an operation that is valid. -/
inductive GoodO (t : Tree) (o : OpT) : Prop
  | ins (y) (hk : o.kind = 1) (hy : atT t o.path = some y) (hl : y.leaf = false) (h0 : 0 ≤ o.at_) (h1 : o.at_ ≤ y.subs.length) (h2 : o.label.length ≤ 64) : GoodO t o
  | del (x) (hk : o.kind = 2) (hne : o.path ≠ []) (hx : atT t o.path = some x) : GoodO t o
  | mov (x z) (hk : o.kind = 3) (hne : o.path ≠ []) (hx : atT t o.path = some x) (hw : within o.path o.to = false) (hz : atT t o.to = some z) (hl : z.leaf = false) (h0 : 0 ≤ o.at_) (h1 : o.at_ ≤ z.subs.length) : GoodO t o
  | att (y) (hk : o.kind = 4) (hy : atT t o.path = some y) (h1 : keyOk o.key = true) (h2 : o.gone = true ∨ o.value.length ≤ 256) : GoodO t o
  | lab (y) (hk : o.kind = 5) (hy : atT t o.path = some y) (h2 : o.label.length ≤ 64) : GoodO t o
  | edt (y) (hk : o.kind = 6) (hy : atT t o.path = some y) (hl : y.leaf = true) (he : (applyE y.text o.pieces).2 = 0) : GoodO t o

theorem into_zero {y : Tree} {n : Int} (h : intoE y n = 0) : y.leaf = false ∧ n ≤ y.subs.length := by
  unfold intoE at h
  cases hl : y.leaf with
  | true => rw [hl] at h; cases h
  | false =>
    rw [hl] at h
    by_cases hn : (y.subs.length : Int) < n
    · rw [decide_eq_true hn] at h; cases h
    · exact ⟨rfl, by omega⟩
theorem valid_right {t : Tree} {o : OpT} (h : ValidE t o = 0) : rightT t = true ∧ formedB o = true ∧ validE t o = 0 := by
  unfold ValidE at h
  cases hr : rightT t with
  | false => rw [hr] at h; cases h
  | true =>
    cases hf : formedB o with
    | false => rw [hr, hf] at h; cases h
    | true => rw [hr, hf] at h; exact ⟨rfl, rfl, h⟩
theorem formed_path {o : OpT} (h : formedB o = true) : mayP o.path = true := by
  unfold formedB at h
  rw [Bool.and_eq_true] at h
  exact h.1
theorem may_step {p : List Int} (h : mayP p = true) : ∀ i ∈ p, 0 ≤ i ∧ i ≤ 1048576 := by
  unfold mayP at h
  rw [Bool.and_eq_true] at h
  intro i hi
  have := List.all_eq_true.1 h.2 i hi
  unfold stepOk at this
  simp only [Bool.and_eq_true, decide_eq_true_eq] at this
  omega
theorem good_of {t : Tree} {o : OpT} (h : ValidE t o = 0) : GoodO t o := by
  obtain ⟨hr, hf, hv⟩ := valid_right h
  have hk : o.kind = 1 ∨ o.kind = 2 ∨ o.kind = 3 ∨ o.kind = 4 ∨ o.kind = 5 ∨ o.kind = 6 := by
    unfold formedB at hf
    rw [Bool.and_eq_true] at hf
    have h2 := hf.2
    by_cases e1 : o.kind = 1 <;> by_cases e2 : o.kind = 2 <;> by_cases e3 : o.kind = 3 <;> by_cases e4 : o.kind = 4 <;> by_cases e5 : o.kind = 5 <;> by_cases e6 : o.kind = 6 <;> simp_all
  unfold validE at hv
  unfold formedB at hf
  rw [Bool.and_eq_true] at hf
  have hf2 := hf.2
  by_cases hroot : (decide (o.kind = 2) || decide (o.kind = 3)) && decide (o.path = [])
  · rw [hroot] at hv
    cases hv
  · have hroot : ((decide (o.kind = 2) || decide (o.kind = 3)) && decide (o.path = [])) = false := by simpa using hroot
    rw [hroot] at hv
    simp only [cond_false] at hv
    cases hx : atT t o.path with
    | none => rw [hx] at hv; cases hv
    | some x =>
    rw [hx] at hv
    simp only at hv
    rcases hk with hk | hk | hk | hk | hk | hk
    · simp only [hk] at hv hf2
      obtain ⟨h1, h2⟩ := into_zero hv
      have hf3 : (gapOk o.at_ && decide ((o.label.length : Int) ≤ 64)) = true := hf2
      unfold gapOk at hf3
      simp only [Bool.and_eq_true, decide_eq_true_eq] at hf3
      exact .ins x hk hx h1 hf3.1.1 h2 (by omega)
    · have hne : o.path ≠ [] := by
        intro e
        rw [hk, e] at hroot
        cases hroot
      exact .del x hk hne hx
    · have hne : o.path ≠ [] := by
        intro e
        rw [hk, e] at hroot
        cases hroot
      simp only [hk] at hv hf2
      have hv : (bif within o.path o.to then (84 : Int) else match atT t o.to with | none => 81 | some y => intoE y o.at_) = 0 := hv
      have hf3 : (gapOk o.at_ && mayP o.to) = true := hf2
      unfold gapOk at hf3
      simp only [Bool.and_eq_true, decide_eq_true_eq] at hf3
      cases hw : within o.path o.to with
      | true => rw [hw] at hv; cases hv
      | false =>
        rw [hw] at hv
        cases hz : atT t o.to with
        | none => rw [hz] at hv; cases hv
        | some z =>
          rw [hz] at hv
          obtain ⟨h1, h2⟩ := into_zero hv
          exact .mov x z hk hne hx hw hz h1 hf3.1.1 h2
    · simp only [hk] at hf2
      have hf3 : (keyOk o.key && (o.gone || decide ((o.value.length : Int) ≤ 256))) = true := hf2
      simp only [Bool.and_eq_true, Bool.or_eq_true, decide_eq_true_eq] at hf3
      exact .att x hk hx hf3.1 (hf3.2.imp id fun h => by omega)
    · simp only [hk] at hf2
      have hf3 : decide ((o.label.length : Int) ≤ 64) = true := hf2
      simp only [decide_eq_true_eq] at hf3
      exact .lab x hk hx (by omega)
    · simp only [hk] at hv
      have hv : (bif !x.leaf then (83 : Int) else (applyE x.text o.pieces).2) = 0 := hv
      cases hl : x.leaf with
      | false => rw [hl] at hv; cases hv
      | true => rw [hl] at hv; exact .edt x hk hx hl hv
theorem good_to {o : OpT} (hf : formedB o = true) (hk : o.kind = 3) : mayP o.to = true := by
  unfold formedB at hf
  rw [Bool.and_eq_true] at hf
  have hf2 := hf.2
  simp only [hk] at hf2
  have hf3 : (gapOk o.at_ && mayP o.to) = true := hf2
  rw [Bool.and_eq_true] at hf3
  exact hf3.2
end Bow
/- SP14: how heavy a tree becomes, in plain Lean. -/
namespace Bow
open Go

theorem weights_set_eq {s u : Tree} : ∀ {l : List Tree} {i : Nat}, l[i]? = some s → weights (l.set i u) + s.weight = weights l + u.weight
  | [], i, h => by simp at h
  | x :: l, 0, h => by
    simp at h
    subst h
    rw [List.set_cons_zero, weights, weights]
    omega
  | x :: l, i + 1, h => by
    simp at h
    have := weights_set_eq (u := u) (l := l) h
    rw [List.set_cons_succ, weights, weights]
    omega
theorem change_weight_eq {F : Tree → Tree} {y : Tree} : ∀ {p : List Int} {t : Tree}, atT t p = some y → (changeT F t p).weight + y.weight = t.weight + (F y).weight
  | [], t, h => by
    rw [atT] at h
    injection h with h
    subst h
    rw [changeT]
    omega
  | i :: p, t, h => by
    rw [atT] at h
    cases hs : subT t i with
    | none => rw [hs] at h; cases h
    | some s =>
      rw [hs] at h
      have ih := change_weight_eq (F := F) (p := p) h
      rw [changeT, hs]
      simp only
      have h1 := weights_set_eq (u := changeT F s p) (subT_some hs).2.1
      have h2 := withSubs_weight t (t.subs.set i.toNat (changeT F s p))
      omega
theorem del_weight_eq {y x : Tree} {i : Int} (h : y.subs[i.toNat]? = some x) : (delT i y).weight + x.weight = y.weight := by
  have h1 := withSubs_weight y (y.subs.take i.toNat ++ y.subs.drop (i.toNat + 1))
  have h2 : weights (y.subs.take i.toNat ++ y.subs.drop (i.toNat + 1)) + x.weight = weights y.subs := by
    have hl := lt_of_get h
    conv => rhs; rw [← List.take_append_drop i.toNat y.subs]
    rw [weights_append, weights_append, List.drop_eq_getElem_cons hl, weights]
    have : y.subs[i.toNat] = x := by rw [List.getElem?_eq_getElem hl] at h; injection h
    rw [this]
    omega
  unfold delT
  omega
theorem without_weight {t x : Tree} {p : List Int} (hne : p ≠ []) (hx : atT t p = some x) : (withoutT t p).weight + x.weight = t.weight := by
  obtain ⟨y, y1, y2, y3, y4⟩ := at_parent hne hx
  rw [lastP_eq hne] at y4
  have h1 := change_weight_eq (F := delT (lastP p)) y1
  have h2 := del_weight_eq y4
  unfold withoutT
  omega
def costO (o : OpT) : Nat := 2 + o.label.length + o.key.length + o.value.length + putsLen o.pieces
theorem attrLen_append : ∀ a b : AttrL, attrLen (a ++ b) = attrLen a + attrLen b
  | [], b => by simp [attrLen]
  | x :: a, b => by
    have := attrLen_append a b
    rw [List.cons_append, attrLen_cons, attrLen_cons]
    omega
theorem setA_weight (o : OpT) (y : Tree) : (setAT o y).weight ≤ y.weight + (1 + o.key.length + o.value.length) := by
  have h1 : (setA o y.attrs).length + attrLen (setA o y.attrs) ≤ y.attrs.length + attrLen y.attrs + (1 + o.key.length + o.value.length) := by
    unfold setA
    rw [attrLen_append, attrLen_append]
    have e : attrLen y.attrs = attrLen (y.attrs.take (posK o.key y.attrs)) + attrLen (y.attrs.drop (posK o.key y.attrs)) := by rw [← attrLen_append, List.take_append_drop]
    have e2 : attrLen (y.attrs.drop (posK o.key y.attrs + (bif hasK o.key y.attrs then 1 else 0))) ≤ attrLen (y.attrs.drop (posK o.key y.attrs)) := by
      rw [← List.drop_drop]
      cases hasK o.key y.attrs with
      | false => simp
      | true =>
        cases y.attrs.drop (posK o.key y.attrs) with
        | nil => simp
        | cons a l => rw [attrLen_cons]; simp only [cond_true, List.drop_succ_cons, List.drop_zero]; omega
    have e3 : (midA o).length + attrLen (midA o) ≤ 1 + o.key.length + o.value.length := by
      unfold midA
      cases o.gone <;> simp [attrLen]
      omega
    simp only [List.length_append, List.length_take, List.length_drop]
    omega
  have w1 := weight_eq y
  have w2 := weight_eq (setAT o y)
  have : (setAT o y).label = y.label ∧ (setAT o y).text = y.text ∧ (setAT o y).attrs = setA o y.attrs ∧ (setAT o y).subs = y.subs := by cases y; exact ⟨rfl, rfl, rfl, rfl⟩
  obtain ⟨q1, q2, q3, q4⟩ := this
  rw [q1, q2, q3, q4] at w2
  omega
theorem relabel_weight (s : List UInt8) (y : Tree) : (relabelT s y).weight ≤ y.weight + s.length := by
  have w1 := weight_eq y
  have w2 := weight_eq (relabelT s y)
  have : (relabelT s y).label = s ∧ (relabelT s y).text = y.text ∧ (relabelT s y).attrs = y.attrs ∧ (relabelT s y).subs = y.subs := by cases y; exact ⟨rfl, rfl, rfl, rfl⟩
  obtain ⟨q1, q2, q3, q4⟩ := this
  rw [q1, q2, q3, q4] at w2
  omega
theorem applyE_length (t : List UInt8) (l : List PieceT) : (applyE t l).1.length ≤ t.length + putsLen l := by
  unfold applyE
  cases hr : rightP l with
  | false => simp
  | true =>
    obtain ⟨r1, r2, r3⟩ := rightP_ok hr
    by_cases h : (t.length : Int) < extentP l
    · rw [decide_eq_true h]; simp
    · rw [decide_eq_false h]
      exact editP_len r2 (by omega)
theorem retext_weight (l : List PieceT) (y : Tree) : (retextT l y).weight ≤ y.weight + putsLen l := by
  have w1 := weight_eq y
  have w2 := weight_eq (retextT l y)
  have : (retextT l y).label = y.label ∧ (retextT l y).text = (applyE y.text l).1 ∧ (retextT l y).attrs = y.attrs ∧ (retextT l y).subs = y.subs := by cases y; exact ⟨rfl, rfl, rfl, rfl⟩
  obtain ⟨q1, q2, q3, q4⟩ := this
  rw [q1, q2, q3, q4] at w2
  have := applyE_length y.text l
  omega
theorem fresh_weight (o : OpT) : (freshT o).weight = 1 + o.label.length := by
  have := weight_eq (freshT o)
  have e : (freshT o).label = o.label ∧ (freshT o).text = [] ∧ (freshT o).attrs = [] ∧ (freshT o).subs = [] := ⟨rfl, rfl, rfl, rfl⟩
  obtain ⟨q1, q2, q3, q4⟩ := e
  rw [q1, q2, q3, q4] at this
  simp [attrLen, weights] at this
  omega
theorem applyT_weight {t : Tree} {o : OpT} (h : ValidE t o = 0) : (applyT t o).weight ≤ t.weight + costO o := by
  unfold costO
  cases good_of h with
  | ins y hk hy hl h0 h1 h2 =>
    have e : applyT t o = changeT (insT o.at_ (freshT o)) t o.path := by unfold applyT; rw [hk]; rfl
    have := change_weight_eq (F := insT o.at_ (freshT o)) hy
    have := ins_weight o.at_ (freshT o) y
    have := fresh_weight o
    rw [e]
    omega
  | del x hk hne hx =>
    have e : applyT t o = withoutT t o.path := by unfold applyT; rw [hk]; rfl
    have := without_weight hne hx
    rw [e]
    omega
  | mov x z hk hne hx hw hz hl h0 h1 =>
    have e : applyT t o = moveT x t o := by unfold applyT; rw [hk, hx]; rfl
    have := without_weight hne hx
    have := change_weight_add (F := insT (landT o.path.dropLast (lastP o.path) o.to o.at_).2 x) (n := x.weight) (ins_weight _ x) (landT o.path.dropLast (lastP o.path) o.to o.at_).1 (withoutT t o.path)
    rw [e, moveT_eq]
    omega
  | att y hk hy h1 h2 =>
    have e : applyT t o = changeT (setAT o) t o.path := by unfold applyT; rw [hk]; rfl
    have := change_weight_eq (F := setAT o) hy
    have := setA_weight o y
    rw [e]
    omega
  | lab y hk hy h2 =>
    have e : applyT t o = changeT (relabelT o.label) t o.path := by unfold applyT; rw [hk]; rfl
    have := change_weight_eq (F := relabelT o.label) hy
    have := relabel_weight o.label y
    rw [e]
    omega
  | edt y hk hy hl he =>
    have e : applyT t o = changeT (retextT o.pieces) t o.path := by unfold applyT; rw [hk]; rfl
    have := change_weight_eq (F := retextT o.pieces) hy
    have := retext_weight o.pieces y
    rw [e]
    omega
theorem applyR_weight (t : Tree) (o : OpT) : (applyR t o).1.weight ≤ t.weight + costO o := by
  unfold applyR
  by_cases h : ValidE t o = 0
  · rw [decide_eq_true h]
    exact applyT_weight h
  · rw [decide_eq_false h]
    have e : (Tree.mk 0 false [] [] [] []).weight = 1 := by
      have := weight_eq (Tree.mk 0 false [] [] [] [])
      simp [attrLen, weights, Tree.label, Tree.text, Tree.attrs, Tree.subs] at this
      exact this
    show (Tree.mk 0 false [] [] [] []).weight ≤ _
    rw [e]
    unfold costO
    omega
end Bow
/- SP21: where nodes and gaps are behind an operation (shift), in plain Lean. -/
namespace Bow
open Go

/-! ### What becomes of an operation behind another one (but for two edits of one leaf) -/
def soundO (o : OpT) : Bool := formedB o && (bif decide (o.kind = 2) then decide (0 < o.path.length) else bif decide (o.kind = 3) then decide (0 < o.path.length) && !within o.path o.to else true)
end Bow
/- SP22: edits made normal; two edits behind each other (leaftext), in plain Lean. -/
namespace Bow
open Go

/-! ### A maker of a normal edit -/
structure Mk where
  l : List PieceT
  keep : Int
def Mk.nil : Mk := ⟨[], 0⟩
/-- The last piece, turned. -/
def modL (f : PieceT → PieceT) : List PieceT → List PieceT
  | [] => []
  | [p] => [f p]
  | p :: q :: r => p :: modL f (q :: r)
def Mk.last (m : Mk) : Mk := bif decide (0 < m.keep) || m.l.isEmpty then ⟨m.l ++ [⟨m.keep, 0, []⟩], 0⟩ else m
def Mk.put (s : List UInt8) (m : Mk) : Mk := bif s.isEmpty then m else ⟨modL (fun p => { p with put := p.put ++ s }) m.last.l, m.last.keep⟩
def Mk.drop (n : Int) (m : Mk) : Mk := bif decide (0 < n) then ⟨modL (fun p => { p with drop := p.drop + n }) m.last.l, m.last.keep⟩ else m
def Mk.kept (n : Int) (m : Mk) : Mk := ⟨m.l, m.keep + n⟩
def Mk.piece (m : Mk) (p : PieceT) : Mk := ((m.kept p.keep).put p.put).drop p.drop
def normP (l : List PieceT) : List PieceT := (l.foldl Mk.piece Mk.nil).l

/-! ### What is left of a normal edit -/
/-! ### Transform -/
/-! ### Bounds -/
structure PieceT.Nn (p : PieceT) : Prop where
  k : 0 ≤ p.keep
  d : 0 ≤ p.drop
def PieceT.w (p : PieceT) : Int := p.keep + p.drop + p.put.length + 1
def sumW : List PieceT → Int
  | [] => 0
  | p :: l => p.w + sumW l
def Mk.w (m : Mk) : Int := m.keep + sumW m.l
structure Mk.Ok (m : Mk) : Prop where
  k : 0 ≤ m.keep
  l : ∀ p ∈ m.l, p.Nn
theorem Mk.nil_ok : Mk.nil.Ok := ⟨by decide, by simp [Mk.nil]⟩
theorem sumW_append (a b : List PieceT) : sumW (a ++ b) = sumW a + sumW b := by
  induction a with
  | nil => simp [sumW]
  | cons p a ih => simp only [List.cons_append, sumW, ih]; omega
theorem PieceT.Nn.w_pos {p : PieceT} (h : p.Nn) : 1 ≤ p.w := by
  have := h.k
  have := h.d
  unfold PieceT.w
  omega
theorem sumW_len : ∀ {l : List PieceT}, (∀ p ∈ l, p.Nn) → (l.length : Int) ≤ sumW l
  | [], _ => by simp [sumW]
  | p :: l, h => by
    have h1 := (h p List.mem_cons_self).w_pos
    have h2 := sumW_len fun q hq => h q (List.mem_cons_of_mem _ hq)
    simp only [List.length_cons, sumW]
    omega
theorem sumW_mem : ∀ {l : List PieceT}, (∀ p ∈ l, p.Nn) → ∀ p ∈ l, p.w ≤ sumW l
  | [], _, p, hp => by cases hp
  | q :: l, h, p, hp => by
    have h1 := (h q List.mem_cons_self).w_pos
    have h3 := sumW_len fun q hq => h q (List.mem_cons_of_mem _ hq)
    simp only [sumW]
    rcases List.mem_cons.1 hp with rfl | hp
    · omega
    · have h2 := sumW_mem (fun q hq => h q (List.mem_cons_of_mem _ hq)) p hp
      omega
theorem modL_ne {f : PieceT → PieceT} : ∀ {l : List PieceT}, l ≠ [] → modL f l ≠ []
  | [], h => absurd rfl h
  | [p], _ => by simp [modL]
  | p :: q :: r, _ => by simp [modL]
theorem modL_len (f : PieceT → PieceT) : ∀ l : List PieceT, (modL f l).length = l.length
  | [] => rfl
  | [p] => rfl
  | p :: q :: r => by rw [modL, List.length_cons, modL_len f (q :: r)]; rfl
theorem modL_set (f : PieceT → PieceT) : ∀ (l : List PieceT) (h : l.length - 1 < l.length), modL f l = l.set (l.length - 1) (f l[l.length - 1])
  | [], h => by simp at h
  | [p], _ => rfl
  | p :: q :: r, _ => by
    rw [modL, modL_set f (q :: r) (by simp)]
    simp
theorem modL_nn {f : PieceT → PieceT} (hf : ∀ p, p.Nn → (f p).Nn) : ∀ {l : List PieceT}, (∀ p ∈ l, p.Nn) → ∀ p ∈ modL f l, p.Nn
  | [], _, p, hp => by cases hp
  | [q], h, p, hp => by
    rw [modL, List.mem_singleton] at hp
    exact hp ▸ hf q (h q List.mem_cons_self)
  | q :: q' :: r, h, p, hp => by
    rw [modL] at hp
    rcases List.mem_cons.1 hp with rfl | hp
    · exact h _ List.mem_cons_self
    · exact modL_nn hf (fun z hz => h z (List.mem_cons_of_mem _ hz)) p hp
theorem modL_w {f : PieceT → PieceT} {k : Int} (hf : ∀ p : PieceT, (f p).w = p.w + k) : ∀ {l : List PieceT}, l ≠ [] → sumW (modL f l) = sumW l + k
  | [], h => absurd rfl h
  | [p], _ => by simp only [modL, sumW, hf]; omega
  | p :: q :: r, _ => by
    have ih := modL_w hf (l := q :: r) (by simp)
    rw [modL, sumW, ih, sumW]
    simp only [sumW]
    omega

theorem Mk.last_ne (m : Mk) : m.last.l ≠ [] := by
  unfold Mk.last
  cases h : decide (0 < m.keep) || m.l.isEmpty with
  | true => simp
  | false =>
    intro e
    rw [cond_false] at e
    rw [e] at h
    simp at h
theorem Mk.last_ok {m : Mk} (h : m.Ok) : m.last.Ok ∧ m.last.w ≤ m.w + 1 := by
  unfold Mk.last
  cases decide (0 < m.keep) || m.l.isEmpty with
  | true =>
    refine ⟨⟨Int.le_refl 0, fun p hp => ?_⟩, ?_⟩
    · rcases List.mem_append.1 hp with hp | hp
      · exact h.l p hp
      · rw [List.mem_singleton] at hp
        exact hp ▸ ⟨h.k, Int.le_refl _⟩
    · show (0 : Int) + sumW (m.l ++ [_]) ≤ _
      rw [sumW_append]
      simp only [sumW, PieceT.w, Mk.w, List.length_nil]
      omega
  | false => exact ⟨h, by rw [cond_false]; omega⟩
theorem Mk.put_ok {m : Mk} {s : List UInt8} (h : m.Ok) : (m.put s).Ok ∧ (m.put s).w ≤ m.w + s.length + 1 := by
  unfold Mk.put
  cases hs : s.isEmpty with
  | true => exact ⟨h, by rw [cond_true]; omega⟩
  | false =>
    obtain ⟨h1, h2⟩ := Mk.last_ok h
    refine ⟨⟨h1.k, modL_nn (f := fun p => { p with put := p.put ++ s }) (fun p hp => ⟨hp.k, hp.d⟩) h1.l⟩, ?_⟩
    have := modL_w (f := fun p => { p with put := p.put ++ s }) (k := s.length) (fun p => by simp [PieceT.w]; omega) m.last_ne
    unfold Mk.w at h2 ⊢
    simp only [cond_false]
    omega
theorem Mk.drop_ok {m : Mk} {n : Int} (h : m.Ok) (hn : 0 ≤ n) : (m.drop n).Ok ∧ (m.drop n).w ≤ m.w + n + 1 := by
  unfold Mk.drop
  cases hs : decide (0 < n) with
  | false => exact ⟨h, by rw [cond_false]; omega⟩
  | true =>
    obtain ⟨h1, h2⟩ := Mk.last_ok h
    refine ⟨⟨h1.k, modL_nn (f := fun p => { p with drop := p.drop + n }) (fun p hp => ⟨hp.k, by have := hp.d; show 0 ≤ p.drop + n; omega⟩) h1.l⟩, ?_⟩
    have := modL_w (f := fun p => { p with drop := p.drop + n }) (k := n) (fun p => by simp [PieceT.w]; omega) m.last_ne
    unfold Mk.w at h2 ⊢
    simp only [cond_true]
    omega
theorem Mk.kept_ok {m : Mk} {n : Int} (h : m.Ok) (hn : 0 ≤ n) : (m.kept n).Ok ∧ (m.kept n).w = m.w + n := by
  refine ⟨⟨by have := h.k; show 0 ≤ m.keep + n; omega, h.l⟩, ?_⟩
  unfold Mk.w Mk.kept
  simp only
  omega
theorem Mk.piece_ok {m : Mk} {p : PieceT} (h : m.Ok) (hp : p.Nn) : (m.piece p).Ok ∧ (m.piece p).w ≤ m.w + p.w + 1 := by
  obtain ⟨a1, a2⟩ := Mk.kept_ok h hp.k
  obtain ⟨b1, b2⟩ := Mk.put_ok (s := p.put) a1
  obtain ⟨c1, c2⟩ := Mk.drop_ok b1 hp.d
  refine ⟨c1, ?_⟩
  unfold PieceT.w Mk.piece
  omega
theorem foldl_ok : ∀ {l : List PieceT} {m : Mk}, m.Ok → (∀ p ∈ l, p.Nn) → (l.foldl Mk.piece m).Ok ∧ (l.foldl Mk.piece m).w ≤ m.w + 2 * sumW l
  | [], m, h, _ => ⟨h, by simp [sumW]⟩
  | p :: l, m, h, hl => by
    have hp := hl p List.mem_cons_self
    obtain ⟨h1, h2⟩ := Mk.piece_ok h hp
    obtain ⟨k1, k2⟩ := foldl_ok (l := l) h1 fun q hq => hl q (List.mem_cons_of_mem _ hq)
    refine ⟨k1, ?_⟩
    have := hp.w_pos
    simp only [List.foldl_cons, sumW]
    omega
theorem right_nn {l : List PieceT} (h : rightP l = true) : (∀ p ∈ l, p.Nn) ∧ sumW l ≤ 20000000000 := by
  unfold rightP at h
  rw [Bool.and_eq_true, decide_eq_true_eq] at h
  obtain ⟨h1, h2⟩ := h
  have key : ∀ (l : List PieceT) (n : Nat), rightGo n l = true → (∀ p ∈ l, p.Nn) ∧ sumW l ≤ 3200000 * l.length := by
    intro l
    induction l with
    | nil => intro n _; exact ⟨by simp, by simp [sumW]⟩
    | cons p l ih =>
      intro n h
      rw [rightGo] at h
      simp only [Bool.and_eq_true, decide_eq_true_eq] at h
      obtain ⟨⟨⟨⟨⟨q1, q2⟩, q3⟩, q4⟩, q5⟩, q6⟩ := h
      obtain ⟨i1, i2⟩ := ih _ q6
      refine ⟨fun z hz => ?_, ?_⟩
      · rcases List.mem_cons.1 hz with rfl | hz
        · exact ⟨q1, q3⟩
        · exact i1 z hz
      · simp only [sumW, PieceT.w, List.length_cons]
        omega
  obtain ⟨k1, k2⟩ := key l 0 h2
  exact ⟨k1, by omega⟩
theorem norm_nn {l : List PieceT} (h : rightP l = true) : (∀ p ∈ normP l, p.Nn) ∧ sumW (normP l) ≤ 40000000000 := by
  obtain ⟨h1, h2⟩ := right_nn h
  obtain ⟨k1, k2⟩ := foldl_ok (l := l) Mk.nil_ok h1
  have := k1.k
  have e : Mk.nil.w = 0 := rfl
  unfold Mk.w at k2
  unfold Mk.w at e
  exact ⟨k1.l, by unfold normP; omega⟩
end Bow
/- W1: plain: nodes. -/
namespace Bow
open Go Go.Proofs

set_option maxRecDepth 100000 in
theorem w_walk (t : Tree) : ∀ (d : Int) (m : List Nat) (r kl : Nat) (T T' : Heap) (b : Bool), 0 ≤ d → d + t.size ≤ 1000000000 → Rounds Tryz.prog kl ((t.pre d).map preV) T T' b → m[kl]? = some r →
    FunB Tryz.prog 105 m T [nodeV t, .int .i64 d, .yld (.abs r)] (fun x T'' => x = (if b then .tt else .ff) ∧ T'' = T') := by
  induction t using Tree.ind with
  | _ t ih =>
    intro d m r kl T T' b hd0 hd hR hr
    refine funB_of_goes 100 Tryz.func105 rfl rfl rfl fun B hout => ?_
    show Goes _ _ _ _
    rw [pre_eq] at hR
    have hlp : ∃ ob, T[kl]? = some (some ob) ∧ isLoop ob := by cases hR <;> assumption
    obtain ⟨T1, b1, hy, hk⟩ : ∃ T1 b1, YieldOk Tryz.prog T kl (preV (d, t)) b1 T1 ∧ ((b1 = true ∧ Rounds Tryz.prog kl ((pres (d + 1) t.subs).map preV) T1 T' b) ∨ (b1 = false ∧ T' = T1 ∧ b = false)) := by
      cases hR with
      | go hl h k => exact ⟨_, _, h, .inl ⟨rfl, k⟩⟩
      | stop hl h => exact ⟨_, _, h, .inr ⟨rfl, rfl, rfl⟩⟩
    refine goes_yield 100 rfl rfl rfl rfl rfl hout hr hlp rfl hy ?_
    intro B' hout' hB'
    rcases hk with ⟨rfl, hk⟩ | ⟨rfl, rfl, rfl⟩
    · show Goes _ _ _ _
      refine goes_iterB (ι := Nat × Heap) (fun i B1 => i.1 ≤ t.subs.length ∧ Rounds Tryz.prog kl ((pres (d + 1) (t.subs.drop i.1)).map preV) i.2 T' b ∧ Out m i.2 B1 ∧ ∀ q, q ∉ m → B1 q = B q) (fun i => t.subs.length - i.1)
        (fun i => [(17, .int .i64 i.1), (16, .int .i64 t.subV.length), (15, .sl 6 t.subV), (1, .int .i64 d), (2, .yld (.abs r))]) (fun _ => []) (0, T1) 100 (fun _ => rfl) (fun _ => rfl) ⟨?_, ?_, ?_⟩ ?_
      · exact ⟨Nat.zero_le _, hk, hout', hB'⟩
      · exact ⟨⟨rfl, rfl⟩, ⟨rfl, rfl⟩, ⟨rfl, rfl⟩, ⟨rfl, rfl⟩, ⟨rfl, rfl⟩, trivial⟩
      · trivial
      · rintro ⟨i, Ti⟩ B1 ⟨h1, h2, h3, h4⟩ next
        refine ⟨fun hlt => go 200 ?_, fun hge => go 200 ?_⟩
        · have hi : i < t.subs.length := by simpa [subV_eq] using hlt
          have hpre : (pres (d + 1) (t.subs.drop i)).map preV = ((t.subs[i]).pre (d + 1)).map preV ++ (pres (d + 1) (t.subs.drop (i + 1))).map preV := by
            rw [drop_cons hi, pres, List.map_append]
          rw [hpre] at h2
          obtain ⟨T2, b2, k1, k2⟩ := h2.cut
          have hmem : t.subs[i] ∈ t.subs := List.getElem_mem hi
          have hsz := Tree.size_sub hmem
          refine ⟨Int.natCast_nonneg i, nodeV t.subs[i], by simp [subV_eq, hi], ?_⟩
          refine ⟨by constructor <;> omega, ?_⟩
          show CallThen _ _ _ _ _ _
          refine call_funB (ih _ hmem (d + 1) m r kl Ti T2 b2 (by omega) (by omega) k1 hr) rfl h3 rfl ?_
          rintro x T3 B3 ⟨rfl, rfl⟩ _ hout3 hB3
          rcases k2 with ⟨rfl, k2⟩ | ⟨rfl, rfl, rfl⟩
          · have := size_eq t
            have := length_sizes t.subs
            refine ⟨by constructor <;> omega, ?_⟩
            show Goes _ _ _ _
            refine next (i + 1, T3) B3 _ _ ⟨⟨?_, ?_, ?_, ?_⟩, ?_, ?_, ?_⟩
            · simp only; omega
            · exact k2
            · exact hout3
            · exact fun q hq => (hB3 q hq).trans (h4 q hq)
            · simp only; omega
            · exact ⟨⟨rfl, rfl⟩, ⟨rfl, rfl⟩, ⟨rfl, rfl⟩, ⟨rfl, rfl⟩, ⟨rfl, rfl⟩, trivial⟩
            · trivial
          · exact ⟨trivial, rfl, fun q hq => (hB3 q hq).trans (h4 q hq), _, hout3, rfl, rfl, rfl⟩
        · have hi : t.subs.length ≤ i := by simpa [subV_eq] using hge
          rw [List.drop_eq_nil_of_le hi] at h2
          cases h2
          exact ⟨trivial, rfl, h4, Ti, h3, rfl, rfl, rfl⟩
    · exact ⟨trivial, rfl, hB', _, hout', rfl, rfl, rfl⟩

theorem w_iter (t : Tree) (h : t.size ≤ 1000000000) : Iter Tryz.prog 104 [] [.iptr (nodeV t).cells 0] ((t.pre 0).map preV) := by
  intro m r kl T T' b hR hr
  refine funB_of_goes 100 Tryz.func104 rfl rfl rfl fun B hout => ?_
  show CallThen _ _ _ _ _ _
  refine call_funB (w_walk t 0 m r kl T T' b (by omega) (by omega) hR hr) rfl hout rfl ?_
  rintro x T3 B3 ⟨rfl, rfl⟩ _ hout3 hB3
  exact ⟨trivial, rfl, hB3, _, hout3, rfl, rfl⟩

theorem w_nodes (t : Tree) : Pure Tryz.prog 79 [nodeV t] (fun x => x = .fn (.func 104) [] [.iptr (nodeV t).cells 0]) := by
  refine pure_fn_frz [0] 100 Tryz.func79 rfl rfl rfl fun B => ?_
  exact ⟨trivial, rfl, rfl, rfl, rfl, rfl⟩

end Bow
/- W2: trees measured. -/
namespace Bow
open Go Go.Proofs

/-- The text of a node: its attributes' part is summed up round by round. -/
theorem attrLen_drop {l : List (List UInt8 × List UInt8)} {i : Nat} (h : i < l.length) : attrLen (l.drop i) = l[i].1.length + l[i].2.length + attrLen (l.drop (i + 1)) := by rw [drop_cons h, attrLen_cons]

end Bow
/- W3: trees measured, more. -/
namespace Bow
open Go Go.Proofs

set_option maxRecDepth 100000 in
theorem w_refDepth (t : Tree) : t.weight ≤ 1000000 → Pure Tryz.prog 21 [nodeV t] (fun x => x = .int .i64 t.depth) := by
  induction t using Tree.ind with
  | _ t ih =>
    intro h
    have hw := weight_eq t
    refine pure_fn 100 Tryz.func21 rfl rfl rfl fun B => ?_
    show Goes _ _ _ _
    refine goes_iter (ι := Nat × Nat) (fun i => i.1 ≤ t.subs.length ∧ max i.2 (depths (t.subs.drop i.1)) = t.depth) (fun i => t.subs.length - i.1) (fun i => [(4, .int .i64 i.1), (3, .int .i64 i.2), (1, .ptr (.loc 0) 0)]) (fun i => [some (.box (nodeV t).cells)]) (0, 0) 200 (fun _ => rfl) (fun _ => rfl) ⟨?_, ?_, ?_⟩ ?_
    · exact ⟨Nat.zero_le _, by rw [depth_eq t]; simp⟩
    · exact ⟨⟨rfl, rfl⟩, ⟨rfl, rfl⟩, ⟨rfl, rfl⟩, trivial⟩
    · exact ⟨⟨rfl, rfl⟩, trivial⟩
    · rintro ⟨i, acc⟩ ⟨h1, h2⟩ next
      refine ⟨fun hlt => go 200 ?_, fun hge => go 200 ?_⟩
      · have hi : i < t.subs.length := by simpa [subV_eq] using hlt
        have hmem : t.subs[i] ∈ t.subs := List.getElem_mem hi
        have hws := weight_sub hmem
        have hsz := depth_le_weight t.subs[i]
        have hst := size_le_weight t
        simp only [drop_cons hi, depths] at h2
        refine ⟨Int.natCast_nonneg i, nodeV t.subs[i], by simp [subV_eq, hi], ?_⟩
        show CallThen _ _ _ _ _ _
        refine call_pure (ih _ hmem (by omega)) rfl ?_
        rintro x rfl
        refine ⟨by constructor <;> omega, ?_⟩
        have := length_sizes t.subs
        have := sizes_le_weights t.subs
        refine ⟨by constructor <;> omega, ?_⟩
        show Goes _ _ _ _
        have e : (if (1 : Int) + ((t.subs[i]).depth : Int) > (acc : Int) then (1 : Int) + ((t.subs[i]).depth : Int) else (acc : Int)) = ((max acc (1 + (t.subs[i]).depth) : Nat) : Int) := by split <;> omega
        refine next (i + 1, max acc (1 + (t.subs[i]).depth)) _ _ ⟨⟨hi, by simp only; omega⟩, ?_, ?_, ?_⟩
        · simp only; omega
        · exact ⟨⟨rfl, rfl⟩, ⟨by rw [← e]; rfl, rfl⟩, ⟨rfl, rfl⟩, trivial⟩
        · exact ⟨⟨rfl, rfl⟩, trivial⟩
      · have hi : t.subs.length ≤ i := by simpa [subV_eq] using hge
        simp only [List.drop_eq_nil_of_le hi, depths, Nat.max_zero] at h2
        exact ⟨trivial, rfl, rfl, rfl, by rw [← h2]; rfl⟩

end Bow
/- W4: Weight. -/
namespace Bow
open Go Go.Proofs

theorem not_lt_of {a b : Int} (h : decide (a < b) = false) : b ≤ a := by simpa using h
theorem lt_of {a b : Int} (h : decide (a < b) = true) : a < b := by simpa using h
theorem le_of {a b : Int} (h : decide (a ≤ b) = true) : a ≤ b := by simpa using h
theorem not_le_of {a b : Int} (h : decide (a ≤ b) = false) : b < a := by simpa using h
theorem eq_of {a b : Int} (h : decide (a = b) = true) : a = b := by simpa using h
theorem ne_of {a b : Int} (h : decide (a = b) = false) : a ≠ b := by simpa using h
theorem ne_of' {a b : Int} (h : (!decide (a = b)) = true) : a ≠ b := by simpa using h
theorem eq_of' {a b : Int} (h : (!decide (a = b)) = false) : a = b := by simpa using h

set_option maxRecDepth 100000 in
theorem w_Weight (t : Tree) : ∀ top : Nat, top ≤ 1000000 → Pure Tryz.prog 13 [nodeV t, .int .i64 top] (fun x => ∃ w : Nat, x = .int .i64 w ∧ 1 ≤ w ∧ w ≤ 4 * top + 4 ∧ (w ≤ top → t.weight ≤ w)) := by
  induction t using Tree.ind with
  | _ t ih =>
    intro top htop
    have hw := weight_eq t
    refine pure_fn 200 Tryz.func13 rfl rfl rfl fun B => ?_
    have early : ∃ w : Nat, V.int .i64 ((top : Int) + 1) = .int .i64 w ∧ 1 ≤ w ∧ w ≤ 4 * top + 4 ∧ (w ≤ top → t.weight ≤ w) := ⟨top + 1, rfl, by omega, by omega, fun h => by omega⟩
    have hin : inI ((top : Int) + 1) := by constructor <;> omega
    refine ⟨fun g1 => go 200 ?_, fun g1 => go 200 ?_⟩
    · exact ⟨hin, trivial, rfl, rfl, rfl, early⟩
    refine ⟨fun g2 => go 200 ?_, fun g2 => go 200 ?_⟩
    · exact ⟨hin, trivial, rfl, rfl, rfl, early⟩
    refine ⟨fun g3 => go 200 ?_, fun g3 => go 200 ?_⟩
    · exact ⟨hin, trivial, rfl, rfl, rfl, early⟩
    have g1 := not_lt_of g1
    have g2 := not_lt_of g2
    have g3 := not_lt_of g3
    simp only [List.length_map] at g3
    refine ⟨by constructor <;> omega, by constructor <;> omega, ?_⟩
    show Goes _ _ _ _
    refine goes_while (ι := Nat × Nat) (fun i => i.1 ≤ t.attrs.length ∧ 1 ≤ i.2 ∧ i.2 ≤ 3 * top + 1 ∧ (i.2 ≤ top → 1 + t.label.length + t.text.length + (t.attrs.length + attrLen t.attrs) ≤ i.2 + (t.attrs.length - i.1) + attrLen (t.attrs.drop i.1))) (fun i => t.attrs.length - i.1)
      (fun i => [(6, .int .i64 i.1), (5, .int .i64 i.2), (1, .int .i64 top), (2, .ptr (.loc 0) 0)]) (fun i => [some (.box (nodeV t).cells)]) (0, 1 + t.label.length + t.text.length)
      (fun w : Nat => 1 ≤ w ∧ w ≤ 3 * top + 1 ∧ (w ≤ top → 1 + t.label.length + t.text.length + (t.attrs.length + attrLen t.attrs) ≤ w)) (fun w => [(5, .int .i64 w), (1, .int .i64 top), (2, .ptr (.loc 0) 0)]) (fun _ => [some (.box (nodeV t).cells)])
      200 (fun _ => rfl) (fun _ => rfl) (fun _ => rfl) (fun _ => rfl) ⟨?_, ?_, ?_⟩ ?_ ?_
    · exact ⟨Nat.zero_le _, by simp only; omega, by simp only; omega, fun _ => by simp only [List.drop_zero]; omega⟩
    · exact ⟨⟨rfl, rfl⟩, ⟨by simp only [lk]; rfl, rfl⟩, ⟨rfl, rfl⟩, ⟨rfl, rfl⟩, trivial⟩
    · exact ⟨⟨rfl, rfl⟩, trivial⟩
    · -- the nodes below
      rintro w0 ⟨q1, q2, q3⟩
      show Goes _ _ _ _
      refine goes_iter (ι := Nat × Nat) (fun i => i.1 ≤ t.subs.length ∧ i.1 + 1 ≤ i.2 ∧ i.2 ≤ 4 * top + 4 ∧ (i.2 ≤ top → t.weight ≤ i.2 + weights (t.subs.drop i.1))) (fun i => t.subs.length - i.1)
        (fun i => [(7, .int .i64 i.1), (5, .int .i64 i.2), (1, .int .i64 top), (2, .ptr (.loc 0) 0)]) (fun i => [some (.box (nodeV t).cells)]) (0, w0) 200 (fun _ => rfl) (fun _ => rfl) ⟨?_, ?_, ?_⟩ ?_
      · exact ⟨Nat.zero_le _, by simpa using q1, by simp only; omega, fun h => by simp only [List.drop_zero]; simp only at h; have := q3 h; omega⟩
      · exact ⟨⟨rfl, rfl⟩, ⟨rfl, rfl⟩, ⟨rfl, rfl⟩, ⟨rfl, rfl⟩, trivial⟩
      · exact ⟨⟨rfl, rfl⟩, trivial⟩
      · rintro ⟨i, w⟩ ⟨k1, k2, k3, k4⟩ next
        simp only at k1 k2 k3 k4
        refine ⟨fun hlt => go 200 ?_, fun hge => go 200 ?_⟩
        · have hi : i < t.subs.length := by simpa [subV_eq] using hlt
          have hmem : t.subs[i] ∈ t.subs := List.getElem_mem hi
          have hx : t.subV[i]? = some (nodeV t.subs[i]) := by simp [subV_eq, hi]
          refine ⟨fun h5 => go 200 ?_, fun h5 => go 200 ?_⟩
          · have h5 : (w : Int) ≤ top := le_of h5
            have h5' : w ≤ top := by omega
            rw [drop_cons hi, weights_cons] at k4
            refine ⟨Int.natCast_nonneg i, nodeV t.subs[i], hx, ?_⟩
            refine ⟨by constructor <;> omega, ?_⟩
            show CallThen _ _ _ _ _ _
            have hsub : (top : Int) - w = ((top - w : Nat) : Int) := by omega
            rw [hsub]
            refine call_pure (ih _ hmem (top - w) (by omega)) rfl ?_
            rintro x ⟨v, rfl, v0, v1, v2⟩
            refine ⟨by constructor <;> omega, ?_⟩
            refine ⟨by constructor <;> omega, ?_⟩
            show Goes _ _ _ _
            refine next (i + 1, w + v) _ _ ⟨⟨hi, by simp only; omega, by simp only; omega, fun h => ?_⟩, ?_, ?_, ?_⟩
            · have h : w + v ≤ top := h
              have := v2 (by omega)
              have := k4 h5'
              simp only
              omega
            · simp only; omega
            · exact ⟨⟨rfl, rfl⟩, ⟨rfl, rfl⟩, ⟨rfl, rfl⟩, ⟨rfl, rfl⟩, trivial⟩
            · exact ⟨⟨rfl, rfl⟩, trivial⟩
          · have h5 : ¬ (w : Int) ≤ top := by simpa using h5
            exact ⟨trivial, rfl, rfl, rfl, w, rfl, by omega, k3, fun h => by omega⟩
        · have hi : t.subs.length ≤ i := by simpa [subV_eq] using hge
          rw [List.drop_eq_nil_of_le hi, weights, Nat.add_zero] at k4
          exact ⟨trivial, rfl, rfl, rfl, w, rfl, by omega, k3, k4⟩
    · rintro ⟨i, w⟩ ⟨k1, k2, k3, k4⟩ next leave
      simp only at k1 k2 k3 k4
      refine ⟨fun hlt => go 200 ?_, fun hge => go 200 ?_⟩
      · have hi : i < t.attrs.length := by simpa using hlt
        have hix : (t.attrs.map attrV)[i]? = some (attrV t.attrs[i]) := by simp [hi]
        refine ⟨fun h5 => go 200 ?_, fun h5 => go 200 ?_⟩
        · have h5 := le_of h5
          rw [attrLen_drop hi] at k4
          refine ⟨Int.natCast_nonneg i, attrV t.attrs[i], hix, ?_⟩
          refine ⟨fun h6 => go 200 ?_, fun h6 => go 200 ?_⟩
          · exact ⟨hin, trivial, rfl, rfl, rfl, early⟩
          refine ⟨Int.natCast_nonneg i, attrV t.attrs[i], hix, ?_⟩
          refine ⟨fun h7 => go 200 ?_, fun h7 => go 200 ?_⟩
          · exact ⟨hin, trivial, rfl, rfl, rfl, early⟩
          have h6 := not_lt_of h6
          have h7 := not_lt_of h7
          show Goes _ _ _ _
          refine goes_drawX [] 300 ?_
          refine ⟨by constructor <;> omega, ?_⟩
          refine ⟨Int.natCast_nonneg i, attrV t.attrs[i], hix, ?_⟩
          refine ⟨by constructor <;> omega, ?_⟩
          refine ⟨Int.natCast_nonneg i, attrV t.attrs[i], hix, ?_⟩
          refine ⟨by constructor <;> omega, ?_⟩
          refine ⟨by kernel_rfl, ?_⟩
          refine ⟨by constructor <;> omega, ?_⟩
          show Goes _ _ _ _
          refine next (i + 1, w + 1 + t.attrs[i].1.length + t.attrs[i].2.length) _ _ ⟨⟨hi, ?_, ?_, ?_⟩, ?_, ?_, ?_⟩
          · simp only; omega
          · simp only; omega
          · simp only; omega
          · simp only; omega
          · exact ⟨⟨rfl, rfl⟩, ⟨rfl, rfl⟩, ⟨rfl, rfl⟩, ⟨rfl, rfl⟩, trivial⟩
          · exact ⟨⟨rfl, rfl⟩, trivial⟩
        · have h5 : ¬ (w : Int) ≤ top := by simpa using h5
          exact leave w _ _ _ rfl ⟨⟨k2, k3, fun h => by omega⟩, ⟨⟨rfl, rfl⟩, ⟨rfl, rfl⟩, ⟨rfl, rfl⟩, trivial⟩, ⟨⟨rfl, rfl⟩, trivial⟩⟩
      · have hi : t.attrs.length ≤ i := by simpa using hge
        simp only [List.drop_eq_nil_of_le hi, attrLen, List.foldr_nil] at k4
        exact leave w _ _ _ rfl ⟨⟨k2, k3, fun h => by have := k4 h; unfold attrLen; omega⟩, ⟨⟨rfl, rfl⟩, ⟨rfl, rfl⟩, ⟨rfl, rfl⟩, trivial⟩, ⟨⟨rfl, rfl⟩, trivial⟩⟩
end Bow
/- W5: limits.Check; the trees of the chapter's examples. -/
namespace Bow
open Go Go.Proofs

/-! ### The examples' trees -/
def zeroT (ss : List Tree) : Tree := .mk 0 false [] [] [] ss
/-- As a literal lays it: what it does not name is nil. -/
def zeroV (k : V) : V := .agg [.int .u64 0, .ff, .str [], .nilsl, .str [], k]
theorem wk_zero {k : V} {ss : List Tree} (h : Wk k (.sl 6 (ss.map nodeV))) : Wk (zeroV k) (nodeV (zeroT ss)) := by
  refine Wk.agg ⟨.refl _, Wk.ff, .refl _, Wk.nil 2, .refl _, ?_, trivial⟩
  rw [subV_eq]
  exact h
theorem okE_node (t : Tree) : okE 6 (nodeV t) := ⟨rfl, rfl⟩
end Bow
/- W6: which operations are formed. -/
namespace Bow
open Go Go.Proofs

theorem w_May1 (n : Int) : Pure Tryz.prog 107 [intV n] (fun x => x = .bool (!stepOk n)) := by
  refine pure_wk (pure_fn 100 Tryz.func107 rfl rfl rfl fun B => ?_)
  refine ⟨fun g1 => go 200 ?_, fun g1 => go 200 ?_⟩
  · have g1 := lt_of g1
    exact ⟨trivial, rfl, rfl, rfl, leaf_tt (by unfold stepOk; rw [decide_eq_false (by omega)]; rfl)⟩
  · have g1 := not_lt_of g1
    refine ⟨trivial, rfl, rfl, rfl, leaf_b ?_⟩
    unfold stepOk
    rw [decide_eq_true (p := 0 ≤ n) (by omega), Bool.true_and]
    by_cases h : n < 1048576
    · rw [decide_eq_true h, decide_eq_false (by omega)]; rfl
    · rw [decide_eq_false h, decide_eq_true (by omega)]; rfl

/-- The first place where a predicate holds, or -1. -/
def findIx (f : Int → Bool) : Nat → List Int → Int
  | _, [] => -1
  | i, x :: xs => bif f x then i else findIx f (i + 1) xs
theorem findIx_any (f : Int → Bool) : ∀ (xs : List Int) (i : Nat), decide (0 ≤ findIx f i xs) = xs.any f
  | [], i => by simp [findIx]
  | x :: xs, i => by
    rw [findIx, List.any_cons]
    cases h : f x with
    | true => simp
    | false => simpa using findIx_any f xs (i + 1)

set_option maxRecDepth 100000 in
theorem w_IndexInt (f : Int → Bool) (g : FuncId) (xs : List Int) (hl : xs.length ≤ 1000000) (hg : ∀ n, Pure Tryz.prog g [intV n] (fun x => x = .bool (f n))) :
    Pure Tryz.prog 122 [pathV xs, .fn (.func g) [] []] (fun x => x = .int .i64 (findIx f 0 xs)) := by
  refine pure_fn 100 Tryz.func122 rfl rfl rfl fun B => ?_
  show Goes _ _ _ _
  refine goes_iter (ι := Nat) (fun i => i ≤ xs.length ∧ findIx f i (xs.drop i) = findIx f 0 xs) (fun i => xs.length - i) (fun i => [(8, .int .i64 i), (7, .int .i64 (xs.map intV).length), (1, .fn (.func g) [] []), (0, pathV xs)]) (fun _ => []) 0 200 (fun _ => rfl) (fun _ => rfl) ⟨⟨Nat.zero_le _, rfl⟩, ?_, ?_⟩ ?_
  · exact ⟨⟨rfl, rfl⟩, ⟨rfl, rfl⟩, ⟨rfl, rfl⟩, ⟨rfl, rfl⟩, trivial⟩
  · trivial
  · rintro i ⟨h1, h2⟩ next
    refine ⟨fun hlt => go 200 ?_, fun hge => go 200 ?_⟩
    · have hi : i < xs.length := by simpa using hlt
      have hx : (xs.map intV)[i]? = some (intV xs[i]) := by simp [hi]
      rw [drop_cons hi, findIx] at h2
      refine ⟨Int.natCast_nonneg i, _, hx, ?_⟩
      show CallThen _ _ _ _ _ _
      refine call_pure (hg xs[i]) rfl ?_
      rintro x rfl
      refine ⟨fun h => go 200 ?_, fun h => go 200 ?_⟩
      · rw [h] at h2
        exact ⟨trivial, rfl, rfl, rfl, by rw [← h2]; rfl⟩
      · rw [h] at h2
        refine ⟨by constructor <;> omega, ?_⟩
        show Goes _ _ _ _
        exact next (i + 1) _ _ ⟨⟨hi, h2⟩, by omega, ⟨⟨rfl, rfl⟩, ⟨rfl, rfl⟩, ⟨rfl, rfl⟩, ⟨rfl, rfl⟩, trivial⟩, trivial⟩
    · have hi : xs.length ≤ i := by simpa using hge
      rw [List.drop_eq_nil_of_le hi] at h2
      exact ⟨trivial, rfl, rfl, rfl, by rw [← h2]; rfl⟩

theorem w_ContainsInt (f : Int → Bool) (g : FuncId) (xs : List Int) (hl : xs.length ≤ 1000000) (hg : ∀ n, Pure Tryz.prog g [intV n] (fun x => x = .bool (f n))) :
    Pure Tryz.prog 106 [pathV xs, .fn (.func g) [] []] (fun x => x = .bool (xs.any f)) := by
  refine pure_fn 100 Tryz.func106 rfl rfl rfl fun B => ?_
  show CallThen _ _ _ _ _ _
  refine call_pure (w_IndexInt f g xs hl hg) rfl ?_
  rintro x rfl
  exact ⟨trivial, rfl, rfl, rfl, by rw [← findIx_any f xs 0]; rfl⟩

theorem any_not_all (xs : List Int) : (xs.any fun n => !stepOk n) = !xs.all stepOk := by
  induction xs with
  | nil => rfl
  | cons x xs ih => simp [ih]

theorem w_May (p : List Int) : Pure Tryz.prog 81 [pathV p] (fun x => x = .bool (mayP p)) := by
  refine pure_wk (pure_fn 100 Tryz.func81 rfl rfl rfl fun B => ?_)
  refine ⟨fun g1 => go 200 ?_, fun g1 => go 200 ?_⟩
  · have g1 : p.length ≤ 64 := by have := le_of g1; simp at this; omega
    show CallThen _ _ _ _ _ _
    refine call_pure (w_ContainsInt (fun n => !stepOk n) _ p (by omega) w_May1) rfl ?_
    rintro x rfl
    exact ⟨trivial, rfl, rfl, rfl, leaf_b (by rw [any_not_all]; simp [mayP, g1])⟩
  · have g1 : 64 < p.length := by have := not_le_of g1; simp at this; omega
    exact ⟨trivial, rfl, rfl, rfl, leaf_ff (by unfold mayP; rw [decide_eq_false (by omega)]; rfl)⟩

theorem w_Key (s : List UInt8) : Pure Tryz.prog 82 [.str s] (fun x => x = .bool (keyOk s)) := by
  refine pure_wk (pure_fn 100 Tryz.func82 rfl rfl rfl fun B => ?_)
  refine ⟨fun g1 => go 200 ?_, fun g1 => go 200 ?_⟩
  · have g1 : s ≠ [] := by simpa using g1
    have : 0 < s.length := List.length_pos_iff.2 g1
    exact ⟨trivial, rfl, rfl, rfl, leaf_b (by unfold keyOk; rw [decide_eq_true (p := 1 ≤ s.length) (by omega), Bool.true_and]; simp; omega)⟩
  · have g1 : s = [] := by simpa using g1
    exact ⟨trivial, rfl, rfl, rfl, leaf_ff (by rw [g1]; rfl)⟩
theorem w_refKey (s : List UInt8) : Pure Tryz.prog 78 [.str s] (fun x => x = .bool (keyOk s)) := by
  refine pure_wk (pure_fn 100 Tryz.func78 rfl rfl rfl fun B => ?_)
  refine ⟨fun g1 => go 200 ?_, fun g1 => go 200 ?_⟩
  · have g1 : (1 : Int) ≤ s.length := by simpa using g1
    exact ⟨trivial, rfl, rfl, rfl, leaf_b (by unfold keyOk; rw [decide_eq_true (p := 1 ≤ s.length) (by omega), Bool.true_and]; simp; omega)⟩
  · have g1 : ¬ (1 : Int) ≤ s.length := by simpa using g1
    exact ⟨trivial, rfl, rfl, rfl, leaf_ff (by unfold keyOk; rw [decide_eq_false (p := 1 ≤ s.length) (by omega)]; rfl)⟩
end Bow
/- W7: pieces that are right; Formed. -/
namespace Bow
open Go Go.Proofs

theorem may_cons_drop (p : List Int) (i : Nat) (h : i < p.length) : (p.drop i).all stepOk = (stepOk p[i] && (p.drop (i + 1)).all stepOk) := by rw [drop_cons h, List.all_cons]

set_option maxRecDepth 100000 in
theorem w_refMay (p : List Int) (hp : p.length ≤ 1000000) : Pure Tryz.prog 95 [pathV p] (fun x => x = .bool (mayP p)) := by
  refine pure_wk (pure_fn 100 Tryz.func95 rfl rfl rfl fun B => ?_)
  show Goes _ _ _ _
  refine goes_iter (ι := Nat) (fun i => i ≤ p.length ∧ i ≤ 64 ∧ mayP p = (decide (p.length ≤ 64) && (p.drop i).all stepOk)) (fun i => p.length - i) (fun i => [(3, .int .i64 i), (0, pathV p)]) (fun _ => []) 0 200 (fun _ => rfl) (fun _ => rfl) ⟨⟨Nat.zero_le _, Nat.zero_le _, rfl⟩, ?_, ?_⟩ ?_
  · exact ⟨⟨rfl, rfl⟩, ⟨rfl, rfl⟩, trivial⟩
  · trivial
  · rintro i ⟨h1, h3, h2⟩ next
    refine ⟨fun hlt => go 200 ?_, fun hge => go 200 ?_⟩
    · have hi : i < p.length := by simpa using hlt
      have hx : (p.map intV)[i]? = some (intV p[i]) := by simp [hi]
      rw [may_cons_drop p i hi] at h2
      refine ⟨fun g1 => go 200 ?_, fun g1 => go 200 ?_⟩
      · have g1 : (64 : Int) ≤ i := by simpa using g1
        exact ⟨trivial, rfl, rfl, rfl, leaf_ff (by rw [h2, decide_eq_false (p := p.length ≤ 64) (by omega)]; rfl)⟩
      have g1 : ¬ (64 : Int) ≤ i := by simpa using g1
      refine ⟨Int.natCast_nonneg i, _, hx, ?_⟩
      refine ⟨fun g2 => go 200 ?_, fun g2 => go 200 ?_⟩
      · have g2 := lt_of g2
        exact ⟨trivial, rfl, rfl, rfl, leaf_ff (by rw [h2]; unfold stepOk; rw [decide_eq_false (p := 0 ≤ p[i]) (by omega)]; simp)⟩
      have g2 := not_lt_of g2
      refine ⟨Int.natCast_nonneg i, _, hx, ?_⟩
      refine ⟨fun g3 => go 200 ?_, fun g3 => go 200 ?_⟩
      · have g3 := le_of g3
        exact ⟨trivial, rfl, rfl, rfl, leaf_ff (by rw [h2]; unfold stepOk; rw [decide_eq_false (p := p[i] < 1048576) (by omega)]; simp)⟩
      have g3 := not_le_of g3
      refine ⟨by constructor <;> omega, ?_⟩
      show Goes _ _ _ _
      refine next (i + 1) _ _ ⟨⟨hi, by omega, ?_⟩, by omega, ⟨⟨rfl, rfl⟩, ⟨rfl, rfl⟩, trivial⟩, trivial⟩
      have : stepOk p[i] = true := by unfold stepOk; rw [decide_eq_true (by omega), decide_eq_true (by omega)]; rfl
      rw [h2, this, Bool.true_and]
    · have hi : p.length ≤ i := by simpa using hge
      rw [List.drop_eq_nil_of_le hi] at h2
      exact ⟨trivial, rfl, rfl, rfl, leaf_tt (by rw [h2, decide_eq_true (p := p.length ≤ 64) (by omega)]; rfl)⟩

theorem rightGo_bad {n : Nat} {p : PieceT} {l : List PieceT} (h : p.keep < 0 ∨ 1048576 < p.keep ∨ p.drop < 0 ∨ 1048576 < p.drop ∨ 1048576 < n + p.put.length) : rightGo n (p :: l) = false := by
  rw [rightGo]
  rcases h with h | h | h | h | h
  · rw [decide_eq_false (p := 0 ≤ p.keep) (by omega)]; rfl
  · rw [decide_eq_false (p := p.keep ≤ 1048576) (by omega)]; simp
  · rw [decide_eq_false (p := 0 ≤ p.drop) (by omega)]; simp
  · rw [decide_eq_false (p := p.drop ≤ 1048576) (by omega)]; simp
  · rw [decide_eq_false (p := n + p.put.length ≤ 1048576) (by omega)]; simp
theorem rightGo_good {n : Nat} {p : PieceT} {l : List PieceT} (h1 : 0 ≤ p.keep) (h2 : p.keep ≤ 1048576) (h3 : 0 ≤ p.drop) (h4 : p.drop ≤ 1048576) (h5 : n + p.put.length ≤ 1048576) : rightGo n (p :: l) = rightGo (n + p.put.length) l := by
  rw [rightGo, decide_eq_true h1, decide_eq_true h2, decide_eq_true h3, decide_eq_true h4, decide_eq_true h5]
  rfl

set_option maxRecDepth 100000 in
theorem w_RightW (l : List PieceT) (hl : l.length ≤ 1000000000000) (hpl : ∀ p ∈ l, p.put.length ≤ 1000000000000) : Pure Tryz.prog 83 [piecesV l] (fun x => x = .bool (rightP l)) := by
  refine pure_wk (pure_fn 100 Tryz.func83 rfl rfl rfl fun B => ?_)
  refine ⟨fun g0 => go 200 ?_, fun g0 => go 200 ?_⟩
  · have g0 : 4096 < l.length := by have := lt_of g0; simp at this; omega
    exact ⟨trivial, rfl, rfl, rfl, leaf_ff (by unfold rightP; rw [decide_eq_false (by omega)]; rfl)⟩
  have g0 : l.length ≤ 4096 := by have := not_lt_of g0; simp at this; omega
  show Goes _ _ _ _
  refine goes_iter (ι := Nat × Nat) (fun i => i.1 ≤ l.length ∧ i.2 ≤ 1048576 ∧ rightP l = rightGo i.2 (l.drop i.1)) (fun i => l.length - i.1) (fun i => [(11, .int .i64 i.1), (10, .int .i64 (l.map pieceV).length), (9, piecesV l), (3, .int .i64 i.2)]) (fun _ => []) (0, 0) 200 (fun _ => rfl) (fun _ => rfl) ⟨⟨Nat.zero_le _, Nat.zero_le _, ?_⟩, ?_, ?_⟩ ?_
  · unfold rightP
    rw [decide_eq_true g0]
    rfl
  · exact ⟨⟨rfl, rfl⟩, ⟨rfl, rfl⟩, ⟨rfl, rfl⟩, ⟨rfl, rfl⟩, trivial⟩
  · trivial
  · rintro ⟨i, n⟩ ⟨h1, h3, h2⟩ next
    simp only at h1 h2 h3
    refine ⟨fun hlt => go 200 ?_, fun hge => go 200 ?_⟩
    · have hi : i < l.length := by simpa using hlt
      have hx : (l.map pieceV)[i]? = some (pieceV l[i]) := by simp [hi]
      have hput := hpl l[i] (List.getElem_mem hi)
      rw [drop_cons hi] at h2
      refine ⟨Int.natCast_nonneg i, _, hx, ?_⟩
      refine ⟨fun g1 => go 200 ?_, fun g1 => go 200 ?_⟩
      · have g1 := lt_of g1
        refine ⟨trivial, rfl, rfl, rfl, leaf_ff ?_⟩
        rw [h2]
        refine rightGo_bad ?_
        split at g1 <;> omega
      have g1 := not_lt_of g1
      have q1 : 0 ≤ (l[i]).keep ∧ 0 ≤ (l[i]).drop := by split at g1 <;> omega
      refine ⟨fun g2 => go 200 ?_, fun g2 => go 200 ?_⟩
      · have g2 := lt_of g2
        refine ⟨trivial, rfl, rfl, rfl, leaf_ff ?_⟩
        rw [h2]
        refine rightGo_bad ?_
        split at g2 <;> omega
      have g2 := not_lt_of g2
      have q2 : (l[i]).keep ≤ 1048576 ∧ (l[i]).drop ≤ 1048576 := by split at g2 <;> omega
      refine ⟨by constructor <;> omega, ?_⟩
      refine ⟨fun g3 => go 200 ?_, fun g3 => go 200 ?_⟩
      · have g3 := lt_of g3
        refine ⟨trivial, rfl, rfl, rfl, leaf_ff ?_⟩
        rw [h2]
        exact rightGo_bad (by omega)
      have g3 := not_lt_of g3
      refine ⟨by constructor <;> omega, ?_⟩
      refine ⟨by constructor <;> omega, ?_⟩
      show Goes _ _ _ _
      refine next (i + 1, n + (l[i]).put.length) _ _ ⟨⟨hi, by simp only; omega, ?_⟩, ?_, ⟨⟨rfl, rfl⟩, ⟨rfl, rfl⟩, ⟨rfl, rfl⟩, ⟨rfl, rfl⟩, trivial⟩, trivial⟩
      · rw [h2]
        exact rightGo_good q1.1 q2.1 q1.2 q2.2 (by omega)
      · simp only; omega
    · have hi : l.length ≤ i := by simpa using hge
      rw [List.drop_eq_nil_of_le hi] at h2
      exact ⟨trivial, rfl, rfl, rfl, leaf_tt h2⟩
theorem w_Right (l : List PieceT) (hl : l.length ≤ 1000000) (hpl : ∀ p ∈ l, p.put.length ≤ 1000000000) : Pure Tryz.prog 83 [piecesV l] (fun x => x = .bool (rightP l)) :=
  w_RightW l (by omega) fun p hp => by have := hpl p hp; omega

set_option maxRecDepth 100000 in
theorem w_refRight (l : List PieceT) (hl : l.length ≤ 1000000) (hpl : ∀ p ∈ l, p.put.length ≤ 1000000000) : Pure Tryz.prog 70 [piecesV l] (fun x => x = .bool (rightP l)) := by
  refine pure_wk (pure_fn 100 Tryz.func70 rfl rfl rfl fun B => ?_)
  refine ⟨fun g0 => go 200 ?_, fun g0 => go 200 ?_⟩
  · have g0 : 4096 < l.length := by have := lt_of g0; simp at this; omega
    exact ⟨trivial, rfl, rfl, rfl, leaf_ff (by unfold rightP; rw [decide_eq_false (by omega)]; rfl)⟩
  have g0 : l.length ≤ 4096 := by have := not_lt_of g0; simp at this; omega
  show Goes _ _ _ _
  refine goes_iter (ι := Nat × Nat) (fun i => i.1 ≤ l.length ∧ i.2 ≤ 1048576 ∧ rightP l = rightGo i.2 (l.drop i.1)) (fun i => l.length - i.1) (fun i => [(4, .int .i64 i.1), (0, piecesV l), (3, .int .i64 i.2)]) (fun _ => []) (0, 0) 200 (fun _ => rfl) (fun _ => rfl) ⟨⟨Nat.zero_le _, Nat.zero_le _, ?_⟩, ?_, ?_⟩ ?_
  · unfold rightP
    rw [decide_eq_true g0]
    rfl
  · exact ⟨⟨rfl, rfl⟩, ⟨rfl, rfl⟩, ⟨rfl, rfl⟩, trivial⟩
  · trivial
  · rintro ⟨i, n⟩ ⟨h1, h3, h2⟩ next
    simp only at h1 h2 h3
    refine ⟨fun hlt => go 200 ?_, fun hge => go 200 ?_⟩
    · have hi : i < l.length := by simpa using hlt
      have hx : (l.map pieceV)[i]? = some (pieceV l[i]) := by simp [hi]
      have hput := hpl l[i] (List.getElem_mem hi)
      rw [drop_cons hi] at h2
      refine ⟨Int.natCast_nonneg i, _, hx, ?_⟩
      refine ⟨fun g1 => go 200 ?_, fun g1 => go 200 ?_⟩
      · have g1 := lt_of g1
        exact ⟨trivial, rfl, rfl, rfl, leaf_ff (by rw [h2]; exact rightGo_bad (by omega))⟩
      have g1 := not_lt_of g1
      refine ⟨Int.natCast_nonneg i, _, hx, ?_⟩
      refine ⟨fun g2 => go 200 ?_, fun g2 => go 200 ?_⟩
      · have g2 := lt_of g2
        exact ⟨trivial, rfl, rfl, rfl, leaf_ff (by rw [h2]; exact rightGo_bad (by omega))⟩
      have g2 := not_lt_of g2
      refine ⟨Int.natCast_nonneg i, _, hx, ?_⟩
      refine ⟨fun g3 => go 200 ?_, fun g3 => go 200 ?_⟩
      · have g3 := lt_of g3
        exact ⟨trivial, rfl, rfl, rfl, leaf_ff (by rw [h2]; exact rightGo_bad (by omega))⟩
      have g3 := not_lt_of g3
      refine ⟨Int.natCast_nonneg i, _, hx, ?_⟩
      refine ⟨fun g4 => go 200 ?_, fun g4 => go 200 ?_⟩
      · have g4 := lt_of g4
        exact ⟨trivial, rfl, rfl, rfl, leaf_ff (by rw [h2]; exact rightGo_bad (by omega))⟩
      have g4 := not_lt_of g4
      refine ⟨Int.natCast_nonneg i, _, hx, ?_⟩
      refine ⟨by constructor <;> omega, ?_⟩
      refine ⟨fun g5 => go 200 ?_, fun g5 => go 200 ?_⟩
      · have g5 := lt_of g5
        exact ⟨trivial, rfl, rfl, rfl, leaf_ff (by rw [h2]; exact rightGo_bad (by omega))⟩
      have g5 := not_lt_of g5
      refine ⟨Int.natCast_nonneg i, _, hx, ?_⟩
      refine ⟨by constructor <;> omega, ?_⟩
      refine ⟨by constructor <;> omega, ?_⟩
      show Goes _ _ _ _
      refine next (i + 1, n + (l[i]).put.length) _ _ ⟨⟨hi, by simp only; omega, ?_⟩, ?_, ⟨⟨rfl, rfl⟩, ⟨rfl, rfl⟩, ⟨rfl, rfl⟩, trivial⟩, trivial⟩
      · rw [h2]
        exact rightGo_good (by omega) (by omega) (by omega) (by omega) (by omega)
      · simp only; omega
    · have hi : l.length ≤ i := by simpa using hge
      rw [List.drop_eq_nil_of_le hi] at h2
      exact ⟨trivial, rfl, rfl, rfl, leaf_tt h2⟩
end Bow
/- W8: Formed. -/
namespace Bow
open Go Go.Proofs

set_option maxRecDepth 100000 in
theorem w_Formed (o : OpT) (ho : o.Lt 1000000) (hpl : ∀ p ∈ o.pieces, p.put.length ≤ 1000000000) : Pure Tryz.prog 59 [opV o] (fun x => x = .bool (formedB o)) := by
  have hm := w_May o.path
  have hm2 := w_May o.to
  have hk := w_Key o.key
  have hr := w_Right o.pieces ho.pieces hpl
  refine pure_wk (pure_fn 300 Tryz.func59 rfl rfl rfl fun B => ?_)
  clear ho hpl
  repeat' first
    | (refine ⟨fun _ => go 300 ?_, fun _ => go 300 ?_⟩)
    | (show CallThen _ _ _ _ _ _; refine call_pure hm rfl ?_; rintro x rfl)
    | (show CallThen _ _ _ _ _ _; refine call_pure hm2 rfl ?_; rintro x rfl)
    | (show CallThen _ _ _ _ _ _; refine call_pure hk rfl ?_; rintro x rfl)
    | (show CallThen _ _ _ _ _ _; refine call_pure hr rfl ?_; rintro x rfl)
    | (refine ⟨trivial, rfl, rfl, rfl, leaf_tt ?_⟩)
    | (refine ⟨trivial, rfl, rfl, rfl, leaf_ff ?_⟩)
    | (refine ⟨trivial, rfl, rfl, rfl, leaf_b ?_⟩)
    | fail
  all_goals (first | (simp_all [formedB, gapOk]; done) | (simp_all [formedB, gapOk]; intros; omega))

set_option maxRecDepth 100000 in
theorem w_refFormed (o : OpT) (ho : o.Lt 1000000) (hpl : ∀ p ∈ o.pieces, p.put.length ≤ 1000000000) : Pure Tryz.prog 66 [opV o] (fun x => x = .bool (formedB o)) := by
  have hm := w_refMay o.path ho.path
  have hm2 := w_refMay o.to ho.to
  have hk := w_refKey o.key
  have hr := w_refRight o.pieces ho.pieces hpl
  refine pure_wk (pure_fn 300 Tryz.func66 rfl rfl rfl fun B => ?_)
  clear ho hpl
  repeat' first
    | (refine ⟨fun _ => go 300 ?_, fun _ => go 300 ?_⟩)
    | (show CallThen _ _ _ _ _ _; refine call_pure hm rfl ?_; rintro x rfl)
    | (show CallThen _ _ _ _ _ _; refine call_pure hm2 rfl ?_; rintro x rfl)
    | (show CallThen _ _ _ _ _ _; refine call_pure hk rfl ?_; rintro x rfl)
    | (show CallThen _ _ _ _ _ _; refine call_pure hr rfl ?_; rintro x rfl)
    | (refine ⟨trivial, rfl, rfl, rfl, leaf_tt ?_⟩)
    | (refine ⟨trivial, rfl, rfl, rfl, leaf_ff ?_⟩)
    | (refine ⟨trivial, rfl, rfl, rfl, leaf_b ?_⟩)
    | fail
  all_goals (first | (simp_all [formedB, gapOk]; done) | (simp_all [formedB, gapOk]; intros; omega))

set_option maxRecDepth 100000 in
/-- Light: within the bound, the lengths and what is put. -/
theorem w_Light (o : OpT) (top : Nat) (ht : top ≤ 1000000) : Pure Tryz.prog 14 [opV o, .int .i64 top] (fun x => ∃ b : Bool, x = .bool b ∧ (b = true → o.Lt top ∧ putsLen o.pieces ≤ top)) := by
  have bad : ∃ y, Wk .ff y ∧ y.pureB = true ∧ ∃ b : Bool, y = .bool b ∧ (b = true → o.Lt top ∧ putsLen o.pieces ≤ top) := ⟨_, Wk.ff, rfl, false, rfl, fun h => by cases h⟩
  refine pure_wk (pure_fn 300 Tryz.func14 rfl rfl rfl fun B => ?_)
  refine ⟨fun g1 => go 300 ?_, fun g1 => go 300 ?_⟩
  · exact ⟨trivial, rfl, rfl, rfl, bad⟩
  refine ⟨fun g2 => go 300 ?_, fun g2 => go 300 ?_⟩
  · exact ⟨trivial, rfl, rfl, rfl, bad⟩
  refine ⟨fun g3 => go 300 ?_, fun g3 => go 300 ?_⟩
  · exact ⟨trivial, rfl, rfl, rfl, bad⟩
  refine ⟨fun g4 => go 300 ?_, fun g4 => go 300 ?_⟩
  · exact ⟨trivial, rfl, rfl, rfl, bad⟩
  refine ⟨fun g5 => go 300 ?_, fun g5 => go 300 ?_⟩
  · exact ⟨trivial, rfl, rfl, rfl, bad⟩
  refine ⟨fun g6 => go 300 ?_, fun g6 => go 300 ?_⟩
  · exact ⟨trivial, rfl, rfl, rfl, bad⟩
  have g1 := not_lt_of g1
  have g2 := not_lt_of g2
  have g3 := not_lt_of g3
  have g4 := not_lt_of g4
  have g5 := not_lt_of g5
  have g6 := not_lt_of g6
  simp only [List.length_map] at g1 g2 g6
  have hlt : o.Lt top := ⟨by omega, by omega, by omega, by omega, by omega, by omega⟩
  show Goes _ _ _ _
  refine goes_iter (ι := Nat × Nat) (fun i => i.1 ≤ o.pieces.length ∧ i.2 ≤ top ∧ putsLen o.pieces = i.2 + putsLen (o.pieces.drop i.1)) (fun i => o.pieces.length - i.1) (fun i => [(6, .int .i64 i.1), (5, .int .i64 i.2), (1, .int .i64 top), (2, .ptr (.loc 0) 0)]) (fun _ => [some (.box (opV o).cells)]) (0, 0) 200 (fun _ => rfl) (fun _ => rfl) ⟨⟨Nat.zero_le _, Nat.zero_le _, by simp⟩, ?_, ?_⟩ ?_
  · exact ⟨⟨rfl, rfl⟩, ⟨rfl, rfl⟩, ⟨rfl, rfl⟩, ⟨rfl, rfl⟩, trivial⟩
  · exact ⟨⟨rfl, rfl⟩, trivial⟩
  · rintro ⟨i, n⟩ ⟨h1, h3, h2⟩ next
    simp only at h1 h2 h3
    refine ⟨fun hlt => go 200 ?_, fun hge => go 200 ?_⟩
    · have hi : i < o.pieces.length := by simpa using hlt
      have hx : (o.pieces.map pieceV)[i]? = some (pieceV o.pieces[i]) := by simp [hi]
      rw [drop_cons hi] at h2
      have h2 : putsLen o.pieces = n + ((o.pieces[i]).put.length + putsLen (o.pieces.drop (i + 1))) := h2
      refine ⟨Int.natCast_nonneg i, _, hx, ?_⟩
      refine ⟨by constructor <;> omega, ?_⟩
      refine ⟨fun g7 => go 200 ?_, fun g7 => go 200 ?_⟩
      · exact ⟨trivial, rfl, rfl, rfl, bad⟩
      have g7 := not_lt_of g7
      refine ⟨Int.natCast_nonneg i, _, hx, ?_⟩
      refine ⟨by constructor <;> omega, ?_⟩
      refine ⟨by constructor <;> omega, ?_⟩
      show Goes _ _ _ _
      refine next (i + 1, n + (o.pieces[i]).put.length) _ _ ⟨⟨hi, by simp only; omega, by simp only; omega⟩, ?_, ⟨⟨rfl, rfl⟩, ⟨rfl, rfl⟩, ⟨rfl, rfl⟩, ⟨rfl, rfl⟩, trivial⟩, ⟨⟨rfl, rfl⟩, trivial⟩⟩
      simp only; omega
    · have hi : o.pieces.length ≤ i := by simpa using hge
      rw [List.drop_eq_nil_of_le hi] at h2
      have h2 : putsLen o.pieces = n + 0 := h2
      exact ⟨trivial, rfl, rfl, rfl, _, Wk.tt, rfl, true, rfl, fun _ => ⟨hlt, by omega⟩⟩

/-- A list, light. -/
structure LightL (l : List OpT) (count top : Nat) : Prop where
  len : l.length ≤ count
  ops : ∀ o ∈ l, o.Lt top ∧ putsLen o.pieces ≤ top
def opsV (l : List OpT) : V := .sl 11 (l.map opV)
set_option maxRecDepth 100000 in
theorem w_LightList (l : List OpT) (count top : Nat) (hc : count ≤ 1000000) (ht : top ≤ 1000000) : Pure Tryz.prog 24 [opsV l, .int .i64 count, .int .i64 top] (fun x => ∃ b : Bool, x = .bool b ∧ (b = true → LightL l count top)) := by
  have bad : ∃ y, Wk .ff y ∧ y.pureB = true ∧ ∃ b : Bool, y = .bool b ∧ (b = true → LightL l count top) := ⟨_, Wk.ff, rfl, false, rfl, fun h => by cases h⟩
  refine pure_wk (pure_fn 300 Tryz.func24 rfl rfl rfl fun B => ?_)
  refine ⟨fun g1 => go 300 ?_, fun g1 => go 300 ?_⟩
  · exact ⟨trivial, rfl, rfl, rfl, bad⟩
  have g1 := not_lt_of g1
  simp only [List.length_map] at g1
  show Goes _ _ _ _
  refine goes_iter (ι := Nat) (fun i => i ≤ l.length ∧ ∀ o ∈ l.take i, o.Lt top ∧ putsLen o.pieces ≤ top) (fun i => l.length - i) (fun i => [(7, .int .i64 i), (2, .int .i64 top), (0, opsV l)]) (fun _ => []) 0 200 (fun _ => rfl) (fun _ => rfl) ⟨⟨Nat.zero_le _, by simp⟩, ?_, ?_⟩ ?_
  · exact ⟨⟨rfl, rfl⟩, ⟨rfl, rfl⟩, ⟨rfl, rfl⟩, trivial⟩
  · trivial
  · rintro i ⟨h1, h2⟩ next
    refine ⟨fun hlt => go 200 ?_, fun hge => go 200 ?_⟩
    · have hi : i < l.length := by simpa using hlt
      have hx : (l.map opV)[i]? = some (opV l[i]) := by simp [hi]
      refine ⟨Int.natCast_nonneg i, _, hx, ?_⟩
      show CallThen _ _ _ _ _ _
      refine call_pure (w_Light l[i] top ht) rfl ?_
      rintro x ⟨b, rfl, hb⟩
      refine ⟨fun g => go 200 ?_, fun g => go 200 ?_⟩
      · exact ⟨trivial, rfl, rfl, rfl, bad⟩
      have g : b = true := by simpa using g
      refine ⟨by constructor <;> omega, ?_⟩
      show Goes _ _ _ _
      refine next (i + 1) _ _ ⟨⟨hi, fun o ho => ?_⟩, by omega, ⟨⟨rfl, rfl⟩, ⟨rfl, rfl⟩, ⟨rfl, rfl⟩, trivial⟩, trivial⟩
      rw [List.take_add_one, List.getElem?_eq_getElem hi] at ho
      rcases List.mem_append.1 ho with ho | ho
      · exact h2 o ho
      · simp at ho
        subst ho
        exact hb g
    · have hi : l.length ≤ i := by simpa using hge
      rw [List.take_of_length_le hi] at h2
      exact ⟨trivial, rfl, rfl, rfl, _, Wk.tt, rfl, true, rfl, fun _ => ⟨by omega, h2⟩⟩
end Bow
/- W9: Bare; puts; Fits. -/
namespace Bow
open Go Go.Proofs

/-- An operation as a literal lays it. -/
theorem wk_op {o : OpT} {cs : List V} (h : WkL cs (opV o).cells) : Wk (.agg cs) (opV o) := Wk.agg h

end Bow
/- W10: the reference's Bare; puts; Fits. -/
namespace Bow
open Go Go.Proofs

theorem room_of {n b : Nat} (h : n ≤ 1000000) (hb : b ≤ 70368744) : room n b := Nat.le_trans (Nat.mul_le_mul h hb) (by decide)

set_option maxRecDepth 100000 in
theorem w_refBare (o : OpT) (ho : o.Lt 1000000) : Pure Tryz.prog 15 [opV o] (fun x => x = opV (bareO o)) := by
  refine pure_wk (pure_fn 300 Tryz.func15 rfl rfl rfl fun B => ?_)
  have hp := ho.path
  have ht := ho.to
  have hpc := ho.pieces
  refine ⟨room_of (by simpa using ho.path) (by decide), ?_⟩
  refine ⟨room_of (by simpa using ho.to) (by decide), ?_⟩
  refine ⟨fun g1 => go 300 ?_, fun g1 => go 300 ?_⟩
  · have g1 := eq_of g1
    refine ⟨trivial, rfl, rfl, rfl, rfl, rfl, _, ?_, ?_, rfl⟩
    · simp only [bareO, g1]
      refine wk_op ⟨.refl _, .refl _, .refl _, Wk.nil 1, .refl _, .refl _, .refl _, .refl _, .refl _, Wk.ff, Wk.nil 3, trivial⟩
    · rfl
  refine ⟨fun g2 => go 300 ?_, fun g2 => go 300 ?_⟩
  · have g2 := eq_of g2
    refine ⟨trivial, rfl, rfl, rfl, rfl, rfl, _, ?_, ?_, rfl⟩
    · simp only [bareO, g2]
      refine wk_op ⟨.refl _, .refl _, .refl _, Wk.nil 1, .refl _, Wk.ff, .refl _, .refl _, .refl _, Wk.ff, Wk.nil 3, trivial⟩
    · rfl
  refine ⟨fun g3 => go 300 ?_, fun g3 => go 300 ?_⟩
  · have g3 := eq_of g3
    refine ⟨trivial, rfl, rfl, rfl, rfl, rfl, rfl, rfl, _, ?_, ?_, rfl⟩
    · simp only [bareO, g3]
      refine wk_op ⟨.refl _, .refl _, .refl _, .refl _, .refl _, Wk.ff, .refl _, .refl _, .refl _, Wk.ff, Wk.nil 3, trivial⟩
    · rfl
  refine ⟨fun g4 => go 300 ?_, fun g4 => go 300 ?_⟩
  · have g4 := eq_of g4
    refine ⟨fun h => go 300 ?_, fun h => go 300 ?_⟩
    · have h : o.gone = false := by simpa using h
      refine ⟨trivial, rfl, rfl, rfl, rfl, rfl, _, ?_, ?_, rfl⟩
      · simp only [bareO, g4, h]
        refine wk_op ⟨.refl _, .refl _, .refl _, Wk.nil 1, .refl _, Wk.ff, .refl _, .refl _, .refl _, .refl _, Wk.nil 3, trivial⟩
      · rfl
    · have h : o.gone = true := by simpa using h
      refine ⟨trivial, rfl, rfl, rfl, rfl, rfl, _, ?_, ?_, rfl⟩
      · simp only [bareO, g4, h]
        refine wk_op ⟨.refl _, .refl _, .refl _, Wk.nil 1, .refl _, Wk.ff, .refl _, .refl _, .refl _, .refl _, Wk.nil 3, trivial⟩
      · rfl
  refine ⟨fun g5 => go 300 ?_, fun g5 => go 300 ?_⟩
  · have g5 := eq_of g5
    refine ⟨trivial, rfl, rfl, rfl, rfl, rfl, _, ?_, ?_, rfl⟩
    · simp only [bareO, g5]
      refine wk_op ⟨.refl _, .refl _, .refl _, Wk.nil 1, .refl _, Wk.ff, .refl _, .refl _, .refl _, Wk.ff, Wk.nil 3, trivial⟩
    · rfl
  refine ⟨fun g6 => go 300 ?_, fun g6 => go 300 ?_⟩
  · have g6 := eq_of g6
    refine ⟨room_of (by simpa using ho.pieces) (by decide), ?_⟩
    refine ⟨trivial, rfl, rfl, rfl, rfl, rfl, rfl, rfl, _, ?_, ?_, rfl⟩
    · simp only [bareO, g6]
      refine wk_op ⟨.refl _, .refl _, .refl _, Wk.nil 1, .refl _, Wk.ff, .refl _, .refl _, .refl _, Wk.ff, .refl _, trivial⟩
    · rfl
  · have g1 := ne_of g1
    have g2 := ne_of g2
    have g3 := ne_of g3
    have g4 := ne_of g4
    have g5 := ne_of g5
    have g6 := ne_of g6
    refine ⟨trivial, rfl, rfl, rfl, _, ?_, ?_, rfl⟩
    · have e : bareO o = noOp o.kind := by
        unfold bareO
        rw [show (o.kind == 1) = false by simpa using g1, show (o.kind == 2) = false by simpa using g2, show (o.kind == 3) = false by simpa using g3, show (o.kind == 4) = false by simpa using g4, show (o.kind == 5) = false by simpa using g5, show (o.kind == 6) = false by simpa using g6]
        rfl
      rw [e]
      refine wk_op ⟨.refl _, Wk.nil 1, .refl _, Wk.nil 1, .refl _, Wk.ff, .refl _, .refl _, .refl _, Wk.ff, Wk.nil 3, trivial⟩
    · rfl

/-! ### What is put -/
theorem putsLen_cons (p : PieceT) (l : List PieceT) : putsLen (p :: l) = p.put.length + putsLen l := rfl
theorem bare_lt {o : OpT} {n : Nat} (h : o.Lt n) : (bareO o).Lt n := by
  unfold bareO noOp
  rcases Bool.eq_false_or_eq_true (o.kind == 1) with e | e <;> rw [e] <;> simp only [cond_true, cond_false]
  · exact ⟨h.path, Nat.zero_le _, h.label, Nat.zero_le _, Nat.zero_le _, Nat.zero_le _⟩
  rcases Bool.eq_false_or_eq_true (o.kind == 2) with e | e <;> rw [e] <;> simp only [cond_true, cond_false]
  · exact ⟨h.path, Nat.zero_le _, Nat.zero_le _, Nat.zero_le _, Nat.zero_le _, Nat.zero_le _⟩
  rcases Bool.eq_false_or_eq_true (o.kind == 3) with e | e <;> rw [e] <;> simp only [cond_true, cond_false]
  · exact ⟨h.path, h.to, Nat.zero_le _, Nat.zero_le _, Nat.zero_le _, Nat.zero_le _⟩
  rcases Bool.eq_false_or_eq_true (o.kind == 4) with e | e <;> rw [e] <;> simp only [cond_true, cond_false]
  · refine ⟨h.path, Nat.zero_le _, Nat.zero_le _, h.key, ?_, Nat.zero_le _⟩
    cases o.gone <;> simp [h.value]
  rcases Bool.eq_false_or_eq_true (o.kind == 5) with e | e <;> rw [e] <;> simp only [cond_true, cond_false]
  · exact ⟨h.path, Nat.zero_le _, h.label, Nat.zero_le _, Nat.zero_le _, Nat.zero_le _⟩
  rcases Bool.eq_false_or_eq_true (o.kind == 6) with e | e <;> rw [e] <;> simp only [cond_true, cond_false]
  · exact ⟨h.path, Nat.zero_le _, Nat.zero_le _, Nat.zero_le _, Nat.zero_le _, h.pieces⟩
  · exact ⟨Nat.zero_le _, Nat.zero_le _, Nat.zero_le _, Nat.zero_le _, Nat.zero_le _, Nat.zero_le _⟩
theorem bare_puts {o : OpT} : putsLen (bareO o).pieces ≤ putsLen o.pieces := by
  unfold bareO noOp
  rcases Bool.eq_false_or_eq_true (o.kind == 1) with e | e <;> rw [e] <;> simp only [cond_true, cond_false]
  · exact Nat.zero_le _
  rcases Bool.eq_false_or_eq_true (o.kind == 2) with e | e <;> rw [e] <;> simp only [cond_true, cond_false]
  · exact Nat.zero_le _
  rcases Bool.eq_false_or_eq_true (o.kind == 3) with e | e <;> rw [e] <;> simp only [cond_true, cond_false]
  · exact Nat.zero_le _
  rcases Bool.eq_false_or_eq_true (o.kind == 4) with e | e <;> rw [e] <;> simp only [cond_true, cond_false]
  · exact Nat.zero_le _
  rcases Bool.eq_false_or_eq_true (o.kind == 5) with e | e <;> rw [e] <;> simp only [cond_true, cond_false]
  · exact Nat.zero_le _
  rcases Bool.eq_false_or_eq_true (o.kind == 6) with e | e <;> rw [e] <;> simp only [cond_true, cond_false]
  · exact Nat.le_refl _
  · exact Nat.zero_le _

end Bow
/- W11: Fits; the chapter's examples; the laws' functions. -/
namespace Bow
open Go Go.Proofs

structure OpT.Ok (o : OpT) : Prop where
  lt : o.Lt 1000000
  puts : putsLen o.pieces ≤ 1048576
theorem put_le {l : List PieceT} : ∀ p ∈ l, p.put.length ≤ putsLen l := by
  induction l with
  | nil => intro p h; cases h
  | cons q l ih =>
    intro p h
    rw [putsLen_cons]
    rcases List.mem_cons.1 h with rfl | h
    · omega
    · have := ih p h; omega
theorem OpT.Ok.each {o : OpT} (h : o.Ok) : ∀ p ∈ o.pieces, p.put.length ≤ 1000000000 := fun p hp => by have := put_le p hp; have := h.puts; omega
theorem bare_ok {o : OpT} (h : o.Ok) : (bareO o).Ok := ⟨bare_lt h.lt, Nat.le_trans bare_puts h.puts⟩
end Bow
/- W12: the chapter's examples; the laws' functions. -/
namespace Bow
open Go Go.Proofs

end Bow
/- W13: the laws' functions: LimitsCheck, LimitsFits. -/
namespace Bow
open Go Go.Proofs

end Bow
/- W14: slices.Grow of nil, slices.Concat: printed by gen_w14.py. -/
namespace Bow
open Go Go.Proofs

theorem flatten_take_succ {α : Type} {l : List (List α)} {i : Nat} (hi : i < l.length) : (l.take (i + 1)).flatten = (l.take i).flatten ++ l[i] := by
  rw [List.take_succ_eq_append_getElem hi, List.flatten_append]
  simp
theorem flatten_take_le {α : Type} (l : List (List α)) (i : Nat) : (l.take i).flatten.length ≤ l.flatten.length := by
  conv => rhs; rw [← List.take_append_drop i l]
  rw [List.flatten_append, List.length_append]
  omega

theorem w_GrowNode (n : Nat) (h : n ≤ 10000000) : Fun Tryz.prog 125 [] [.nilsl, .int .i64 n] (fun x T => ∃ g, x = .osl (.loc 0) g 0 0 ∧ T = [some (.vec g 6 [])]) := by
  refine fun_fn 100 Tryz.func125 rfl rfl rfl fun imps B hi => ?_
  have : imps = [] := List.length_eq_zero_iff.1 hi
  subst this
  refine ⟨fun g1 => go 100 ?_, fun g1 => go 100 ?_⟩
  · have := lt_of g1; omega
  show Goes _ _ _ _
  refine goes_cap0 100 rfl rfl rfl rfl rfl ?_
  refine ⟨by constructor <;> omega, by constructor <;> omega, ?_⟩
  refine ⟨fun g2 => go 100 ?_, fun g2 => ?_⟩
  · have g2 := lt_of g2
    show Goes _ _ _ _
    refine goes_cap0 100 rfl rfl rfl rfl rfl ?_
    show Goes _ _ _ _
    refine goes_nilcut 100 rfl rfl rfl rfl rfl rfl rfl ?_
    show Goes _ _ _ _
    refine goes_growTo 100 n rfl rfl rfl rfl (congrArg (V.int .i64) (by omega)) (by omega) rfl rfl rfl rfl rfl (Nat.le_trans (Nat.mul_le_mul_right _ h) (by decide)) ?_
    show Goes _ _ _ _
    refine goes_cut (h := 0) 100 rfl rfl rfl rfl rfl rfl rfl rfl (Nat.zero_le _) ?_
    exact ⟨trivial, rfl, rfl, 2, rfl, rfl⟩
  · refine goes_own 0 6 rfl ?_
    refine go 100 ?_
    exact ⟨trivial, rfl, rfl, 0, rfl, rfl⟩
set_option maxRecDepth 100000 in
theorem w_ConcatNode (ls : List (List V)) (h : ls.flatten.length ≤ 1000000) (hl : ls.length ≤ 1000000) : Pure Tryz.prog 115 [.sl 1 (ls.map (V.sl 6))] (fun x => x = .sl 6 ls.flatten) := by
  refine pure_fn 100 Tryz.func115 rfl rfl rfl fun B => ?_
  show Goes _ _ _ _
  refine goes_iter (ι := Nat) (fun i => i ≤ ls.length) (fun i => ls.length - i) (fun i => [(3, .int .i64 (ls.take i).flatten.length), (11, .int .i64 i), (10, .int .i64 (ls.map (V.sl 6)).length), (9, .sl 1 (ls.map (V.sl 6))), (0, .sl 1 (ls.map (V.sl 6)))]) (fun _ => []) 0 100 (fun _ => rfl) (fun _ => rfl) ⟨Nat.zero_le _, ?_, trivial⟩ ?_
  · exact ⟨⟨rfl, rfl⟩, ⟨rfl, rfl⟩, ⟨rfl, rfl⟩, ⟨rfl, rfl⟩, ⟨rfl, rfl⟩, trivial⟩
  intro i k1 next
  have hb1 := flatten_take_le ls i
  refine ⟨fun hlt => go 100 ?_, fun hge => go 100 ?_⟩
  · have hi : i < ls.length := by simpa using hlt
    have hx : (ls.map (V.sl 6))[i]? = some (.sl 6 ls[i]) := by simp [hi]
    have hb2 := flatten_take_le ls (i + 1)
    have hs := flatten_take_succ hi
    have hsl : (ls.take (i + 1)).flatten.length = (ls.take i).flatten.length + ls[i].length := by rw [hs, List.length_append]
    refine ⟨Int.natCast_nonneg i, _, hx, ?_⟩
    refine ⟨by constructor <;> omega, ?_⟩
    refine ⟨fun g1 => go 100 ?_, fun g1 => go 100 ?_⟩
    · have := lt_of g1; omega
    refine ⟨by constructor <;> omega, ?_⟩
    refine next (i + 1) _ _ ⟨by omega, by omega, ?_, trivial⟩
    exact ⟨⟨by simp only [lk]; exact congrArg (V.int .i64) (by omega), rfl⟩, ⟨rfl, rfl⟩, ⟨rfl, rfl⟩, ⟨rfl, rfl⟩, ⟨rfl, rfl⟩, trivial⟩
  · have hi : i = ls.length := by have : ls.length ≤ i := by simpa using hge
                                  omega
    subst hi
    rw [List.take_length]
    show CallThen _ _ _ _ _ _
    refine call_sub [] (w_GrowNode ls.flatten.length (by omega)) rfl rfl trivial rfl rfl rfl ?_
    rintro x T1 ⟨g, rfl, rfl⟩
    refine ⟨rfl, ?_⟩
    show Goes _ _ _ _
    refine goes_iter (ι := Nat × Nat) (fun i => i.1 ≤ ls.length) (fun i => ls.length - i.1) (fun i => [(6, .osl (.loc 0) i.2 0 (ls.take i.1).flatten.length), (27, .int .i64 i.1), (26, .int .i64 (ls.map (V.sl 6)).length), (25, .sl 1 (ls.map (V.sl 6)))]) (fun i => [some (.vec i.2 6 (ls.take i.1).flatten)]) (0, g) 100 (fun _ => rfl) (fun _ => rfl) ⟨Nat.zero_le _, ?_, ?_⟩ ?_
    · exact ⟨⟨rfl, rfl⟩, ⟨rfl, rfl⟩, ⟨rfl, rfl⟩, ⟨rfl, rfl⟩, trivial⟩
    · exact ⟨⟨rfl, rfl⟩, trivial⟩
    rintro ⟨i, g⟩ k1 next
    have hb1 := flatten_take_le ls i
    simp only at k1 hb1
    refine ⟨fun hlt => go 100 ?_, fun hge => go 100 ?_⟩
    · have hi : i < ls.length := by simpa using hlt
      have hx : (ls.map (V.sl 6))[i]? = some (.sl 6 ls[i]) := by simp [hi]
      have hb2 := flatten_take_le ls (i + 1)
      have hs := flatten_take_succ hi
      have hsl : (ls.take (i + 1)).flatten.length = (ls.take i).flatten.length + ls[i].length := by rw [hs, List.length_append]
      refine ⟨Int.natCast_nonneg i, _, hx, ?_⟩
      simp only
      refine ⟨rfl, rfl, Nat.le_trans (Nat.mul_le_mul_right _ (show _ ≤ 1000000 by omega)) (by decide), ?_⟩
      refine ⟨by constructor <;> omega, ?_⟩
      refine next (i + 1, bump g) _ _ ⟨by simp only; omega, by simp only; omega, ?_, ?_⟩
      · exact ⟨⟨by simp only [lk]; exact congrArg (V.osl _ _ _) hsl.symm, rfl⟩, ⟨rfl, rfl⟩, ⟨rfl, rfl⟩, ⟨rfl, rfl⟩, trivial⟩
      · exact ⟨⟨by rw [hs], rfl⟩, trivial⟩
    · have hi : i = ls.length := by have : ls.length ≤ i := by simpa using hge
                                    omega
      subst hi
      exact ⟨trivial, rfl, rfl, rfl, rfl, rfl, by simp only [List.take_length]⟩

theorem w_GrowAttr (n : Nat) (h : n ≤ 10000000) : Fun Tryz.prog 127 [] [.nilsl, .int .i64 n] (fun x T => ∃ g, x = .osl (.loc 0) g 0 0 ∧ T = [some (.vec g 2 [])]) := by
  refine fun_fn 100 Tryz.func127 rfl rfl rfl fun imps B hi => ?_
  have : imps = [] := List.length_eq_zero_iff.1 hi
  subst this
  refine ⟨fun g1 => go 100 ?_, fun g1 => go 100 ?_⟩
  · have := lt_of g1; omega
  show Goes _ _ _ _
  refine goes_cap0 100 rfl rfl rfl rfl rfl ?_
  refine ⟨by constructor <;> omega, by constructor <;> omega, ?_⟩
  refine ⟨fun g2 => go 100 ?_, fun g2 => ?_⟩
  · have g2 := lt_of g2
    show Goes _ _ _ _
    refine goes_cap0 100 rfl rfl rfl rfl rfl ?_
    show Goes _ _ _ _
    refine goes_nilcut 100 rfl rfl rfl rfl rfl rfl rfl ?_
    show Goes _ _ _ _
    refine goes_growTo 100 n rfl rfl rfl rfl (congrArg (V.int .i64) (by omega)) (by omega) rfl rfl rfl rfl rfl (Nat.le_trans (Nat.mul_le_mul_right _ h) (by decide)) ?_
    show Goes _ _ _ _
    refine goes_cut (h := 0) 100 rfl rfl rfl rfl rfl rfl rfl rfl (Nat.zero_le _) ?_
    exact ⟨trivial, rfl, rfl, 2, rfl, rfl⟩
  · refine goes_own 0 2 rfl ?_
    refine go 100 ?_
    exact ⟨trivial, rfl, rfl, 0, rfl, rfl⟩
set_option maxRecDepth 100000 in
theorem w_ConcatAttr (ls : List (List V)) (h : ls.flatten.length ≤ 1000000) (hl : ls.length ≤ 1000000) : Pure Tryz.prog 121 [.sl 1 (ls.map (V.sl 2))] (fun x => x = .sl 2 ls.flatten) := by
  refine pure_fn 100 Tryz.func121 rfl rfl rfl fun B => ?_
  show Goes _ _ _ _
  refine goes_iter (ι := Nat) (fun i => i ≤ ls.length) (fun i => ls.length - i) (fun i => [(3, .int .i64 (ls.take i).flatten.length), (11, .int .i64 i), (10, .int .i64 (ls.map (V.sl 2)).length), (9, .sl 1 (ls.map (V.sl 2))), (0, .sl 1 (ls.map (V.sl 2)))]) (fun _ => []) 0 100 (fun _ => rfl) (fun _ => rfl) ⟨Nat.zero_le _, ?_, trivial⟩ ?_
  · exact ⟨⟨rfl, rfl⟩, ⟨rfl, rfl⟩, ⟨rfl, rfl⟩, ⟨rfl, rfl⟩, ⟨rfl, rfl⟩, trivial⟩
  intro i k1 next
  have hb1 := flatten_take_le ls i
  refine ⟨fun hlt => go 100 ?_, fun hge => go 100 ?_⟩
  · have hi : i < ls.length := by simpa using hlt
    have hx : (ls.map (V.sl 2))[i]? = some (.sl 2 ls[i]) := by simp [hi]
    have hb2 := flatten_take_le ls (i + 1)
    have hs := flatten_take_succ hi
    have hsl : (ls.take (i + 1)).flatten.length = (ls.take i).flatten.length + ls[i].length := by rw [hs, List.length_append]
    refine ⟨Int.natCast_nonneg i, _, hx, ?_⟩
    refine ⟨by constructor <;> omega, ?_⟩
    refine ⟨fun g1 => go 100 ?_, fun g1 => go 100 ?_⟩
    · have := lt_of g1; omega
    refine ⟨by constructor <;> omega, ?_⟩
    refine next (i + 1) _ _ ⟨by omega, by omega, ?_, trivial⟩
    exact ⟨⟨by simp only [lk]; exact congrArg (V.int .i64) (by omega), rfl⟩, ⟨rfl, rfl⟩, ⟨rfl, rfl⟩, ⟨rfl, rfl⟩, ⟨rfl, rfl⟩, trivial⟩
  · have hi : i = ls.length := by have : ls.length ≤ i := by simpa using hge
                                  omega
    subst hi
    rw [List.take_length]
    show CallThen _ _ _ _ _ _
    refine call_sub [] (w_GrowAttr ls.flatten.length (by omega)) rfl rfl trivial rfl rfl rfl ?_
    rintro x T1 ⟨g, rfl, rfl⟩
    refine ⟨rfl, ?_⟩
    show Goes _ _ _ _
    refine goes_iter (ι := Nat × Nat) (fun i => i.1 ≤ ls.length) (fun i => ls.length - i.1) (fun i => [(6, .osl (.loc 0) i.2 0 (ls.take i.1).flatten.length), (27, .int .i64 i.1), (26, .int .i64 (ls.map (V.sl 2)).length), (25, .sl 1 (ls.map (V.sl 2)))]) (fun i => [some (.vec i.2 2 (ls.take i.1).flatten)]) (0, g) 100 (fun _ => rfl) (fun _ => rfl) ⟨Nat.zero_le _, ?_, ?_⟩ ?_
    · exact ⟨⟨rfl, rfl⟩, ⟨rfl, rfl⟩, ⟨rfl, rfl⟩, ⟨rfl, rfl⟩, trivial⟩
    · exact ⟨⟨rfl, rfl⟩, trivial⟩
    rintro ⟨i, g⟩ k1 next
    have hb1 := flatten_take_le ls i
    simp only at k1 hb1
    refine ⟨fun hlt => go 100 ?_, fun hge => go 100 ?_⟩
    · have hi : i < ls.length := by simpa using hlt
      have hx : (ls.map (V.sl 2))[i]? = some (.sl 2 ls[i]) := by simp [hi]
      have hb2 := flatten_take_le ls (i + 1)
      have hs := flatten_take_succ hi
      have hsl : (ls.take (i + 1)).flatten.length = (ls.take i).flatten.length + ls[i].length := by rw [hs, List.length_append]
      refine ⟨Int.natCast_nonneg i, _, hx, ?_⟩
      simp only
      refine ⟨rfl, rfl, Nat.le_trans (Nat.mul_le_mul_right _ (show _ ≤ 1000000 by omega)) (by decide), ?_⟩
      refine ⟨by constructor <;> omega, ?_⟩
      refine next (i + 1, bump g) _ _ ⟨by simp only; omega, by simp only; omega, ?_, ?_⟩
      · exact ⟨⟨by simp only [lk]; exact congrArg (V.osl _ _ _) hsl.symm, rfl⟩, ⟨rfl, rfl⟩, ⟨rfl, rfl⟩, ⟨rfl, rfl⟩, trivial⟩
      · exact ⟨⟨by rw [hs], rfl⟩, trivial⟩
    · have hi : i = ls.length := by have : ls.length ≤ i := by simpa using hge
                                    omega
      subst hi
      exact ⟨trivial, rfl, rfl, rfl, rfl, rfl, by simp only [List.take_length]⟩

end Bow
/- W15: slices.Equal, slices.Clone, paths: printed by gen_w15.py. -/
namespace Bow
open Go Go.Proofs

theorem take_succ_eq {α : Type} {xs ys : List α} {i : Nat} (hx : i < xs.length) (hy : i < ys.length) : xs.drop i = ys.drop i ↔ xs[i] = ys[i] ∧ xs.drop (i + 1) = ys.drop (i + 1) := by
  rw [List.drop_eq_getElem_cons hx, List.drop_eq_getElem_cons hy, List.cons.injEq]

theorem PieceT.ext {a b : PieceT} (h1 : a.keep = b.keep) (h2 : a.drop = b.drop) (h3 : a.put = b.put) : a = b := by cases a; cases b; simp_all
instance : DecidableEq PieceT := fun a b => decidable_of_iff (a.keep = b.keep ∧ a.drop = b.drop ∧ a.put = b.put) ⟨fun h => PieceT.ext h.1 h.2.1 h.2.2, fun h => by subst h; exact ⟨rfl, rfl, rfl⟩⟩

set_option maxRecDepth 100000 in
theorem w_EqualInt (xs ys : List Int) (hl : xs.length ≤ 1000000) : Pure Tryz.prog 108 [.sl 1 (xs.map intV), .sl 1 (ys.map intV)] (fun x => x = .bool (decide (xs = ys))) := by
  refine pure_wk (pure_fn 100 Tryz.func108 rfl rfl rfl fun B => ?_)
  refine ⟨fun g1 => go 100 ?_, fun g1 => go 100 ?_⟩
  · have g1 := ne_of' g1
    refine ⟨trivial, rfl, rfl, rfl, leaf_ff (decide_eq_false fun e => g1 ?_)⟩
    rw [e]
  have g1 : xs.length = ys.length := by have := eq_of' g1; simp at this; omega
  show Goes _ _ _ _
  refine goes_iter (ι := Nat) (fun i => i ≤ xs.length ∧ (xs.drop i = ys.drop i ↔ xs = ys)) (fun i => xs.length - i) (fun i => [(13, .int .i64 i), (12, .int .i64 (xs.map intV).length), (1, .sl 1 (ys.map intV)), (0, .sl 1 (xs.map intV))]) (fun _ => []) 0 100 (fun _ => rfl) (fun _ => rfl) ⟨⟨Nat.zero_le _, Iff.rfl⟩, ?_, trivial⟩ ?_
  · exact ⟨⟨rfl, rfl⟩, ⟨rfl, rfl⟩, ⟨rfl, rfl⟩, ⟨rfl, rfl⟩, trivial⟩
  rintro i ⟨k1, k2⟩ next
  refine ⟨fun hlt => go 100 ?_, fun hge => go 100 ?_⟩
  · have hi : i < xs.length := by simpa using hlt
    have hi' : i < ys.length := by omega
    have hx : (xs.map intV)[i]? = some (intV xs[i]) := by simp [hi]
    have hy : (ys.map intV)[i]? = some (intV ys[i]) := by simp [hi']
    rw [take_succ_eq hi hi'] at k2
    show Goes _ _ _ _
    refine goes_drawX [] 100 ?_
    refine ⟨Int.natCast_nonneg i, _, hx, Int.natCast_nonneg i, _, hy, ?_⟩
    refine ⟨by kernel_rfl, ?_⟩
    refine ⟨fun g2 => go 100 ?_, fun g2 => go 100 ?_⟩
    · refine ⟨trivial, rfl, rfl, rfl, leaf_ff (decide_eq_false fun e => ?_)⟩
      have := (k2.2 e).1
      rw [this] at g2
      simp at g2
    · refine ⟨by constructor <;> omega, ?_⟩
      have he : xs[i] = ys[i] := by
        exact eq_of' g2
      exact next (i + 1) _ _ ⟨⟨hi, by rw [← k2]; exact ⟨fun h => ⟨he, h⟩, fun h => h.2⟩⟩, by omega, ⟨⟨rfl, rfl⟩, ⟨rfl, rfl⟩, ⟨rfl, rfl⟩, ⟨rfl, rfl⟩, trivial⟩, trivial⟩
  · have hi : i = xs.length := by have : xs.length ≤ i := by simpa using hge
                                  omega
    subst hi
    refine ⟨trivial, rfl, rfl, rfl, leaf_tt (decide_eq_true (k2.1 ?_))⟩
    rw [List.drop_eq_nil_of_le (Nat.le_refl _), List.drop_eq_nil_of_le (by omega)]

/-- What a clone leaves: nil, or own memory. -/
def CloneQ (sz : Nat) (xs : List V) (x : V) (T : Heap) : Prop := (xs = [] ∧ x = .nilsl ∧ T = []) ∨ (x = .osl (.loc 0) 2 0 xs.length ∧ T = [some (.vec 2 sz xs)])

theorem w_CloneInt (xs : List V) (hl : xs.length ≤ 1000000) : Fun Tryz.prog 56 [] [.sl 1 xs] (CloneQ 1 xs) := by
  refine fun_fn 100 Tryz.func56 rfl rfl rfl fun imps B hi => ?_
  have : imps = [] := List.length_eq_zero_iff.1 hi
  subst this
  show Goes _ _ _ _
  refine goes_nileq 100 rfl rfl rfl rfl rfl rfl fun b hb => ?_
  refine ⟨fun g => go 100 ?_, fun g => go 100 ?_⟩
  · exact ⟨trivial, rfl, rfl, .inl ⟨hb g, rfl, rfl⟩⟩
  · refine ⟨trivial, rfl, rfl, Nat.le_trans (Nat.mul_le_mul_right _ (show _ ≤ 1000000 by simpa using hl)) (by decide), ?_⟩
    refine ⟨trivial, rfl, rfl, .inr ⟨?_, rfl⟩⟩
    simp [resV, bump]

theorem w_CloneNode (xs : List V) (hl : xs.length ≤ 1000000) : Fun Tryz.prog 117 [] [.sl 6 xs] (CloneQ 6 xs) := by
  refine fun_fn 100 Tryz.func117 rfl rfl rfl fun imps B hi => ?_
  have : imps = [] := List.length_eq_zero_iff.1 hi
  subst this
  show Goes _ _ _ _
  refine goes_nileq 100 rfl rfl rfl rfl rfl rfl fun b hb => ?_
  refine ⟨fun g => go 100 ?_, fun g => go 100 ?_⟩
  · exact ⟨trivial, rfl, rfl, .inl ⟨hb g, rfl, rfl⟩⟩
  · refine ⟨trivial, rfl, rfl, Nat.le_trans (Nat.mul_le_mul_right _ (show _ ≤ 1000000 by simpa using hl)) (by decide), ?_⟩
    refine ⟨trivial, rfl, rfl, .inr ⟨?_, rfl⟩⟩
    simp [resV, bump]

end Bow
/- W16: paths, further. -/
namespace Bow
open Go Go.Proofs

theorem common_at {p q : List Int} {i : Nat} (hp : i < p.length) (hq : i < q.length) : common (p.drop i) (q.drop i) = bif decide (p[i] = q[i]) then common (p.drop (i + 1)) (q.drop (i + 1)) + 1 else 0 := by
  rw [List.drop_eq_getElem_cons hp, List.drop_eq_getElem_cons hq, common]
theorem common_nil {p q : List Int} {i : Nat} (h : p.length ≤ i ∨ q.length ≤ i) : common (p.drop i) (q.drop i) = 0 := by
  rcases h with h | h
  · rw [List.drop_eq_nil_of_le h]; simp [common]
  · rw [List.drop_eq_nil_of_le h]; cases p.drop i <;> simp [common]

set_option maxRecDepth 100000 in
theorem w_refCommon (p q : List Int) (hp : p.length ≤ 1000000) : Pure Tryz.prog 71 [pathV p, pathV q] (fun x => x = .int .i64 (common p q)) := by
  refine pure_fn 100 Tryz.func71 rfl rfl rfl fun B => ?_
  show Goes _ _ _ _
  refine goes_iter (ι := Nat) (fun i => i ≤ p.length ∧ i + common (p.drop i) (q.drop i) = common p q) (fun i => p.length - i) (fun i => [(5, .int .i64 i), (1, pathV q), (0, pathV p)]) (fun _ => []) 0 100 (fun _ => rfl) (fun _ => rfl) ⟨⟨Nat.zero_le _, by simp⟩, ?_, trivial⟩ ?_
  · exact ⟨⟨rfl, rfl⟩, ⟨rfl, rfl⟩, ⟨rfl, rfl⟩, trivial⟩
  rintro i ⟨k1, k2⟩ next
  show Goes _ _ _ _
  have fin : common (p.drop i) (q.drop i) = 0 → V.int .i64 (i : Nat) = .int .i64 (common p q) := fun h => by rw [← k2, h]; rfl
  refine goes_drawX [] 100 ⟨fun g1 => ⟨fun g2 => ?_, fun g2 => ?_⟩, fun g1 => ?_⟩
  · have hi : i < p.length := by simpa using g1
    have hi' : i < q.length := by simpa using g2
    have hx : (p.map intV)[i]? = some (intV p[i]) := by simp [hi]
    have hy : (q.map intV)[i]? = some (intV q[i]) := by simp [hi']
    rw [common_at hi hi'] at k2 fin
    refine ⟨Int.natCast_nonneg i, _, hx, Int.natCast_nonneg i, _, hy, ?_⟩
    refine ⟨by kernel_rfl, ?_⟩
    refine ⟨fun g3 => go 100 ?_, fun g3 => go 100 ?_⟩
    · rw [g3] at k2
      refine ⟨by constructor <;> omega, ?_⟩
      exact next (i + 1) _ _ ⟨⟨hi, by simp only [cond_true] at k2; omega⟩, by omega, ⟨⟨rfl, rfl⟩, ⟨rfl, rfl⟩, ⟨rfl, rfl⟩, trivial⟩, trivial⟩
    · rw [g3] at fin
      exact ⟨trivial, rfl, rfl, rfl, fin rfl⟩
  · have hi' : q.length ≤ i := by simpa using g2
    refine ⟨by kernel_rfl, ?_⟩
    exact ⟨trivial, rfl, rfl, rfl, fin (common_nil (.inr hi'))⟩
  · have hi : p.length ≤ i := by simpa using g1
    refine ⟨by kernel_rfl, ?_⟩
    exact ⟨trivial, rfl, rfl, rfl, fin (common_nil (.inl hi))⟩

theorem w_refWithin (p q : List Int) (hp : p.length ≤ 1000000) : Pure Tryz.prog 68 [pathV p, pathV q] (fun x => x = .bool (within p q)) := by
  refine pure_wk (pure_fn 100 Tryz.func68 rfl rfl rfl fun B => ?_)
  show CallThen _ _ _ _ _ _
  refine call_pure (w_refCommon p q hp) rfl ?_
  rintro x rfl
  refine ⟨trivial, rfl, rfl, rfl, leaf_b ?_⟩
  rw [← common_within]
  simp
  omega

theorem w_refSame (p q : List Int) (hp : p.length ≤ 1000000) : Pure Tryz.prog 40 [pathV p, pathV q] (fun x => x = .bool (decide (p = q))) := by
  refine pure_wk (pure_fn 100 Tryz.func40 rfl rfl rfl fun B => ?_)
  refine ⟨fun g1 => go 100 ?_, fun g1 => go 100 ?_⟩
  · have g1 : p.length = q.length := by have := eq_of g1; simp at this; omega
    show CallThen _ _ _ _ _ _
    refine call_pure (w_refCommon p q hp) rfl ?_
    rintro x rfl
    refine ⟨trivial, rfl, rfl, rfl, leaf_b ?_⟩
    rw [← common_same p q g1]
    simp
    omega
  · have g1 := ne_of g1
    exact ⟨trivial, rfl, rfl, rfl, leaf_ff (decide_eq_false fun e => g1 (by rw [e]))⟩

theorem w_refCopied (p : List Int) (h : p.length ≤ 1000000) : Pure Tryz.prog 34 [pathV p] (fun x => x = pathV p) := by
  refine pure_fn 100 Tryz.func34 rfl rfl rfl fun B => ?_
  refine ⟨Nat.le_trans (Nat.mul_le_mul_right _ (show (p.map intV).length ≤ 1000000 by simpa using h)) (by decide), ?_⟩
  exact ⟨trivial, rfl, rfl, rfl, rfl, rfl, rfl⟩

theorem w_pathSame (p q : List Int) (hp : p.length ≤ 1000000) : Pure Tryz.prog 87 [pathV p, pathV q] (fun x => x = .bool (decide (p = q))) := by
  refine pure_fn 100 Tryz.func87 rfl rfl rfl fun B => ?_
  show CallThen _ _ _ _ _ _
  refine call_pure (w_EqualInt p q hp) rfl ?_
  rintro x rfl
  exact ⟨trivial, rfl, rfl, rfl, rfl⟩

theorem w_pathWithin (p q : List Int) (hp : p.length ≤ 1000000) : Pure Tryz.prog 85 [pathV p, pathV q] (fun x => x = .bool (within p q)) := by
  refine pure_wk (pure_fn 100 Tryz.func85 rfl rfl rfl fun B => ?_)
  refine ⟨fun g1 => go 100 ?_, fun g1 => go 100 ?_⟩
  · have g1 : p.length ≤ q.length := by have := le_of g1; simp at this; omega
    refine ⟨by decide, by simp, by simpa using g1, ?_⟩
    show CallThen _ _ _ _ _ _
    have e : V.sl 1 ((((q.map intV).drop (Int.toNat 0)).take (((p.map intV).length : Int).toNat - Int.toNat 0))) = pathV (q.take p.length) := by
      unfold pathV
      simp
    refine call_pure (Q := fun x => x = .bool (decide (p = q.take p.length))) (by have h := w_EqualInt p (q.take p.length) hp; unfold pathV at e; rw [← e] at h; exact h) rfl ?_
    rintro x rfl
    exact ⟨trivial, rfl, rfl, rfl, leaf_b rfl⟩
  · have g1 : q.length < p.length := by have := not_le_of g1; simp at this; omega
    refine ⟨trivial, rfl, rfl, rfl, leaf_ff ?_⟩
    cases h : within p q with
    | false => rfl
    | true => have := within_len h; omega

theorem pure_clone {P : Program} {f : FuncId} {sz : Nat} {xs : List V} (h : Fun P f [] [.sl sz xs] (CloneQ sz xs)) : Pure P f [.sl sz xs] (fun x => x = .sl sz xs) := by
  refine pure_wk (pure_of_fun (h.mono fun x T hx => ?_))
  rcases hx with ⟨e, rfl, rfl⟩ | ⟨rfl, rfl⟩
  · subst e
    exact ⟨rfl, _, Wk.nil sz, rfl, rfl⟩
  · exact ⟨rfl, rfl, rfl, _, Wk.refl _, rfl, rfl⟩

/-- The path of the parent, of one that is not the root's; where in it. -/
theorem w_Parent (p : List Int) (hp : p.length ≤ 1000000) (hne : p ≠ []) : Pure Tryz.prog 55 [pathV p] (fun x => x = .tup [pathV p.dropLast, intV (p.getLast hne), .tt]) := by
  have hpos : 0 < p.length := List.length_pos_iff.2 hne
  refine pure_fn 100 Tryz.func55 rfl rfl rfl fun B => ?_
  refine ⟨fun g1 => go 100 ?_, fun g1 => go 100 ?_⟩
  · have := eq_of g1
    simp at this
    exact absurd this hne
  refine ⟨by constructor <;> simp <;> omega, ?_⟩
  show Goes _ _ _ _
  have e : V.sl 1 ((((p.map intV).drop (Int.toNat 0)).take ((((p.map intV).length : Int) - 1).toNat - Int.toNat 0))) = .sl 1 (p.dropLast.map intV) := by
    rw [List.dropLast_eq_take, List.map_take]
    congr 2
    simp
  have hx : (p.map intV)[(((p.map intV).length : Int) - 1).toNat]? = some (intV (p.getLast hne)) := by
    rw [List.getElem?_map, List.getLast_eq_getElem]
    have : (((p.map intV).length : Int) - 1).toNat = p.length - 1 := by simp
    rw [this, List.getElem?_eq_getElem (by omega)]
    rfl
  refine goes_drawX [] 100 ⟨by decide, by simp; omega, by omega, ?_⟩
  have h := pure_clone (w_CloneInt (p.dropLast.map intV) (by rw [List.length_map, List.length_dropLast]; omega))
  rw [← e] at h
  refine ⟨_, h, rfl, ?_⟩
  refine ⟨by simp only [List.length_map]; omega, _, hx, ?_⟩
  refine ⟨by kernel_rfl, ?_⟩
  refine ⟨trivial, rfl, rfl, rfl, ?_⟩
  rw [e]
  rfl
end Bow
/- W17: the node at a path. -/
namespace Bow
open Go Go.Proofs

theorem subs_le_weights : ∀ l : List Tree, l.length ≤ weights l
  | [] => by rw [weights]; simp
  | s :: l => by
    have := subs_le_weights l
    have := weight_eq s
    rw [weights_cons, List.length_cons]
    omega
theorem subs_le_weight (t : Tree) : t.subs.length < t.weight := by have := weight_eq t; have := subs_le_weights t.subs; omega
theorem subV_at {t s : Tree} {i : Nat} (h : t.subs[i]? = some s) : t.subV[i]? = some (nodeV s) := by rw [subV_eq, List.getElem?_map, h]; rfl
theorem subV_len (t : Tree) : t.subV.length = t.subs.length := by rw [subV_eq, List.length_map]
theorem wk_at0 : Wk (.tup [zeroV .nilsl, .ff]) (atV (zeroT []) none) := Wk.tup ⟨wk_zero (ss := []) (Wk.nil 6), .refl _, trivial⟩

set_option maxRecDepth 100000 in
theorem w_At (t : Tree) (p : List Int) (hp : p.length ≤ 1000000) : Pure Tryz.prog 61 [nodeV t, pathV p] (fun x => x = atV (zeroT []) (atT t p)) := by
  refine pure_wk (pure_fn 100 Tryz.func61 rfl rfl rfl fun B => ?_)
  show Goes _ _ _ _
  refine goes_iter (ι := Nat × Tree) (fun i => i.1 ≤ p.length ∧ atT i.2 (p.drop i.1) = atT t p) (fun i => p.length - i.1) (fun i => [(10, .int .i64 i.1), (9, .int .i64 (p.map intV).length), (8, pathV p), (2, .ptr (.loc 0) 0), (4, .ptr (.loc 1) 0)]) (fun i => [some (.box (nodeV i.2).cells), some (.box (zeroV .nilsl).cells)]) (0, t) 100 (fun _ => rfl) (fun _ => rfl) ⟨⟨Nat.zero_le _, rfl⟩, ?_, ?_⟩ ?_
  · exact ⟨⟨rfl, rfl⟩, ⟨rfl, rfl⟩, ⟨rfl, rfl⟩, ⟨rfl, rfl⟩, ⟨rfl, rfl⟩, trivial⟩
  · exact ⟨⟨rfl, rfl⟩, ⟨rfl, rfl⟩, trivial⟩
  rintro ⟨i, s⟩ ⟨k1, k2⟩ next
  simp only at k1 k2
  refine ⟨fun hlt => go 100 ?_, fun hge => go 100 ?_⟩
  · have hi : i < p.length := by simpa using hlt
    have hx : (p.map intV)[i]? = some (intV p[i]) := by simp [hi]
    rw [drop_cons hi, atT] at k2
    refine ⟨Int.natCast_nonneg i, _, hx, ?_⟩
    refine ⟨fun g1 => go 100 ?_, fun g1 => go 100 ?_⟩
    · have g1 := lt_of g1
      rw [subT_neg g1] at k2
      exact ⟨trivial, rfl, rfl, rfl, _, wk_at0, rfl, by rw [← k2]⟩
    have g1 := not_lt_of g1
    refine ⟨fun g2 => go 100 ?_, fun g2 => go 100 ?_⟩
    · have g2 := le_of g2
      rw [subV_len] at g2
      rw [subT_big g2] at k2
      exact ⟨trivial, rfl, rfl, rfl, _, wk_at0, rfl, by rw [← k2]⟩
    · have g2 := not_le_of g2
      rw [subV_len] at g2
      obtain ⟨u, hu, hv⟩ := subT_at g1 g2
      rw [hu] at k2
      refine ⟨g1, _, subV_at hv, ?_⟩
      refine ⟨by constructor <;> omega, ?_⟩
      exact next (i + 1, u) _ _ ⟨⟨hi, k2⟩, by simp only; omega, ⟨⟨rfl, rfl⟩, ⟨rfl, rfl⟩, ⟨rfl, rfl⟩, ⟨rfl, rfl⟩, ⟨rfl, rfl⟩, trivial⟩, ⟨⟨rfl, rfl⟩, ⟨rfl, rfl⟩, trivial⟩⟩
  · have hi : p.length ≤ i := by simpa using hge
    rw [List.drop_eq_nil_of_le hi, atT] at k2
    exact ⟨trivial, rfl, rfl, rfl, _, .refl _, rfl, by rw [← k2]; rfl⟩

set_option maxRecDepth 100000 in
theorem w_refAt (t : Tree) (p : List Int) (hp : p.length ≤ 1000000) : Pure Tryz.prog 35 [nodeV t, pathV p] (fun x => x = atV (zeroT []) (atT t p)) := by
  refine pure_wk (pure_fn 100 Tryz.func35 rfl rfl rfl fun B => ?_)
  show Goes _ _ _ _
  refine goes_iter (ι := Nat × Tree) (fun i => i.1 ≤ p.length ∧ atT i.2 (p.drop i.1) = atT t p) (fun i => p.length - i.1) (fun i => [(6, .int .i64 i.1), (1, pathV p), (2, .ptr (.loc 0) 0), (4, .ptr (.loc 1) 0)]) (fun i => [some (.box (nodeV i.2).cells), some (.box (zeroV .nilsl).cells)]) (0, t) 100 (fun _ => rfl) (fun _ => rfl) ⟨⟨Nat.zero_le _, rfl⟩, ?_, ?_⟩ ?_
  · exact ⟨⟨rfl, rfl⟩, ⟨rfl, rfl⟩, ⟨rfl, rfl⟩, ⟨rfl, rfl⟩, trivial⟩
  · exact ⟨⟨rfl, rfl⟩, ⟨rfl, rfl⟩, trivial⟩
  rintro ⟨i, s⟩ ⟨k1, k2⟩ next
  simp only at k1 k2
  refine ⟨fun hlt => go 100 ?_, fun hge => go 100 ?_⟩
  · have hi : i < p.length := by simpa using hlt
    have hx : (p.map intV)[i]? = some (intV p[i]) := by simp [hi]
    rw [drop_cons hi, atT] at k2
    show Goes _ _ _ _
    refine goes_drawX [] 100 ⟨Int.natCast_nonneg i, _, hx, ⟨fun g1 => ?_, fun g1 => ?_⟩⟩
    · have g1 := lt_of g1
      rw [subT_neg g1] at k2
      refine ⟨by kernel_rfl, ?_⟩
      exact ⟨trivial, rfl, rfl, rfl, _, wk_at0, rfl, by rw [← k2]⟩
    have g1 := not_lt_of g1
    refine ⟨Int.natCast_nonneg i, _, hx, ?_⟩
    refine ⟨by kernel_rfl, ?_⟩
    refine ⟨fun g2 => go 100 ?_, fun g2 => go 100 ?_⟩
    · have g2 := le_of g2
      rw [subV_len] at g2
      rw [subT_big g2] at k2
      exact ⟨trivial, rfl, rfl, rfl, _, wk_at0, rfl, by rw [← k2]⟩
    · have g2 := not_le_of g2
      rw [subV_len] at g2
      obtain ⟨u, hu, hv⟩ := subT_at g1 g2
      rw [hu] at k2
      show Goes _ _ _ _
      refine goes_drawX [] 100 ⟨Int.natCast_nonneg i, _, hx, g1, _, subV_at hv, ?_⟩
      refine ⟨by kernel_rfl, ?_⟩
      refine ⟨by constructor <;> omega, ?_⟩
      exact next (i + 1, u) _ _ ⟨⟨hi, k2⟩, by simp only; omega, ⟨⟨rfl, rfl⟩, ⟨rfl, rfl⟩, ⟨rfl, rfl⟩, ⟨rfl, rfl⟩, trivial⟩, ⟨⟨rfl, rfl⟩, ⟨rfl, rfl⟩, trivial⟩⟩
  · have hi : p.length ≤ i := by simpa using hge
    rw [List.drop_eq_nil_of_le hi, atT] at k2
    exact ⟨trivial, rfl, rfl, rfl, _, .refl _, rfl, by rw [← k2]; rfl⟩

theorem w_into (t : Tree) (at_ : Int) : Pure Tryz.prog 84 [nodeV t, intV at_] (fun x => x = .int .i64 (intoE t at_)) := by
  refine pure_fn 100 Tryz.func84 rfl rfl rfl fun B => ?_
  refine ⟨fun g1 => go 100 ?_, fun g1 => go 100 ?_⟩
  · exact ⟨trivial, rfl, rfl, rfl, by unfold intoE; rw [g1]; rfl⟩
  refine ⟨fun g2 => go 100 ?_, fun g2 => go 100 ?_⟩
  · rw [subV_len] at g2
    exact ⟨trivial, rfl, rfl, rfl, by unfold intoE; rw [g1, g2]; rfl⟩
  · rw [subV_len] at g2
    exact ⟨trivial, rfl, rfl, rfl, by unfold intoE; rw [g1, g2]; rfl⟩
theorem w_refInto (t : Tree) (at_ : Int) : Pure Tryz.prog 67 [nodeV t, intV at_] (fun x => x = .int .i64 (intoE t at_)) := by
  refine pure_fn 100 Tryz.func67 rfl rfl rfl fun B => ?_
  refine ⟨fun g1 => go 100 ?_, fun g1 => go 100 ?_⟩
  · exact ⟨trivial, rfl, rfl, rfl, by unfold intoE; rw [g1]; rfl⟩
  refine ⟨fun g2 => go 100 ?_, fun g2 => go 100 ?_⟩
  · rw [subV_len] at g2
    exact ⟨trivial, rfl, rfl, rfl, by unfold intoE; rw [g1, g2]; rfl⟩
  · rw [subV_len] at g2
    exact ⟨trivial, rfl, rfl, rfl, by unfold intoE; rw [g1, g2]; rfl⟩
end Bow
/- W18: changes of the node at a path: printed by gen_w18.py. -/
namespace Bow
open Go Go.Proofs

theorem subV_set (t : Tree) (i : Nat) (s : Tree) : t.subV.set i (nodeV s) = (t.subs.set i s).map nodeV := by rw [subV_eq, List.map_set]

set_option maxRecDepth 100000 in
theorem w_change1 (g : FuncId) (c1 : List V) (F : Tree → Tree) (y : Tree)
    (hg : Fun Tryz.prog g [some (.box (nodeV y).cells)] [.ptr (.loc 0) 0, .iptr c1 0] (fun _ T => T = [some (.box (nodeV (F y)).cells)])) :
    ∀ (p : List Int) (t : Tree), p.length ≤ 1000000 → t.weight ≤ 1000000 → atT t p = some y → Pure Tryz.prog 99 [nodeV t, pathV p, .fn (.func g) [] [.iptr c1 0]] (fun x => x = nodeV (changeT F t p))
  | [], t, hp, ht, hy => by
    rw [atT] at hy
    injection hy with hy
    subst hy
    refine pure_fn 100 Tryz.func99 rfl rfl rfl fun B => ?_
    refine ⟨fun g1 => go 100 ?_, fun g1 => ?_⟩
    case refine_2 => exact absurd rfl (ne_of g1)
    show CallThen _ _ _ _ _ _
    refine call_sub [0] hg rfl rfl ⟨⟨rfl, rfl⟩, trivial⟩ rfl rfl rfl ?_
    rintro x T1 rfl
    refine ⟨rfl, ?_⟩
    exact ⟨trivial, rfl, rfl, rfl, rfl⟩
  | i :: p, t, hp, ht, hy => by
    rw [atT] at hy
    cases hs : subT t i with
    | none => rw [hs] at hy; cases hy
    | some s =>
    rw [hs] at hy
    simp only at hy
    obtain ⟨hi0, hat, hmem⟩ := subT_some hs
    have hlt := lt_of_get hat
    have hw := weight_sub hmem
    have hsl := subs_le_weight t
    have ih := w_change1 g c1 F y hg p s (by simp at hp; omega) (by omega) hy
    refine pure_fn 100 Tryz.func99 rfl rfl rfl fun B => ?_
    refine ⟨fun g1 => ?_, fun g1 => go 100 ?_⟩
    · have := eq_of g1
      simp at this
      omega
    show CallThen _ _ _ _ _ _
    refine call_sub [] (w_CloneNode t.subV (by rw [subV_len]; omega)) rfl rfl trivial rfl rfl rfl ?_
    rintro x T1 (⟨e, _⟩ | ⟨rfl, rfl⟩)
    · have := congrArg List.length e
      rw [subV_len, List.length_nil] at this
      omega
    refine ⟨rfl, ?_⟩
    show Goes _ _ _ _
    have hx : t.subV[0 + i.toNat]? = some (nodeV s) := by rw [Nat.zero_add]; exact subV_at hat
    have hil : i < (t.subV.length : Int) := by rw [subV_len]; omega
    have e : V.sl 1 ((((i :: p).map intV).drop (Int.toNat 1)).take (((((i :: p).map intV).length : Nat) : Int).toNat - Int.toNat 1)) = pathV p := by
      unfold pathV
      rw [List.take_of_length_le (by simp)]
      rfl
    refine goes_drawX [] 100 ⟨by decide, _, rfl, by decide, _, rfl, rfl, hi0, hil, rfl, _, hx, by decide, by simp; omega, by omega, nodeV (changeT F s p), ?_, rfl, rfl, hi0, hil, rfl, _, hx, ?_⟩
    · unfold pathV at e ih
      rw [e]
      exact ih
    refine ⟨by kernel_rfl, ?_⟩
    refine ⟨trivial, rfl, rfl, rfl, (by simp), rfl, ?_⟩
    rw [changeT, hs]
    simp only
    rw [withSubs_V, ← subV_set, Nat.zero_add]
    rfl

set_option maxRecDepth 100000 in
theorem w_change2 (g : FuncId) (c1 c2 : List V) (F : Tree → Tree) (y : Tree)
    (hg : Fun Tryz.prog g [some (.box (nodeV y).cells)] [.ptr (.loc 0) 0, .iptr c1 0, .iptr c2 0] (fun _ T => T = [some (.box (nodeV (F y)).cells)])) :
    ∀ (p : List Int) (t : Tree), p.length ≤ 1000000 → t.weight ≤ 1000000 → atT t p = some y → Pure Tryz.prog 99 [nodeV t, pathV p, .fn (.func g) [] [.iptr c1 0, .iptr c2 0]] (fun x => x = nodeV (changeT F t p))
  | [], t, hp, ht, hy => by
    rw [atT] at hy
    injection hy with hy
    subst hy
    refine pure_fn 100 Tryz.func99 rfl rfl rfl fun B => ?_
    refine ⟨fun g1 => go 100 ?_, fun g1 => ?_⟩
    case refine_2 => exact absurd rfl (ne_of g1)
    show CallThen _ _ _ _ _ _
    refine call_sub [0] hg rfl rfl ⟨⟨rfl, rfl⟩, trivial⟩ rfl rfl rfl ?_
    rintro x T1 rfl
    refine ⟨rfl, ?_⟩
    exact ⟨trivial, rfl, rfl, rfl, rfl⟩
  | i :: p, t, hp, ht, hy => by
    rw [atT] at hy
    cases hs : subT t i with
    | none => rw [hs] at hy; cases hy
    | some s =>
    rw [hs] at hy
    simp only at hy
    obtain ⟨hi0, hat, hmem⟩ := subT_some hs
    have hlt := lt_of_get hat
    have hw := weight_sub hmem
    have hsl := subs_le_weight t
    have ih := w_change2 g c1 c2 F y hg p s (by simp at hp; omega) (by omega) hy
    refine pure_fn 100 Tryz.func99 rfl rfl rfl fun B => ?_
    refine ⟨fun g1 => ?_, fun g1 => go 100 ?_⟩
    · have := eq_of g1
      simp at this
      omega
    show CallThen _ _ _ _ _ _
    refine call_sub [] (w_CloneNode t.subV (by rw [subV_len]; omega)) rfl rfl trivial rfl rfl rfl ?_
    rintro x T1 (⟨e, _⟩ | ⟨rfl, rfl⟩)
    · have := congrArg List.length e
      rw [subV_len, List.length_nil] at this
      omega
    refine ⟨rfl, ?_⟩
    show Goes _ _ _ _
    have hx : t.subV[0 + i.toNat]? = some (nodeV s) := by rw [Nat.zero_add]; exact subV_at hat
    have hil : i < (t.subV.length : Int) := by rw [subV_len]; omega
    have e : V.sl 1 ((((i :: p).map intV).drop (Int.toNat 1)).take (((((i :: p).map intV).length : Nat) : Int).toNat - Int.toNat 1)) = pathV p := by
      unfold pathV
      rw [List.take_of_length_le (by simp)]
      rfl
    refine goes_drawX [] 100 ⟨by decide, _, rfl, by decide, _, rfl, rfl, hi0, hil, rfl, _, hx, by decide, by simp; omega, by omega, nodeV (changeT F s p), ?_, rfl, rfl, hi0, hil, rfl, _, hx, ?_⟩
    · unfold pathV at e ih
      rw [e]
      exact ih
    refine ⟨by kernel_rfl, ?_⟩
    refine ⟨trivial, rfl, rfl, rfl, (by simp), rfl, ?_⟩
    rw [changeT, hs]
    simp only
    rw [withSubs_V, ← subV_set, Nat.zero_add]
    rfl

end Bow
/- W19: nodes put in and taken out. -/
namespace Bow
open Go Go.Proofs

set_option maxRecDepth 100000 in
theorem w_insert1 (x y : Tree) (n : Int) (h0 : 0 ≤ n) (h1 : n ≤ y.subs.length) (hl : y.subs.length ≤ 900000) : Fun Tryz.prog 114 [some (.box (nodeV y).cells)] [.ptr (.loc 0) 0, .iptr [intV n] 0, .iptr (nodeV x).cells 0] (fun _ T => T = [some (.box (nodeV (insT n x y)).cells)]) := by
  refine fun_keep 1 rfl (fun_fn 100 Tryz.func114 rfl rfl rfl fun imps B hi => ?_)
  obtain ⟨r, rfl⟩ := List.length_eq_one_iff.1 hi
  show Goes _ _ _ _
  have hnl : n ≤ (y.subV.length : Int) := by rw [subV_len]; exact h1
  have hc := w_ConcatNode [(y.subV.drop (Int.toNat 0)).take (n.toNat - Int.toNat 0), [nodeV x], (y.subV.drop n.toNat).take ((y.subV.length : Int).toNat - n.toNat)] (by
    simp [subV_len]; omega) (by simp)
  refine goes_drawX [] 100 ⟨by decide, h0, hnl, ?_⟩
  refine ⟨by kernel_rfl, ⟨rfl, trivial⟩, rfl, h0, hnl, Int.le_refl _, ?_⟩
  refine ⟨by kernel_rfl, rfl, rfl, ⟨rfl, rfl, rfl, trivial⟩, rfl, rfl, rfl, _, hc, rfl, ?_⟩
  refine ⟨by kernel_rfl, ?_⟩
  refine ⟨trivial, rfl, rfl, [some (.box [.int .u64 y.id, .bool y.leaf, .str y.label, .sl 2 (y.attrs.map attrV), .str y.text, .sl 6 [(y.subV.drop (Int.toNat 0)).take (n.toNat - Int.toNat 0), [nodeV x], (y.subV.drop n.toNat).take ((y.subV.length : Int).toNat - n.toNat)].flatten])], rfl, rfl, ⟨⟨rfl, rfl⟩, trivial⟩, ?_⟩
  have e : [(y.subV.drop (Int.toNat 0)).take (n.toNat - Int.toNat 0), [nodeV x], (y.subV.drop n.toNat).take ((y.subV.length : Int).toNat - n.toNat)].flatten = (y.subs.take n.toNat ++ x :: y.subs.drop n.toNat).map nodeV := by
    rw [subV_eq]
    simp [List.map_take, List.map_drop]
    rw [List.take_of_length_le (by simp)]
  rw [e, insT, withSubs_V]
  rfl

set_option maxRecDepth 100000 in
theorem w_remove1 (y : Tree) (n : Int) (h0 : 0 ≤ n) (h1 : n < y.subs.length) (hl : y.subs.length ≤ 900000) : Fun Tryz.prog 116 [some (.box (nodeV y).cells)] [.ptr (.loc 0) 0, .iptr [intV n] 0] (fun _ T => T = [some (.box (nodeV (delT n y)).cells)]) := by
  refine fun_keep 1 rfl (fun_fn 100 Tryz.func116 rfl rfl rfl fun imps B hi => ?_)
  obtain ⟨r, rfl⟩ := List.length_eq_one_iff.1 hi
  show Goes _ _ _ _
  have hnl : n ≤ (y.subV.length : Int) := by rw [subV_len]; omega
  have hnl' : n + 1 ≤ (y.subV.length : Int) := by rw [subV_len]; omega
  have hc := w_ConcatNode [(y.subV.drop (Int.toNat 0)).take (n.toNat - Int.toNat 0), (y.subV.drop (n + 1).toNat).take ((y.subV.length : Int).toNat - (n + 1).toNat)] (by
    simp [subV_len]; omega) (by simp)
  refine goes_drawX [] 100 ⟨by decide, h0, hnl, ?_⟩
  refine ⟨⟨by omega, by omega⟩, by omega, hnl', Int.le_refl _, ?_⟩
  refine ⟨by kernel_rfl, ⟨rfl, rfl, trivial⟩, rfl, rfl, rfl, _, hc, rfl, ?_⟩
  refine ⟨by kernel_rfl, ?_⟩
  refine ⟨trivial, rfl, rfl, [some (.box [.int .u64 y.id, .bool y.leaf, .str y.label, .sl 2 (y.attrs.map attrV), .str y.text, .sl 6 [(y.subV.drop (Int.toNat 0)).take (n.toNat - Int.toNat 0), (y.subV.drop (n + 1).toNat).take ((y.subV.length : Int).toNat - (n + 1).toNat)].flatten])], rfl, rfl, ⟨⟨rfl, rfl⟩, trivial⟩, ?_⟩
  have e : [(y.subV.drop (Int.toNat 0)).take (n.toNat - Int.toNat 0), (y.subV.drop (n + 1).toNat).take ((y.subV.length : Int).toNat - (n + 1).toNat)].flatten = (y.subs.take n.toNat ++ y.subs.drop (n.toNat + 1)).map nodeV := by
    have e1 : (n + 1).toNat = n.toNat + 1 := by omega
    rw [subV_eq, e1]
    simp [List.map_take, List.map_drop]
    rw [List.take_of_length_le (by simp)]
  rw [e, delT, withSubs_V]
  rfl

set_option maxRecDepth 100000 in
theorem w_insert (t x y : Tree) (p : List Int) (n : Int) (hp : p.length ≤ 1000000) (ht : t.weight ≤ 900000) (hy : atT t p = some y) (h0 : 0 ≤ n) (h1 : n ≤ y.subs.length) :
    Pure Tryz.prog 96 [nodeV t, pathV p, intV n, nodeV x] (fun z => z = nodeV (changeT (insT n x) t p)) := by
  have hyw := atT_weight hy
  have hys := subs_le_weight y
  refine pure_fn 100 Tryz.func96 rfl rfl rfl fun B => ?_
  show CallThen _ _ _ _ _ _
  refine call_freeze 1 rfl rfl ?_
  refine call_freeze 2 rfl rfl ?_
  refine call_pure (w_change2 114 [intV n] (nodeV x).cells (insT n x) y (w_insert1 x y n h0 h1 (by omega)) p t hp (by omega) hy) rfl ?_
  rintro z rfl
  exact ⟨trivial, rfl, rfl, rfl, rfl⟩

set_option maxRecDepth 100000 in
theorem w_remove (t y : Tree) (p : List Int) (hp : p.length ≤ 1000000) (hne : p ≠ []) (ht : t.weight ≤ 900000) (hy : atT t p.dropLast = some y) (h0 : 0 ≤ p.getLast hne) (h1 : p.getLast hne < y.subs.length) :
    Pure Tryz.prog 97 [nodeV t, pathV p] (fun z => z = nodeV (changeT (delT (p.getLast hne)) t p.dropLast)) := by
  have hyw := atT_weight hy
  have hys := subs_le_weight y
  refine pure_fn 100 Tryz.func97 rfl rfl rfl fun B => ?_
  show CallThen _ _ _ _ _ _
  refine call_pure (w_Parent p hp hne) rfl ?_
  rintro z rfl
  show CallThen _ _ _ _ _ _
  refine call_freeze 2 rfl rfl ?_
  refine call_pure (w_change1 116 [intV (p.getLast hne)] (delT (p.getLast hne)) y (w_remove1 y _ h0 h1 (by omega)) p.dropLast t (by simp; omega) (by omega) hy) rfl ?_
  rintro z rfl
  exact ⟨trivial, rfl, rfl, rfl, rfl⟩
end Bow
/- W20: where a moved node lands. -/
namespace Bow
open Go Go.Proofs

def landV (r : List Int × Int) : V := .tup [pathV r.1, intV r.2]

set_option maxRecDepth 100000 in
theorem w_landing (p to : List Int) (n : Int) (hp : p.length ≤ 1000000) (ht : to.length ≤ 1000000) (hne : p ≠ []) (hn : inI n) (hr : ∀ x ∈ to, inI x) (h0 : 0 ≤ p.getLast hne) :
    Pure Tryz.prog 98 [pathV p, pathV to, intV n] (fun z => z = landV (landT p.dropLast (p.getLast hne) to n)) := by
  obtain ⟨hn1, hn2⟩ := hn
  have hq : p.dropLast.length ≤ 1000000 := by simp; omega
  refine pure_fn 100 Tryz.func98 rfl rfl rfl fun B => ?_
  show CallThen _ _ _ _ _ _
  refine call_pure (w_Parent p hp hne) rfl ?_
  rintro z rfl
  show CallThen _ _ _ _ _ _
  refine call_pure (w_pathSame p.dropLast to hq) rfl ?_
  rintro z rfl
  have other : (decide (p.dropLast = to) && decide (p.getLast hne < n)) = false → landT p.dropLast (p.getLast hne) to n = bif within p.dropLast to && (decide (p.dropLast.length < to.length) && decide (p.getLast hne < to.getD p.dropLast.length 0)) then (to.set p.dropLast.length (to.getD p.dropLast.length 0 - 1), n) else (to, n) := fun h => by
    unfold landT
    rw [h]
    rfl
  have hlen : ((p.dropLast.map intV).length : Int) = (p.dropLast.length : Int) := by simp
  refine ⟨fun g1 => go 100 ⟨fun g2 => go 100 ?_, fun g2 => ?_⟩, fun g1 => ?_⟩
  · have g2' := lt_of g2
    refine ⟨by constructor <;> omega, ?_⟩
    refine ⟨trivial, rfl, rfl, rfl, ?_⟩
    unfold landT
    rw [g1, g2]
    rfl
  case refine_2 =>
    replace other := other (by rw [g1, g2]; rfl)
    refine go 100 ?_
    show CallThen _ _ _ _ _ _
    refine call_pure (w_pathWithin p.dropLast to hq) rfl ?_
    rintro z rfl
    refine ⟨fun g3 => go 100 ⟨fun g4 => go 100 ?_, fun g4 => go 100 ?_⟩, fun g3 => go 100 ?_⟩
    · have g4' := lt_of g4
      rw [hlen] at g4'
      simp only [List.length_map] at g4'
      have g4l : p.dropLast.length < to.length := by omega
      have hx : (to.map intV)[(((p.dropLast.map intV).length : Nat) : Int).toNat]? = some (intV (to.getD p.dropLast.length 0)) := by
        have e : (((p.dropLast.map intV).length : Nat) : Int).toNat = p.dropLast.length := by simp
        rw [e, List.getElem?_map, List.getElem?_eq_getElem g4l, List.getD_eq_getElem?_getD, List.getElem?_eq_getElem g4l]
        rfl
      refine ⟨Int.natCast_nonneg _, _, hx, ?_⟩
      refine ⟨fun g5 => go 100 ?_, fun g5 => go 100 ?_⟩
      · show CallThen _ _ _ _ _ _
        refine call_sub [] (w_CloneInt (to.map intV) (by simpa using ht)) rfl rfl trivial rfl rfl rfl ?_
        rintro z T1 (⟨e, _⟩ | ⟨rfl, rfl⟩)
        · have := congrArg List.length e
          simp at this
          subst this
          simp at g4l
        refine ⟨rfl, ?_⟩
        have hx' : (to.map intV)[0 + (((p.dropLast.map intV).length : Nat) : Int).toNat]? = some (intV (to.getD p.dropLast.length 0)) := by rw [Nat.zero_add]; exact hx
        have hlt : (((p.dropLast.map intV).length : Nat) : Int) < ((to.map intV).length : Nat) := by simp; simp at g4l; omega
        have hr' := hr (to.getD p.dropLast.length 0) (by rw [List.getD_eq_getElem?_getD, List.getElem?_eq_getElem g4l]; exact List.getElem_mem g4l)
        have g5' := lt_of g5
        obtain ⟨r1, r2⟩ := hr'
        refine ⟨rfl, Int.natCast_nonneg _, hlt, rfl, _, hx', ⟨by omega, by omega⟩, rfl, Int.natCast_nonneg _, hlt, rfl, _, hx', ?_⟩
        refine ⟨trivial, rfl, rfl, rfl, by simp, rfl, ?_⟩
        rw [other]
        rw [g3, decide_eq_true g4l, g5]
        have e : 0 + (((p.dropLast.map intV).length : Nat) : Int).toNat = p.dropLast.length := by simp
        show V.tup [V.sl 1 (((to.map intV)).set _ (intV (to.getD p.dropLast.length 0 - 1))), intV n] = landV (to.set p.dropLast.length (to.getD p.dropLast.length 0 - 1), n)
        rw [e, ← List.map_set]
        rfl
      · refine ⟨trivial, rfl, rfl, rfl, ?_⟩
        rw [other, g3, decide_eq_true g4l, g5]
        rfl
    · refine ⟨trivial, rfl, rfl, rfl, ?_⟩
      have g4' := not_lt_of g4
      rw [hlen] at g4'
      simp only [List.length_map] at g4'
      have g4l : ¬ p.dropLast.length < to.length := by omega
      rw [other, g3, decide_eq_false g4l]
      rfl
    · refine ⟨trivial, rfl, rfl, rfl, ?_⟩
      rw [other, g3]
      rfl
  case refine_3 =>
    replace other := other (by rw [g1]; rfl)
    refine go 100 ?_
    show CallThen _ _ _ _ _ _
    refine call_pure (w_pathWithin p.dropLast to hq) rfl ?_
    rintro z rfl
    refine ⟨fun g3 => go 100 ⟨fun g4 => go 100 ?_, fun g4 => go 100 ?_⟩, fun g3 => go 100 ?_⟩
    · have g4' := lt_of g4
      rw [hlen] at g4'
      simp only [List.length_map] at g4'
      have g4l : p.dropLast.length < to.length := by omega
      have hx : (to.map intV)[(((p.dropLast.map intV).length : Nat) : Int).toNat]? = some (intV (to.getD p.dropLast.length 0)) := by
        have e : (((p.dropLast.map intV).length : Nat) : Int).toNat = p.dropLast.length := by simp
        rw [e, List.getElem?_map, List.getElem?_eq_getElem g4l, List.getD_eq_getElem?_getD, List.getElem?_eq_getElem g4l]
        rfl
      refine ⟨Int.natCast_nonneg _, _, hx, ?_⟩
      refine ⟨fun g5 => go 100 ?_, fun g5 => go 100 ?_⟩
      · show CallThen _ _ _ _ _ _
        refine call_sub [] (w_CloneInt (to.map intV) (by simpa using ht)) rfl rfl trivial rfl rfl rfl ?_
        rintro z T1 (⟨e, _⟩ | ⟨rfl, rfl⟩)
        · have := congrArg List.length e
          simp at this
          subst this
          simp at g4l
        refine ⟨rfl, ?_⟩
        have hx' : (to.map intV)[0 + (((p.dropLast.map intV).length : Nat) : Int).toNat]? = some (intV (to.getD p.dropLast.length 0)) := by rw [Nat.zero_add]; exact hx
        have hlt : (((p.dropLast.map intV).length : Nat) : Int) < ((to.map intV).length : Nat) := by simp; simp at g4l; omega
        have hr' := hr (to.getD p.dropLast.length 0) (by rw [List.getD_eq_getElem?_getD, List.getElem?_eq_getElem g4l]; exact List.getElem_mem g4l)
        have g5' := lt_of g5
        obtain ⟨r1, r2⟩ := hr'
        refine ⟨rfl, Int.natCast_nonneg _, hlt, rfl, _, hx', ⟨by omega, by omega⟩, rfl, Int.natCast_nonneg _, hlt, rfl, _, hx', ?_⟩
        refine ⟨trivial, rfl, rfl, rfl, by simp, rfl, ?_⟩
        rw [other]
        rw [g3, decide_eq_true g4l, g5]
        have e : 0 + (((p.dropLast.map intV).length : Nat) : Int).toNat = p.dropLast.length := by simp
        show V.tup [V.sl 1 (((to.map intV)).set _ (intV (to.getD p.dropLast.length 0 - 1))), intV n] = landV (to.set p.dropLast.length (to.getD p.dropLast.length 0 - 1), n)
        rw [e, ← List.map_set]
        rfl
      · refine ⟨trivial, rfl, rfl, rfl, ?_⟩
        rw [other, g3, decide_eq_true g4l, g5]
        rfl
    · refine ⟨trivial, rfl, rfl, rfl, ?_⟩
      have g4' := not_lt_of g4
      rw [hlen] at g4'
      simp only [List.length_map] at g4'
      have g4l : ¬ p.dropLast.length < to.length := by omega
      rw [other, g3, decide_eq_false g4l]
      rfl
    · refine ⟨trivial, rfl, rfl, rfl, ?_⟩
      rw [other, g3]
      rfl
end Bow
/- W21: right trees. -/
namespace Bow
open Go Go.Proofs

set_option maxRecDepth 100000 in
theorem w_rightN (t : Tree) (h : t.weight ≤ 1000000) : Pure Tryz.prog 80 [nodeV t] (fun x => x = .bool (rightN t)) := by
  have hw := weight_eq t
  refine pure_wk (pure_fn 300 Tryz.func80 rfl rfl rfl fun B => ?_)
  repeat' first
    | (refine ⟨fun _ => go 300 ?_, fun _ => go 300 ?_⟩)
    | (refine ⟨trivial, rfl, rfl, rfl, leaf_ff ?_⟩)
    | (show Goes _ _ _ _
       suffices hr : rightN t = attrsOk none t.attrs by
         refine goes_iter (ι := Nat) (fun i => i ≤ t.attrs.length ∧ attrsOk (prevK t.attrs i) (t.attrs.drop i) = rightN t) (fun i => t.attrs.length - i) (fun i => [(32, .int .i64 i), (31, .int .i64 (t.attrs.map attrV).length), (30, .sl 2 (t.attrs.map attrV)), (1, .ptr (.loc 0) 0)]) (fun i => [some (.box (nodeV t).cells)]) 0 300 (fun _ => rfl) (fun _ => rfl) ⟨⟨Nat.zero_le _, hr.symm⟩, ⟨⟨rfl, rfl⟩, ⟨rfl, rfl⟩, ⟨rfl, rfl⟩, ⟨rfl, rfl⟩, trivial⟩, ⟨⟨rfl, rfl⟩, trivial⟩⟩ ?_
         rintro i ⟨k1, k2⟩ next
         refine ⟨fun hlt => go 300 ?_, fun hge => go 300 ?_⟩
         · have hi : i < t.attrs.length := by simpa using hlt
           have hx : (t.attrs.map attrV)[i]? = some (attrV t.attrs[i]) := by simp [hi]
           rw [attrs_at hi] at k2
           unfold attrOk at k2
           have cont : keyOk t.attrs[i].1 = true → decide ((t.attrs[i].2.length : Int) ≤ 256) = true → ordOk (prevK t.attrs i) t.attrs[i].1 = true → attrsOk (prevK t.attrs (i + 1)) (t.attrs.drop (i + 1)) = rightN t := fun a b c => by rw [a, b, c] at k2; simpa using k2
           have stop1 : keyOk t.attrs[i].1 = false → rightN t = false := fun a => by rw [← k2, a]; rfl
           have stop2 : decide ((t.attrs[i].2.length : Int) ≤ 256) = false → rightN t = false := fun a => by rw [← k2, a]; simp
           have stop3 : ordOk (prevK t.attrs i) t.attrs[i].1 = false → rightN t = false := fun a => by rw [← k2, a]; simp
           refine ⟨Int.natCast_nonneg i, _, hx, ?_⟩
           show Goes _ _ _ _
           refine goes_drawX [] 300 ⟨_, w_Key t.attrs[i].1, rfl, ⟨fun q1 => ?_, fun q1 => ⟨fun q2 => ?_, fun q2 => ⟨fun q3 => ?_, fun q3 => ?_⟩⟩⟩⟩
           · refine ⟨by kernel_rfl, ?_⟩
             exact ⟨trivial, rfl, rfl, rfl, leaf_ff (stop1 (by simpa using q1))⟩
           · refine ⟨by kernel_rfl, ?_⟩
             exact ⟨trivial, rfl, rfl, rfl, leaf_ff (stop2 (by have := lt_of q2; simp; omega))⟩
           · have q3' : 0 < i := by have := lt_of q3; omega
             have hx' : (t.attrs.map attrV)[((i : Int) - 1).toNat]? = some (attrV t.attrs[i - 1]) := by
               have : ((i : Int) - 1).toNat = i - 1 := by omega
               rw [this]
               simp [show i - 1 < t.attrs.length by omega]
             have hp : prevK t.attrs i = some t.attrs[i - 1].1 := by
               obtain ⟨j, rfl⟩ : ∃ j, i = j + 1 := ⟨i - 1, by omega⟩
               rw [prevK, List.getD_eq_getElem?_getD, List.getElem?_eq_getElem (by omega)]
               rfl
             rw [hp] at cont stop3
             refine ⟨⟨by omega, by omega⟩, by omega, _, hx', ?_⟩
             refine ⟨by kernel_rfl, ?_⟩
             refine ⟨fun q4 => go 300 ?_, fun q4 => go 300 ?_⟩
             · exact ⟨trivial, rfl, rfl, rfl, leaf_ff (stop3 (congrArg Bool.not q4))⟩
             · refine ⟨by constructor <;> omega, ?_⟩
               exact next (i + 1) _ _ ⟨⟨hi, cont (by simpa using q1) (by have := not_lt_of q2; simp; omega) (congrArg Bool.not q4)⟩, by omega, ⟨⟨rfl, rfl⟩, ⟨rfl, rfl⟩, ⟨rfl, rfl⟩, ⟨rfl, rfl⟩, trivial⟩, ⟨⟨rfl, rfl⟩, trivial⟩⟩
           · have q3' : i = 0 := by have := not_lt_of q3; omega
             subst q3'
             refine ⟨by kernel_rfl, ?_⟩
             refine ⟨by constructor <;> omega, ?_⟩
             exact next 1 _ _ ⟨⟨hi, cont (by simpa using q1) (by have := not_lt_of q2; simp; omega) rfl⟩, by omega, ⟨⟨rfl, rfl⟩, ⟨rfl, rfl⟩, ⟨rfl, rfl⟩, ⟨rfl, rfl⟩, trivial⟩, ⟨⟨rfl, rfl⟩, trivial⟩⟩
         · have hi : i = t.attrs.length := by have : t.attrs.length ≤ i := by simpa using hge
                                              omega
           subst hi
           rw [List.drop_eq_nil_of_le (Nat.le_refl _), attrsOk] at k2
           exact ⟨trivial, rfl, rfl, rfl, leaf_tt k2.symm⟩)
    | fail
  all_goals (simp_all [rightN, headOk, subV_eq])
def rightUpd (_ : Unit) (p : Int × Tree) : Unit × Option Code := bif rightN p.2 then ((), none) else ((), some .ret)
theorem rightUpd_all : ∀ l : List (Int × Tree), rfold rightUpd () l = bif l.all (fun p => rightN p.2) then ((), none) else ((), some .ret)
  | [] => rfl
  | p :: l => by
    rw [rfold, List.all_cons]
    cases h : rightN p.2 with
    | false => simp [rightUpd, h]
    | true =>
      simp only [rightUpd, h, cond_true, Bool.true_and]
      exact rightUpd_all l

set_option maxRecDepth 100000 in
theorem w_RightT (t : Tree) (h : t.weight ≤ 1000000) : Pure Tryz.prog 58 [nodeV t] (fun x => x = .bool (rightT t)) := by
  have hs := size_le_weight t
  refine pure_wk (pure_fn 100 Tryz.func58 rfl rfl rfl fun B => ?_)
  refine ⟨fun g1 => go 100 ?_, fun g1 => go 100 ?_⟩
  · exact ⟨trivial, rfl, rfl, rfl, leaf_ff (by unfold rightT; rw [g1]; rfl)⟩
  show CallThen _ _ _ _ _ _
  refine call_pure (w_nodes t) rfl ?_
  rintro x rfl
  show Goes _ _ _ _
  refine goes_range (σ := Unit) 100 2 (fun _ => [some (.box (nodeV t).cells), some (.box [.ff])]) rightUpd preV (fun _ l => ∀ p ∈ l, p.2.weight ≤ 1000000) () (t.pre 0) rfl rfl rfl (w_iter t (by omega)) rfl (fun _ => rfl) (fun _ => rfl) (fun _ => rfl) rfl (fun _ => rfl) (fun _ _ h => by cases h) ?_ ?_ ?_
  · exact fun p hp => Nat.le_trans (pre_mem_weight t 0 p hp).1 h
  · intro s a l hI
    refine ⟨fun _ p hp => hI p (List.mem_cons_of_mem _ hp), fun imps B r l h1 h2 => ?_⟩
    have h0 := hI a List.mem_cons_self
    have hr := w_rightN a.2 h0
    show Goes _ _ _ _
    refine goes_beginRound 100 rfl h2 rfl ?_
    show CallThen _ _ _ _ _ _
    refine call_pure hr rfl ?_
    rintro x rfl
    unfold rightUpd
    refine ⟨fun g => go 100 ?_, fun g => go 100 ?_⟩
    · have g : rightN a.2 = false := by simpa using g
      rw [g]
      exact ⟨rfl, rfl, trivial, ⟨rfl, rfl⟩, ⟨rfl, rfl⟩, ⟨rfl, rfl⟩, ⟨rfl, rfl⟩, trivial⟩
    · have g : rightN a.2 = true := by simpa using g
      rw [g]
      exact ⟨rfl, rfl, trivial, ⟨rfl, rfl⟩, ⟨rfl, rfl⟩, ⟨rfl, rfl⟩, ⟨rfl, rfl⟩, trivial⟩
  · rw [rightUpd_all, pre_right]
    cases hr : t.rightA with
    | true => exact ⟨trivial, rfl, rfl, rfl, leaf_tt (by unfold rightT; rw [g1, hr]; rfl)⟩
    | false => exact ⟨trivial, rfl, rfl, rfl, leaf_ff (by unfold rightT; rw [g1, hr]; rfl)⟩
end Bow
/- W22: right trees, in the document's words. -/
namespace Bow
open Go Go.Proofs

theorem rightsA_at {l : List Tree} {i : Nat} (hi : i < l.length) : rightsA (l.drop i) = (l[i].rightA && rightsA (l.drop (i + 1))) := by rw [List.drop_eq_getElem_cons hi, rightsA]

set_option maxRecDepth 100000 in
theorem w_refRightA (t : Tree) : t.weight ≤ 1000000 → Pure Tryz.prog 57 [nodeV t] (fun x => x = .bool t.rightA) := by
  induction t using Tree.ind with
  | _ t ih =>
  intro h
  have hw := weight_eq t
  refine pure_wk (pure_fn 300 Tryz.func57 rfl rfl rfl fun B => ?_)
  have hA := rightA_eq t
  have no : rightN t = false → t.rightA = false := fun e => by rw [hA, e]; rfl
  repeat' first
    | (refine ⟨fun _ => go 300 ?_, fun _ => go 300 ?_⟩)
    | (refine ⟨trivial, rfl, rfl, rfl, leaf_ff ?_⟩)
    | (show Goes _ _ _ _
       suffices hr : rightN t = attrsOk none t.attrs by
         refine goes_while (ι := Nat) (fun i => i ≤ t.attrs.length ∧ attrsOk (prevK t.attrs i) (t.attrs.drop i) = rightN t) (fun i => t.attrs.length - i) (fun i => [(3, .int .i64 i), (1, .ptr (.loc 0) 0)]) (fun i => [some (.box (nodeV t).cells)]) 0
           (fun _ : Unit => rightN t = true) (fun _ => [(1, .ptr (.loc 0) 0)]) (fun _ => [some (.box (nodeV t).cells)]) 300 (fun _ => rfl) (fun _ => rfl) (fun _ => rfl) (fun _ => rfl) ⟨⟨Nat.zero_le _, hr.symm⟩, ⟨⟨rfl, rfl⟩, ⟨rfl, rfl⟩, trivial⟩, ⟨⟨rfl, rfl⟩, trivial⟩⟩ ?_ ?_
         · rintro ⟨⟩ hN
           show Goes _ _ _ _
           refine goes_iter (ι := Nat) (fun i => i ≤ t.subs.length ∧ rightsA (t.subs.drop i) = rightsA t.subs) (fun i => t.subs.length - i) (fun i => [(4, .int .i64 i), (1, .ptr (.loc 0) 0)]) (fun i => [some (.box (nodeV t).cells)]) 0 300 (fun _ => rfl) (fun _ => rfl) ⟨⟨Nat.zero_le _, rfl⟩, ⟨⟨rfl, rfl⟩, ⟨rfl, rfl⟩, trivial⟩, ⟨⟨rfl, rfl⟩, trivial⟩⟩ ?_
           rintro i ⟨k1, k2⟩ next
           refine ⟨fun hlt => go 300 ?_, fun hge => go 300 ?_⟩
           · have hi : i < t.subs.length := by simpa [subV_eq] using hlt
             have hmem : t.subs[i] ∈ t.subs := List.getElem_mem hi
             have hws := weight_sub hmem
             have hsl := subs_le_weight t
             rw [rightsA_at hi] at k2
             refine ⟨Int.natCast_nonneg i, nodeV t.subs[i], by simp [subV_eq, hi], ?_⟩
             show CallThen _ _ _ _ _ _
             refine call_pure (ih _ hmem (by omega)) rfl ?_
             rintro x rfl
             refine ⟨fun g => go 300 ?_, fun g => go 300 ?_⟩
             · have g : (t.subs[i]).rightA = false := by simpa using g
               exact ⟨trivial, rfl, rfl, rfl, leaf_ff (by rw [hA, ← k2, g]; simp)⟩
             · have g : (t.subs[i]).rightA = true := by simpa using g
               rw [g, Bool.true_and] at k2
               refine ⟨by constructor <;> omega, ?_⟩
               exact next (i + 1) _ _ ⟨⟨hi, k2⟩, by omega, ⟨⟨rfl, rfl⟩, ⟨rfl, rfl⟩, trivial⟩, ⟨⟨rfl, rfl⟩, trivial⟩⟩
           · have hi : t.subs.length ≤ i := by simpa [subV_eq] using hge
             rw [List.drop_eq_nil_of_le hi, rightsA] at k2
             exact ⟨trivial, rfl, rfl, rfl, leaf_tt (by rw [hA, hN, ← k2]; rfl)⟩
         · rintro i ⟨k1, k2⟩ next post
           refine ⟨fun hlt => go 300 ?_, fun hge => go 300 ?_⟩
           · have hi : i < t.attrs.length := by simpa using hlt
             have hx : (t.attrs.map attrV)[i]? = some (attrV t.attrs[i]) := by simp [hi]
             rw [attrs_at hi] at k2
             unfold attrOk at k2
             have cont : keyOk t.attrs[i].1 = true → decide ((t.attrs[i].2.length : Int) ≤ 256) = true → ordOk (prevK t.attrs i) t.attrs[i].1 = true → attrsOk (prevK t.attrs (i + 1)) (t.attrs.drop (i + 1)) = rightN t := fun a b c => by rw [a, b, c] at k2; simpa using k2
             have stop1 : keyOk t.attrs[i].1 = false → rightN t = false := fun a => by rw [← k2, a]; rfl
             have stop2 : decide ((t.attrs[i].2.length : Int) ≤ 256) = false → rightN t = false := fun a => by rw [← k2, a]; simp
             have stop3 : ordOk (prevK t.attrs i) t.attrs[i].1 = false → rightN t = false := fun a => by rw [← k2, a]; simp
             show Goes _ _ _ _
             refine goes_drawX [] 300 ⟨Int.natCast_nonneg i, _, hx, _, w_refKey t.attrs[i].1, rfl, ⟨fun q1 => ?_, fun q1 => ⟨Int.natCast_nonneg i, _, hx, ⟨fun q2 => ?_, fun q2 => ⟨fun q3 => ?_, fun q3 => ?_⟩⟩⟩⟩⟩
             · refine ⟨by kernel_rfl, ?_⟩
               exact ⟨trivial, rfl, rfl, rfl, leaf_ff (no (stop1 (by simpa using q1)))⟩
             · refine ⟨by kernel_rfl, ?_⟩
               exact ⟨trivial, rfl, rfl, rfl, leaf_ff (no (stop2 (by have := lt_of q2; simp; omega)))⟩
             · have q3' : 0 < i := by have := lt_of q3; omega
               have hx' : (t.attrs.map attrV)[((i : Int) - 1).toNat]? = some (attrV t.attrs[i - 1]) := by
                 have : ((i : Int) - 1).toNat = i - 1 := by omega
                 rw [this]
                 simp [show i - 1 < t.attrs.length by omega]
               have hp : prevK t.attrs i = some t.attrs[i - 1].1 := by
                 obtain ⟨j, rfl⟩ : ∃ j, i = j + 1 := ⟨i - 1, by omega⟩
                 rw [prevK, List.getD_eq_getElem?_getD, List.getElem?_eq_getElem (by omega)]
                 rfl
               rw [hp] at cont stop3
               refine ⟨Int.natCast_nonneg i, _, hx, ⟨by omega, by omega⟩, by omega, _, hx', ?_⟩
               refine ⟨by kernel_rfl, ?_⟩
               refine ⟨fun q4 => go 300 ?_, fun q4 => go 300 ?_⟩
               · exact ⟨trivial, rfl, rfl, rfl, leaf_ff (no (stop3 (congrArg Bool.not q4)))⟩
               · refine ⟨by constructor <;> omega, ?_⟩
                 exact next (i + 1) _ _ ⟨⟨hi, cont (by simpa using q1) (by have := not_lt_of q2; simp; omega) (congrArg Bool.not q4)⟩, by omega, ⟨⟨rfl, rfl⟩, ⟨rfl, rfl⟩, trivial⟩, ⟨⟨rfl, rfl⟩, trivial⟩⟩
             · have q3' : i = 0 := by have := not_lt_of q3; omega
               subst q3'
               refine ⟨by kernel_rfl, ?_⟩
               refine ⟨by constructor <;> omega, ?_⟩
               exact next 1 _ _ ⟨⟨hi, cont (by simpa using q1) (by have := not_lt_of q2; simp; omega) rfl⟩, by omega, ⟨⟨rfl, rfl⟩, ⟨rfl, rfl⟩, trivial⟩, ⟨⟨rfl, rfl⟩, trivial⟩⟩
           · have hi : i = t.attrs.length := by have : t.attrs.length ≤ i := by simpa using hge
                                                omega
             subst hi
             rw [List.drop_eq_nil_of_le (Nat.le_refl _), attrsOk] at k2
             exact post () _ _ _ rfl ⟨k2.symm, ⟨⟨rfl, rfl⟩, trivial⟩, ⟨⟨rfl, rfl⟩, trivial⟩⟩)
    | fail
  all_goals (first | refine no ?_ | skip)
  all_goals (simp_all [rightN, headOk, subV_eq])

theorem w_refRightT (t : Tree) (h : t.weight ≤ 1000000) : Pure Tryz.prog 29 [nodeV t] (fun x => x = .bool (rightT t)) := by
  refine pure_wk (pure_fn 100 Tryz.func29 rfl rfl rfl fun B => ?_)
  refine ⟨fun g1 => go 100 ?_, fun g1 => go 100 ?_⟩
  · show CallThen _ _ _ _ _ _
    refine call_pure (w_refRightA t h) rfl ?_
    rintro x rfl
    refine ⟨trivial, rfl, rfl, rfl, leaf_b ?_⟩
    unfold rightT
    rw [g1]
    rfl
  · refine ⟨trivial, rfl, rfl, rfl, leaf_ff ?_⟩
    unfold rightT
    rw [g1]
    rfl
end Bow
/- W23: edits of a text, in the document's words. -/
namespace Bow
open Go Go.Proofs

set_option maxRecDepth 100000 in
theorem w_extent (l : List PieceT) (hl : l.length ≤ 4096) (hok : ∀ p ∈ l, p.Ok) : Pure Tryz.prog 109 [piecesV l] (fun x => x = .int .i64 (extentP l)) := by
  refine pure_fn 100 Tryz.func109 rfl rfl rfl fun B => ?_
  show Goes _ _ _ _
  refine goes_iter (ι := Nat × Int) (fun i => i.1 ≤ l.length ∧ 0 ≤ i.2 ∧ i.2 + extentP (l.drop i.1) = extentP l) (fun i => l.length - i.1) (fun i => [(8, .int .i64 i.1), (7, .int .i64 (l.map pieceV).length), (6, piecesV l), (3, .int .i64 i.2)]) (fun _ => []) (0, 0) 100 (fun _ => rfl) (fun _ => rfl) ⟨⟨Nat.zero_le _, Int.le_refl _, by simp⟩, ⟨⟨rfl, rfl⟩, ⟨rfl, rfl⟩, ⟨rfl, rfl⟩, ⟨rfl, rfl⟩, trivial⟩, trivial⟩ ?_
  rintro ⟨i, n⟩ ⟨k1, k2, k3⟩ next
  simp only at k1 k2 k3
  have hle := extentP_le hok
  refine ⟨fun hlt => go 100 ?_, fun hge => go 100 ?_⟩
  · have hi : i < l.length := by simpa using hlt
    have hx : (l.map pieceV)[i]? = some (pieceV l[i]) := by simp [hi]
    have hp := hok l[i] (List.getElem_mem hi)
    have := hp.k0
    have := hp.d0
    have hn := extentP_nonneg (l := l.drop (i + 1)) fun q hq => hok q (List.mem_of_mem_drop hq)
    rw [drop_cons hi, extentP_cons] at k3
    refine ⟨Int.natCast_nonneg i, _, hx, ⟨by omega, by omega⟩, ⟨by omega, by omega⟩, ⟨by omega, by omega⟩, ?_⟩
    exact next (i + 1, n + (l[i].keep + l[i].drop)) _ _ ⟨⟨hi, by simp only; omega, by simp only; omega⟩, by simp only; omega, ⟨⟨rfl, rfl⟩, ⟨rfl, rfl⟩, ⟨rfl, rfl⟩, ⟨rfl, rfl⟩, trivial⟩, trivial⟩
  · have hi : l.length ≤ i := by simpa using hge
    rw [List.drop_eq_nil_of_le hi] at k3
    exact ⟨trivial, rfl, rfl, rfl, by rw [← k3]; simp [extentP]; rfl⟩

set_option maxRecDepth 100000 in
theorem w_refExtent (l : List PieceT) (hl : l.length ≤ 4096) (hok : ∀ p ∈ l, p.Ok) : Pure Tryz.prog 74 [piecesV l] (fun x => x = .int .i64 (extentP l)) := by
  refine pure_fn 100 Tryz.func74 rfl rfl rfl fun B => ?_
  show Goes _ _ _ _
  refine goes_iter (ι := Nat × Int) (fun i => i.1 ≤ l.length ∧ 0 ≤ i.2 ∧ i.2 + extentP (l.drop i.1) = extentP l) (fun i => l.length - i.1) (fun i => [(4, .int .i64 i.1), (0, piecesV l), (3, .int .i64 i.2)]) (fun _ => []) (0, 0) 100 (fun _ => rfl) (fun _ => rfl) ⟨⟨Nat.zero_le _, Int.le_refl _, by simp⟩, ⟨⟨rfl, rfl⟩, ⟨rfl, rfl⟩, ⟨rfl, rfl⟩, trivial⟩, trivial⟩ ?_
  rintro ⟨i, n⟩ ⟨k1, k2, k3⟩ next
  simp only at k1 k2 k3
  have hle := extentP_le hok
  refine ⟨fun hlt => go 100 ?_, fun hge => go 100 ?_⟩
  · have hi : i < l.length := by simpa using hlt
    have hx : (l.map pieceV)[i]? = some (pieceV l[i]) := by simp [hi]
    have hp := hok l[i] (List.getElem_mem hi)
    have := hp.k0
    have := hp.d0
    have hn := extentP_nonneg (l := l.drop (i + 1)) fun q hq => hok q (List.mem_of_mem_drop hq)
    rw [drop_cons hi, extentP_cons] at k3
    show Goes _ _ _ _
    refine goes_drawX [] 100 ⟨Int.natCast_nonneg i, _, hx, ⟨by omega, by omega⟩, Int.natCast_nonneg i, _, hx, ⟨by omega, by omega⟩, ?_⟩
    refine ⟨by kernel_rfl, ?_⟩
    refine ⟨⟨by omega, by omega⟩, ?_⟩
    exact next (i + 1, n + l[i].keep + l[i].drop) _ _ ⟨⟨hi, by simp only; omega, by simp only; omega⟩, by simp only; omega, ⟨⟨rfl, rfl⟩, ⟨rfl, rfl⟩, ⟨rfl, rfl⟩, trivial⟩, trivial⟩
  · have hi : l.length ≤ i := by simpa using hge
    rw [List.drop_eq_nil_of_le hi] at k3
    exact ⟨trivial, rfl, rfl, rfl, by rw [← k3]; simp [extentP]; rfl⟩

set_option maxRecDepth 100000 in
theorem w_refEdit (t : List UInt8) (l : List PieceT) (ht : t.length ≤ 1000000000) (hl : l.length ≤ 1000000) (hpl : ∀ p ∈ l, p.put.length ≤ 1000000000) :
    Pure Tryz.prog 47 [.str t, piecesV l] (fun x => x = strE (applyE t l)) := by
  refine pure_fn 100 Tryz.func47 rfl rfl rfl fun B => ?_
  show CallThen _ _ _ _ _ _
  refine call_pure (w_refRight l hl hpl) rfl ?_
  rintro x rfl
  refine ⟨fun g1 => go 100 ?_, fun g1 => go 100 ?_⟩
  · exact ⟨trivial, rfl, rfl, rfl, by unfold applyE; rw [g1]; rfl⟩
  have hr : rightP l = true := by simpa using g1
  obtain ⟨r1, r2, r3⟩ := rightP_ok hr
  show CallThen _ _ _ _ _ _
  refine call_pure (w_refExtent l r1 r2) rfl ?_
  rintro x rfl
  refine ⟨fun g2 => go 100 ?_, fun g2 => go 100 ?_⟩
  · exact ⟨trivial, rfl, rfl, rfl, by unfold applyE; rw [g1, g2]; rfl⟩
  have g2' := not_lt_of g2
  have hfin : applyE t l = (editP t l, 0) := by unfold applyE; rw [g1, g2]; rfl
  show Goes _ _ _ _
  refine goes_iter (ι := Nat × List UInt8 × List UInt8) (fun i => i.1 ≤ l.length ∧ extentP (l.drop i.1) ≤ i.2.2.length ∧ i.2.1.length + i.2.2.length + putsLen (l.drop i.1) ≤ t.length + putsLen l ∧ i.2.1 ++ editP i.2.2 (l.drop i.1) = editP t l) (fun i => l.length - i.1)
    (fun i => [(7, .int .i64 i.1), (6, .str i.2.1), (0, .str i.2.2), (1, piecesV l)]) (fun _ => []) (0, [], t) 100 (fun _ => rfl) (fun _ => rfl) ⟨⟨Nat.zero_le _, g2', by simp, rfl⟩, ⟨⟨rfl, rfl⟩, ⟨rfl, rfl⟩, ⟨rfl, rfl⟩, ⟨rfl, rfl⟩, trivial⟩, trivial⟩ ?_
  rintro ⟨i, o, u⟩ ⟨k1, k2, k3, k4⟩ next
  simp only at k1 k2 k3 k4
  refine ⟨fun hlt => go 100 ?_, fun hge => go 100 ?_⟩
  · have hi : i < l.length := by simpa using hlt
    have hx : (l.map pieceV)[i]? = some (pieceV l[i]) := by simp [hi]
    have hp := r2 l[i] (List.getElem_mem hi)
    have p1 := hp.k0
    have p2 := hp.d0
    have p3 := hp.k1
    have p4 := hp.d1
    have hn := extentP_nonneg (l := l.drop (i + 1)) fun q hq => r2 q (List.mem_of_mem_drop hq)
    have e : putsLen (l[i] :: l.drop (i + 1)) = l[i].put.length + putsLen (l.drop (i + 1)) := rfl
    rw [drop_cons hi, extentP_cons] at k2
    rw [drop_cons hi, e] at k3
    rw [drop_cons hi, editP] at k4
    have hlen1 : ((u.drop (Int.toNat 0)).take (l[i].keep.toNat - Int.toNat 0)).length = l[i].keep.toNat := by simp; omega
    show Goes _ _ _ _
    refine goes_drawX [] 100 ⟨Int.natCast_nonneg i, _, hx, by decide, p1, by simp only; omega, ?_, Int.natCast_nonneg i, _, hx, ?_, ?_⟩
    · simp only; rw [List.length_append, hlen1]; omega
    · simp only; rw [List.length_append, List.length_append, hlen1]; omega
    refine ⟨by kernel_rfl, ?_⟩
    show Goes _ _ _ _
    refine goes_drawX [] 100 ⟨Int.natCast_nonneg i, _, hx, Int.natCast_nonneg i, _, hx, ⟨by omega, by omega⟩, by omega, by simp only; omega, Int.le_refl _, ?_⟩
    refine ⟨by kernel_rfl, ?_⟩
    refine ⟨⟨by omega, by omega⟩, ?_⟩
    have hlen2 : ((u.drop (l[i].keep + l[i].drop).toNat).take ((u.length : Int).toNat - (l[i].keep + l[i].drop).toNat)) = u.drop (l[i].keep + l[i].drop).toNat := List.take_of_length_le (by simp)
    refine next (i + 1, o ++ (u.drop (Int.toNat 0)).take (l[i].keep.toNat - Int.toNat 0) ++ l[i].put, (u.drop (l[i].keep + l[i].drop).toNat).take ((u.length : Int).toNat - (l[i].keep + l[i].drop).toNat)) _ _ ⟨⟨hi, ?_, ?_, ?_⟩, by simp only; omega, ⟨⟨rfl, rfl⟩, ⟨rfl, rfl⟩, ⟨rfl, rfl⟩, ⟨rfl, rfl⟩, trivial⟩, trivial⟩
    · simp only
      rw [hlen2, List.length_drop]
      omega
    · simp only
      rw [hlen2, List.length_drop, List.length_append, List.length_append, hlen1]
      omega
    · simp only
      rw [hlen2, ← k4]
      simp
  · have hi : l.length ≤ i := by simpa using hge
    rw [List.drop_eq_nil_of_le hi, editP] at k4
    rw [List.drop_eq_nil_of_le hi] at k3
    have e : putsLen [] = 0 := rfl
    rw [e] at k3
    refine ⟨by simp only; rw [List.length_append]; omega, ?_⟩
    exact ⟨trivial, rfl, rfl, rfl, by rw [hfin, ← k4]; rfl⟩
end Bow
/- WB1: strings.Builder's methods at this program: by the kit's own tactics. -/
namespace Bow
open Go Go.Proofs Go.RowKit Go.Shelf

theorem b_size : ((Tryz.prog).info? 126).map (·.size) = some 2 := by kernel_rfl
theorem b_lies : liesAt Tryz.prog Tryz.prog.depth 126 (2 / (Tryz.prog).cellsOf 126) 0 126 1 = true := by kernel_rfl
theorem b_byte : ((Tryz.prog).info? 5).map (fun i => (i.zero, i.size, i.bytes)) = some (some (.int .u8 0), 1, 1) := by kernel_rfl

set_option maxHeartbeats 1000000 in
set_option maxRecDepth 100000 in
theorem b_copyCheck_used (b : Nat) (w : World) (h0 : w.cell? ⟨b, 0, none⟩ = some (.pointer (some ⟨b, 0, none⟩))) :
    Calls Tryz.prog 123 #[.pointer (some ⟨b, 0, none⟩)] w fun e w' => e = .returned (.tuple #[]) ∧ w' = w := by
  obtain ⟨j, hj, _⟩ := Option.map_eq_some_iff.1 b_size
  go_enter Tryz.func123, Tryz.ntmps123
  go_wp2
  rw [Lib.run_neq_ptr_same w _ Tryz.underlying123 hj]
  go_wp2
  go_end0
  exact ⟨rfl, rfl⟩

set_option maxHeartbeats 1000000 in
set_option maxRecDepth 100000 in
theorem b_copyCheck_fresh (b : Nat) (w : World) (h0 : w.cell? ⟨b, 0, none⟩ = some (.pointer none)) (hsh : w.shape? b = some (126, 2)) (hfz : w.frozen? ⟨b, 0, none⟩ = false) :
    Calls Tryz.prog 123 #[.pointer (some ⟨b, 0, none⟩)] w fun e w' => e = .returned (.tuple #[]) ∧ w' = w.setCell ⟨b, 0, none⟩ (.pointer (some ⟨b, 0, none⟩)) := by
  obtain ⟨j, hj, hjs⟩ := Option.map_eq_some_iff.1 b_size
  go_enter Tryz.func123, Tryz.ntmps123
  go_wp2
  rw [Lib.run_to_unsafe w ⟨b, 0, none⟩ Tryz.underlying123 Tryz.underlying151 hj (by rw [hjs]; decide) hsh (Nat.zero_lt_succ 1)]
  simp only [Result.andThen]
  rw [Oper.upon_value]
  go_wp2
  rw [run_callFunc_extern Tryz.func128 (by kernel_rfl) (by kernel_rfl) (by kernel_rfl) (e := Extern.AbiNoEscape.same) (by kernel_rfl)]
  rw [Lib.run_noEscape]
  simp only [Result.andThen]
  rw [Oper.upon_value]
  go_wp2
  rw [Lib.run_from_unsafe w ⟨b, 0, none⟩ Tryz.underlying151 Tryz.underlying123 hj hsh b_lies]
  simp only [Result.andThen]
  rw [Oper.upon_value]
  go_wp2
  go_end0
  exact ⟨rfl, rfl⟩

theorem b_copyCheck (B b : Nat) (bs : List Value) (w : World) (h : Lib.IsBuilderF 126 5 B b bs w) :
    Calls Tryz.prog 123 #[.pointer (some ⟨b, 0, none⟩)] w fun e w' => e = .returned (.tuple #[]) ∧ (Lib.BuilderAtF 126 5 B b (.pointer (some ⟨b, 0, none⟩)) bs w' ∧ Below B w w' ∧ Lib.OthersKept 5 (some b) w w') := by
  rcases h with h | h
  · refine (b_copyCheck_fresh b w h.cell0 h.shape h.frozen0).mono ?_
    rintro e w' ⟨rfl, rfl⟩
    exact ⟨rfl, h.used _, (Below.refl B w).setCell (p := ⟨b, 0, none⟩) h.1 _, (Lib.OthersKept.refl _ _ w).setCell ⟨b, 0, none⟩ rfl _⟩
  · refine (b_copyCheck_used b w h.cell0).mono ?_
    rintro e w' ⟨rfl, rfl⟩
    exact ⟨rfl, h, Below.refl B _, Lib.OthersKept.refl _ _ _⟩

set_option maxHeartbeats 2000000 in
set_option maxRecDepth 100000 in
theorem b_WriteString (B b : Nat) (bs : List Value) (s : ByteArray) (w : World) (h : Lib.IsBuilderF 126 5 B b bs w) (hlen : bs.length + s.size ≤ 140737488355328) (hBw : B ≤ w.heap.size) :
    Calls Tryz.prog 110 #[.pointer (some ⟨b, 0, none⟩), .string s] w fun e w' => e = .returned (.tuple #[.int .i64 s.size, .nilIface]) ∧ (Lib.BuilderAtF 126 5 B b (.pointer (some ⟨b, 0, none⟩)) (bs ++ Lib.strCells s) w' ∧ Below B w w' ∧ Lib.OthersKept 5 (some b) w w') := by
  obtain ⟨i0, hi, hz0, hz1, hz2⟩ := info_parts b_byte
  go_enter Tryz.func110, Tryz.ntmps110
  go_wp2_with (go_at_call 123; refine (b_copyCheck B b bs _ h).mono ?_)
  rintro e w1 ⟨rfl, h1, hb1, hk1⟩
  obtain ⟨hB, v, hbk, hown, hne⟩ := h1
  have c0 : w1.cell? ⟨b, 0, none⟩ = some (.pointer (some ⟨b, 0, none⟩)) := by rw [Lib.cell_of_heap hbk]; rfl
  have c1 : w1.cell? ⟨b, 1, none⟩ = some v := by rw [Lib.cell_of_heap hbk]; rfl
  go_wp2_with (at_builtin; refine Lib.wpList_append_own_stringF _ rfl _ _ 124 9 rfl B 5 i0 Tryz.underlying124 Tryz.underlying9 hi hz0 hz1 hz2 _ _ _ rfl hown s rfl ?c3 ?c4 ?c5 ?_)
  case c3 => unfold maxLen; omega
  case c4 => omega
  case c5 => have := hb1.size; omega
  intro v' w2 hown' hgrow _
  have hlt : b < w1.heap.size := by
    rcases Nat.lt_or_ge b w1.heap.size with h' | h'
    · exact h'
    · simp [Array.getElem?_eq_none h'] at hbk
  have hb2 : w2.heap[b]? = some (.cells #[.pointer (some ⟨b, 0, none⟩), v] 126 (0, 0)) := by
    rw [hgrow.block b hlt (fun e => hne e.symm)]
    exact hbk
  have d0 : w2.cell? ⟨b, 0, none⟩ = some (.pointer (some ⟨b, 0, none⟩)) := by rw [Lib.cell_of_heap hb2]; rfl
  have d1 : w2.cell? ⟨b, 1, none⟩ = some v := by rw [Lib.cell_of_heap hb2]; rfl
  have f1 : w2.frozen? ⟨b, 1, none⟩ = false := Lib.frozen_of_heap hb2 1
  obtain ⟨ao, n', cap, rfl⟩ : ∃ ao n' cap, v' = .slice ao n' cap := by
    rcases hown'.2 with ⟨hv, _⟩ | ⟨g, cap, cur, fz, hv, _⟩
    · exact ⟨_, _, _, hv⟩
    · exact ⟨_, _, _, hv⟩
  go_wp2
  go_ret2
  refine ⟨rfl, ?_, ?_, (hk1.grown hgrow (Lib.ownsRowF_kind hown)).setCell ⟨b, 1, none⟩ rfl _⟩
  · exact Lib.BuilderAtF.put (T := 126) (e := 5) hB hb2 (bs' := bs ++ Lib.strCells s) (by simpa [Lib.strCells_length] using hown') (by decide)
  · exact (hb1.grown hgrow (by have := hb1.size; omega) (fun k hk => (hown.lt k hk).1)).setCell (p := ⟨b, 1, none⟩) hB _

def bRen : Ren where
  f := fun | 169 => 111 | n => n
  t := fun | 0 => 0 | 3 => 3 | 9 => 9 | 37 => 124 | 70 => 123 | 72 => 126 | 127 => 143 | 5 => 5 | n => n
  g := fun n => n
theorem bLays : Lays.n169 Tryz.prog bRen := {
  mixed := by kernel_rfl
  f169 := Tryz.func111.trans (congrArg some (by kernel_rfl))
  t0 := Tryz.underlying0
  a0 := Tryz.isAgg0
  z0 := Tryz.sizeOf0
  v0 := Tryz.zeroValue0
  t3 := Tryz.underlying3
  a3 := Tryz.isAgg3
  z3 := Tryz.sizeOf3
  v3 := Tryz.zeroValue3
  t9 := Tryz.underlying9
  a9 := Tryz.isAgg9
  z9 := Tryz.sizeOf9
  v9 := Tryz.zeroValue9
  t37 := Tryz.underlying124
  a37 := Tryz.isAgg124
  z37 := Tryz.sizeOf124
  v37 := Tryz.zeroValue124
  t70 := Tryz.underlying123
  a70 := Tryz.isAgg123
  z70 := Tryz.sizeOf123
  v70 := Tryz.zeroValue123
  t72 := Tryz.underlying126
  a72 := Tryz.isAgg126
  z72 := Tryz.sizeOf126
  v72 := Tryz.zeroValue126
  t127 := Tryz.underlying143
  a127 := Tryz.isAgg143
  z127 := Tryz.sizeOf143
  v127 := Tryz.zeroValue143
}
theorem bExtra : Builder.Extra Tryz.prog bRen := {
  sizeBuilder := by kernel_rfl
  liesBuilder := by kernel_rfl
  t5 := Tryz.underlying5
  a5 := Tryz.isAgg5
  z5 := Tryz.sizeOf5
  v5 := Tryz.zeroValue5
  infoByte := by kernel_rfl
  cellsByte := by kernel_rfl
  sizeByte := by kernel_rfl
  neB5 := by decide
}
theorem b_String (B b : Nat) (l : List UInt8) (w : World) (h : Lib.IsBuilderF 126 5 B b (Lib.byteCells l) w) (hBw : B ≤ w.heap.size) :
    Calls Tryz.prog 111 #[.pointer (some ⟨b, 0, none⟩)] w fun e w' => e = .returned (.string ⟨l.toArray⟩) ∧ (Lib.IsBuilderF 126 5 B b (Lib.byteCells l) w' ∧ Below B w w' ∧ Lib.OthersKept 5 (some b) w w') :=
  Any.Builder_String_any_k bLays bExtra B b l w h hBw
end Bow
