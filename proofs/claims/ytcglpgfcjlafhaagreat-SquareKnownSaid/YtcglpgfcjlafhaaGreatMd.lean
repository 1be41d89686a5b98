/- The library, part 4: SP25, SP26, SP30, AE36, AE37, AE38, AE39, AE40, AE41, AE42, W1, W2, W3, W4, W5, W6, W7, W8, W9, W10, W11, W12, W13, W14, W15, W16, W17, W18, W19, W20, W21, W22, W23, WB1, W24, W25, W26, SP9, W27, W30a, W31, W32, W33, W34, WB2, W35, W36, W37, W38, SP15, SP16, W39, SP17, W43a, W49. -/
import Derived.Test.YtcglpgfcjlafhaaGreatMc
import Derived.ChangeArms
import Derived.ChangeOld
import Derived.DataReads
import Derived.Laws.Shifts
import Derived.Test.YtcglpgfcjlafhaaGreatRows
import Derived.KernelRfl
import Derived.Shelf.Strings.BuilderK
import Derived.Test.YtcglpgfcjlafhaaGreatProg
import Derived.BigCall
import Derived.Lib.Bytealg
/- SP25: what an operation does not say counts for nothing (square); lists brought one behind the other, in plain Lean. -/
namespace Bow
open Go

/-- The fields that an operation of a known kind says. -/
theorem bareK1 {o : OpT} (h : o.kind = 1) : bareO o = { noOp 1 with path := o.path, at_ := o.at_, id := o.id, leaf := o.leaf, label := o.label } := by unfold bareO; rw [h]; rfl
theorem bareK2 {o : OpT} (h : o.kind = 2) : bareO o = { noOp 2 with path := o.path } := by unfold bareO; rw [h]; rfl
theorem bareK3 {o : OpT} (h : o.kind = 3) : bareO o = { noOp 3 with path := o.path, at_ := o.at_, to := o.to } := by unfold bareO; rw [h]; rfl
theorem bareK4 {o : OpT} (h : o.kind = 4) : bareO o = { noOp 4 with path := o.path, key := o.key, gone := o.gone, value := bif o.gone then [] else o.value } := by unfold bareO; rw [h]; rfl
theorem bareK5 {o : OpT} (h : o.kind = 5) : bareO o = { noOp 5 with path := o.path, label := o.label } := by unfold bareO; rw [h]; rfl
theorem bareK6 {o : OpT} (h : o.kind = 6) : bareO o = { noOp 6 with path := o.path, pieces := o.pieces } := by unfold bareO; rw [h]; rfl
theorem bareX {o : OpT} (h1 : o.kind ≠ 1) (h2 : o.kind ≠ 2) (h3 : o.kind ≠ 3) (h4 : o.kind ≠ 4) (h5 : o.kind ≠ 5) (h6 : o.kind ≠ 6) : bareO o = noOp o.kind := by
  unfold bareO
  have e : ∀ {n : Int}, o.kind ≠ n → (o.kind == n) = false := fun h => by simpa using h
  rw [e h1, e h2, e h3, e h4, e h5, e h6]
  rfl
theorem kind_cases (o : OpT) : o.kind = 1 ∨ o.kind = 2 ∨ o.kind = 3 ∨ o.kind = 4 ∨ o.kind = 5 ∨ o.kind = 6 ∨ (o.kind ≠ 1 ∧ o.kind ≠ 2 ∧ o.kind ≠ 3 ∧ o.kind ≠ 4 ∧ o.kind ≠ 5 ∧ o.kind ≠ 6) := by omega
theorem formed_bad {o : OpT} (h : o.kind ≠ 1 ∧ o.kind ≠ 2 ∧ o.kind ≠ 3 ∧ o.kind ≠ 4 ∧ o.kind ≠ 5 ∧ o.kind ≠ 6) : formedB o = false := by
  unfold formedB
  obtain ⟨h1, h2, h3, h4, h5, h6⟩ := h
  have e : ∀ {n : Int}, o.kind ≠ n → (o.kind == n) = false := fun h => by simpa using h
  rw [e h1, e h2, e h3, e h4, e h5, e h6]
  simp
theorem bare_idem (o : OpT) : bareO (bareO o) = bareO o := by
  rcases kind_cases o with h | h | h | h | h | h | ⟨h1, h2, h3, h4, h5, h6⟩
  · rw [bareK1 h]; rfl
  · rw [bareK2 h]; rfl
  · rw [bareK3 h]; rfl
  · rw [bareK4 h]
    unfold bareO
    cases o.gone <;> rfl
  · rw [bareK5 h]; rfl
  · rw [bareK6 h]; rfl
  · have e : (bareO o).kind = o.kind := bare_kind o
    rw [bareX (o := bareO o) (by rw [e]; exact h1) (by rw [e]; exact h2) (by rw [e]; exact h3) (by rw [e]; exact h4) (by rw [e]; exact h5) (by rw [e]; exact h6), e, bareX h1 h2 h3 h4 h5 h6]
theorem formed_bare (o : OpT) : formedB (bareO o) = formedB o := by
  rcases kind_cases o with h | h | h | h | h | h | hx
  · rw [bareK1 h]; unfold formedB; rw [h]; rfl
  · rw [bareK2 h]; unfold formedB; rw [h]; rfl
  · rw [bareK3 h]; unfold formedB; rw [h]; rfl
  · rw [bareK4 h]; unfold formedB; rw [h]
    cases o.gone <;> rfl
  · rw [bareK5 h]; unfold formedB; rw [h]; rfl
  · rw [bareK6 h]; unfold formedB; rw [h]; rfl
  · rw [formed_bad hx]
    have e : (bareO o).kind = o.kind := bare_kind o
    exact formed_bad (by rw [e]; exact hx)
theorem sound_bare (o : OpT) : soundO (bareO o) = soundO o := by
  unfold soundO
  rw [formed_bare]
  rcases kind_cases o with h | h | h | h | h | h | hx
  · rw [bareK1 h, h]; rfl
  · rw [bareK2 h, h]; rfl
  · rw [bareK3 h, h]; rfl
  · rw [bareK4 h, h]; rfl
  · rw [bareK5 h, h]; rfl
  · rw [bareK6 h, h]; rfl
  · rw [formed_bad hx]; rfl
theorem sound_kind {o : OpT} (h : soundO o = true) : o.kind = 1 ∨ o.kind = 2 ∨ o.kind = 3 ∨ o.kind = 4 ∨ o.kind = 5 ∨ o.kind = 6 := by
  rcases kind_cases o with k | k | k | k | k | k | k
  · exact .inl k
  · exact .inr (.inl k)
  · exact .inr (.inr (.inl k))
  · exact .inr (.inr (.inr (.inl k)))
  · exact .inr (.inr (.inr (.inr (.inl k))))
  · exact .inr (.inr (.inr (.inr (.inr k))))
  · exfalso
    unfold soundO at h
    rw [formed_bad k] at h
    cases h
theorem sound_path {o : OpT} (h : soundO o = true) : (bareO o).path = o.path := by
  rcases sound_kind h with k | k | k | k | k | k
  · rw [bareK1 k]
  · rw [bareK2 k]
  · rw [bareK3 k]
  · rw [bareK4 k]
  · rw [bareK5 k]
  · rw [bareK6 k]
theorem moves_bare {o : OpT} (h : soundO o = true) : movesO (bareO o) = movesO o := by
  unfold movesO
  rw [formed_bare]
  rcases sound_kind h with k | k | k | k | k | k
  · rw [bareK1 k, k]; rfl
  · rw [bareK2 k, k]; rfl
  · rw [bareK3 k, k]; rfl
  · rw [bareK4 k, k]; rfl
  · rw [bareK5 k, k]; rfl
  · rw [bareK6 k, k]; rfl
theorem number_noputs {c d : Chg} (h1 : c.puts = false) (h2 : d.puts = false) (h3 : c.takes = d.takes) (h4 : c.frm = d.frm) (h5 : c.at_ = d.at_) (p : List Int) (k : Int) : c.number p k = d.number p k := by
  unfold Chg.number
  rw [h1, h2, h3, h4, h5]
  rfl
theorem nums_noputs {c d : Chg} (h1 : c.puts = false) (h2 : d.puts = false) (h3 : c.takes = d.takes) (h4 : c.frm = d.frm) (h5 : c.at_ = d.at_) : ∀ (p q : List Int), c.nums q p = d.nums q p
  | [], _ => rfl
  | k :: p, q => by rw [Chg.nums, Chg.nums, number_noputs h1 h2 h3 h4 h5, nums_noputs h1 h2 h3 h4 h5 p]
/-- Of a delete where it puts nothing is not asked. -/
theorem node_bare {a : OpT} (h : soundO a = true) (q : List Int) : nodeP (bareO a) q = nodeP a q := by
  have hm := moves_bare h
  have hp := sound_path h
  unfold nodeP
  rw [hm, hp]
  rcases sound_kind h with k | k | k | k | k | k
  · have e : chgO (bareO a) = chgO a := by rw [bareK1 k]; unfold chgO; rw [k]; rfl
    have e2 : (chgO a).takes = false := by unfold chgO; simp [k]
    rw [e, e2]
    rfl
  · have p1 : (chgO (bareO a)).puts = false := by rw [bareK2 k]; rfl
    have p2 : (chgO a).puts = false := by unfold chgO; simp [k]
    have t1 : (chgO (bareO a)).takes = (chgO a).takes := by rw [bareK2 k]; unfold chgO; rw [k]; rfl
    have f1 : (chgO (bareO a)).frm = (chgO a).frm := by rw [bareK2 k]; unfold chgO; rw [k]; rfl
    have a1 : (chgO (bareO a)).at_ = (chgO a).at_ := by rw [bareK2 k]; unfold chgO; rw [k]; rfl
    rw [p1, p2, t1]
    simp only [nums_noputs p1 p2 t1 f1 a1]
    cases !movesO a <;> cases (chgO a).takes && within a.path q <;> rfl
  · have e : chgO (bareO a) = chgO a := by rw [bareK3 k]; unfold chgO; rw [k]; rfl
    have e2 : (bareO a).to = a.to := by rw [bareK3 k]
    rw [e, e2]
  · have : movesO a = false := by unfold movesO; simp [k]
    rw [this]; rfl
  · have : movesO a = false := by unfold movesO; simp [k]
    rw [this]; rfl
  · have : movesO a = false := by unfold movesO; simp [k]
    rw [this]; rfl
theorem gap_bare {a : OpT} (h : soundO a = true) (q : List Int) (n : Int) (f : Bool) : gapP (bareO a) q n f = gapP a q n f := by
  have hm := moves_bare h
  unfold gapP
  rw [node_bare h]
  cases nodeP a q with
  | none => rfl
  | some r =>
    simp only
    rw [hm]
    cases hmv : movesO a with
    | false => rfl
    | true =>
      rcases sound_kind h with k | k | k | k | k | k
      · have e : chgO (bareO a) = chgO a := by rw [bareK1 k]; unfold chgO; rw [k]; rfl
        rw [e]
      · have p1 : (chgO (bareO a)).puts = false := by rw [bareK2 k]; rfl
        have p2 : (chgO a).puts = false := by unfold chgO; simp [k]
        have t1 : (chgO (bareO a)).takes = (chgO a).takes := by rw [bareK2 k]; unfold chgO; rw [k]; rfl
        have f1 : (chgO (bareO a)).frm = (chgO a).frm := by rw [bareK2 k]; unfold chgO; rw [k]; rfl
        have a1 : (chgO (bareO a)).at_ = (chgO a).at_ := by rw [bareK2 k]; unfold chgO; rw [k]; rfl
        rw [p1, p2, t1, f1, a1]
        rfl
      · have e : chgO (bareO a) = chgO a := by rw [bareK3 k]; unfold chgO; rw [k]; rfl
        rw [e]
      · unfold movesO at hmv; simp [k] at hmv
      · unfold movesO at hmv; simp [k] at hmv
      · unfold movesO at hmv; simp [k] at hmv
theorem undo_bare {a : OpT} (h : soundO a = true) : undoO (bareO a) = undoO a := by
  unfold undoO
  rw [moves_bare h, bare_kind]
  by_cases k : a.kind = 3
  · have e : chgO (bareO a) = chgO a := by rw [bareK3 k]; unfold chgO; rw [k]; rfl
    rw [sound_path h, node_bare h, node_bare h, e]
  · rw [decide_eq_false k]; rfl
theorem won_bare {a b : OpT} (ha : soundO a = true) (hb : soundO b = true) : wonO (bareO b) (bareO a) = wonO b a := by
  unfold wonO
  rw [bare_kind, bare_kind, sound_path ha, sound_path hb]
  by_cases k : a.kind = b.kind
  · by_cases k4 : b.kind = 4
    · have e1 : (bareO b).key = b.key := by rw [bareK4 k4]
      have e2 : (bareO a).key = a.key := by rw [bareK4 (by rw [k]; exact k4)]
      rw [e1, e2]
    · rw [decide_eq_false k4]
      simp
  · rw [decide_eq_false k]
    simp
theorem shifted_bare {a b : OpT} (ha : soundO a = true) (hb : soundO b = true) (p : Bool) : bareO (shiftedO (bareO b) (bareO a) p) = bareO (shiftedO b a p) := by
  unfold shiftedO
  rw [bare_kind, sound_path hb, node_bare ha]
  rcases sound_kind hb with k | k | k | k | k | k
  · simp only [gap_bare ha]
    rw [bareK1 k, k]
    rfl
  · rw [bareK2 k, k]; rfl
  · simp only [gap_bare ha]
    rw [bareK3 k, k]
    rfl
  · rw [bareK4 k, k]
    unfold bareO
    cases b.gone <;> rfl
  · rw [bareK5 k, k]; rfl
  · rw [bareK6 k, k]; rfl
theorem bare_to {o : OpT} (k : o.kind = 3) : (bareO o).to = o.to := by rw [bareK3 k]
theorem row_bare {a b : OpT} (ha : soundO a = true) (hb : soundO b = true) (p : Bool) : (rowO (bareO b) (bareO a) p).map bareO = (rowO b a p).map bareO := by
  have hs := shifted_bare ha hb p
  unfold rowO
  rw [bare_kind a, bare_kind b, sound_path ha, sound_path hb, won_bare ha hb, node_bare ha, node_bare ha, undo_bare ha]
  by_cases k1 : a.kind = 2
  · rw [decide_eq_true k1]
    cases within a.path b.path with
    | true => rfl
    | false =>
      by_cases k3 : b.kind = 3
      · rw [decide_eq_true k3, bare_to k3]
        cases within a.path b.to with
        | true => rfl
        | false => simp only [Bool.and_false, cond_false, cond_true, List.map_cons, List.map_nil, hs]
      · rw [decide_eq_false k3]
        simp only [Bool.false_and, cond_false, cond_true, List.map_cons, List.map_nil, hs]
  · rw [decide_eq_false k1]
    cases wonO b a with
    | true => cases p with
      | true => simp only [cond_false, cond_true, List.map_cons, List.map_nil, hs]
      | false => rfl
    | false =>
      by_cases k3 : a.kind = 3
      · rw [decide_eq_true k3, bare_to k3]
        by_cases k4 : b.kind = 2
        · rw [decide_eq_true k4]
          cases within b.path a.path && (!decide (b.path = a.path) && !within b.path a.to) with
          | true => rfl
          | false => simp only [Bool.not_true, cond_false, cond_true, List.map_cons, List.map_nil, hs]
        · rw [decide_eq_false k4]
          by_cases k5 : b.kind = 3
          · rw [decide_eq_true k5, bare_to k5]
            cases within b.path a.to && within a.path b.to with
            | true => cases p with
              | true => simp only [Bool.not_true, Bool.and_self, cond_false, cond_true, List.map_cons, List.map_nil, bare_idem]
              | false => rfl
            | false => simp only [Bool.not_true, Bool.and_false, cond_false, List.map_cons, List.map_nil, hs]
          · rw [decide_eq_false k5]
            simp only [Bool.not_true, Bool.false_and, cond_false, List.map_cons, List.map_nil, hs]
      · rw [decide_eq_false k3]
        simp only [Bool.not_false, cond_false, cond_true, List.map_cons, List.map_nil, hs]
theorem all_bare (l : List OpT) : (l.map bareO).all formedB = l.all formedB := by
  induction l with
  | nil => rfl
  | cons o l ih => rw [List.map_cons, List.all_cons, List.all_cons, ih, formed_bare]
theorem behX_bad {a b : OpT} (h : (!soundO a || !soundO b) = true) (p : Bool) : behindX b a p = ([], 80) := by
  unfold behindX behindE behindO
  rw [h]
  cases bothEdit b a <;> rfl
theorem behX_bare (b a : OpT) (p : Bool) : behindX (bareO b) (bareO a) p = behindX b a p := by
  cases h : !soundO a || !soundO b with
  | true => rw [behX_bad h, behX_bad (by rw [sound_bare, sound_bare]; exact h)]
  | false =>
    have h' := h
    rw [Bool.or_eq_false_iff] at h'
    have ha : soundO a = true := by simpa using h'.1
    have hb : soundO b = true := by simpa using h'.2
    have he : bothEdit (bareO b) (bareO a) = bothEdit b a := by
      unfold bothEdit
      rw [bare_kind, bare_kind, sound_path ha, sound_path hb]
    unfold behindX
    rw [he]
    cases heb : bothEdit b a with
    | true =>
      have hk : a.kind = 6 ∧ b.kind = 6 := by
        unfold bothEdit at heb
        simp only [Bool.and_eq_true, decide_eq_true_eq] at heb
        exact ⟨heb.1, heb.2.1⟩
      have pa : (bareO a).pieces = a.pieces := by rw [bareK6 hk.1]
      have pb : (bareO b).pieces = b.pieces := by rw [bareK6 hk.2]
      have e : bareO (editO (bareO b) (bareO a) p) = bareO (editO b a p) := by
        unfold editO
        rw [pa, pb, bareK6 hk.2, bareK6 (o := { b with pieces := (transP b.pieces a.pieces p).1 }) hk.2]
        rfl
      have ef : formedB (editO (bareO b) (bareO a) p) = formedB (editO b a p) := by rw [← formed_bare, e, formed_bare]
      unfold behindE
      rw [sound_bare, sound_bare, pa, pb, ef, e]
      rfl
    | false =>
      have e := row_bare ha hb p
      unfold behindO
      rw [sound_bare, sound_bare, ← all_bare, e, all_bare]
      rfl
theorem bothX_bare (a b : OpT) (p : Bool) : bothX (bareO a) (bareO b) p = bothX a b p := by
  unfold bothX
  rw [behX_bare, behX_bare]

end Bow
/- SP26: a list brought by two lists, one behind the other, and by both in one, in plain Lean. -/
namespace Bow
open Go

def Br (prior : Bool) (xs ys x y : List OpT) : Prop := ∃ n, bringF prior n xs ys = some (x, y, 0)
section
variable {prior : Bool}
theorem Br.much {xs ys x y : List OpT} (h : Br prior xs ys x y) : muchP xs ys = false := by
  obtain ⟨n, h⟩ := h
  cases n with
  | zero => cases h
  | succ n =>
    rw [bringF_succ] at h
    unfold bringS at h
    cases hm : muchP xs ys with
    | false => rfl
    | true => rw [hm] at h; simp at h
theorem Br.nil_inv {ys x y : List OpT} (h : Br prior [] ys x y) : x = [] ∧ y = ys := by
  have hm := h.much
  obtain ⟨n, h⟩ := h
  cases n with
  | zero => cases h
  | succ n =>
    rw [bringF_succ] at h
    unfold bringS at h
    rw [hm] at h
    simp at h
    exact ⟨h.1.symm ▸ rfl, h.2.symm⟩
theorem Br.nil2_inv {xs x y : List OpT} (h : Br prior xs [] x y) : x = xs ∧ y = [] := by
  have hm := h.much
  obtain ⟨n, h⟩ := h
  cases n with
  | zero => cases h
  | succ n =>
    rw [bringF_succ] at h
    unfold bringS at h
    rw [hm] at h
    cases xs with
    | nil => simp at h; exact ⟨h.1.symm ▸ rfl, h.2.symm ▸ rfl⟩
    | cons a xs => simp at h; exact ⟨h.1.symm, h.2.symm ▸ rfl⟩
theorem Br.nil {ys : List OpT} (h : muchP [] ys = false) : Br prior [] ys [] ys := ⟨1, by rw [bringF_succ]; unfold bringS; rw [h]; rfl⟩
theorem Br.nil2 {xs : List OpT} (h : muchP xs [] = false) : Br prior xs [] xs [] := ⟨1, by
  rw [bringF_succ]
  unfold bringS
  rw [h]
  cases xs <;> rfl⟩
theorem bringF_cons {n : Nat} {a a' b : OpT} {xs ys X W : List OpT} (h : bringF prior (n + 1) (a :: a' :: xs) (b :: ys) = some (X, W, 0)) :
    ∃ x1 y1 z, bringF prior n [a] (b :: ys) = some (x1, y1, 0) ∧ bringF prior n (a' :: xs) y1 = some (z, W, 0) ∧ X = x1 ++ z ∧ muchP X W = false := by
  rw [bringF_succ] at h
  unfold bringS at h
  cases hm : muchP (a :: a' :: xs) (b :: ys) with
  | true => rw [hm] at h; simp at h
  | false =>
    rw [hm, cond_false] at h
    simp only at h
    cases h1 : bringF prior n [a] (b :: ys) with
    | none => rw [h1] at h; cases h
    | some r =>
      obtain ⟨x1, y1, e1⟩ := r
      rw [h1] at h
      simp only at h
      by_cases he : e1 = 0
      · subst he
        simp only [decide_true, Bool.not_true, cond_false] at h
        cases h2 : bringF prior n (a' :: xs) y1 with
        | none => rw [h2] at h; cases h
        | some r =>
          obtain ⟨z, w, e2⟩ := r
          rw [h2] at h
          simp only at h
          by_cases he : e2 = 0
          · subst he
            simp only [decide_true, Bool.not_true, cond_false] at h
            cases hmm : muchP (x1 ++ z) w with
            | true => rw [hmm] at h; simp at h
            | false =>
              rw [hmm] at h
              simp only [cond_false, Option.some.injEq, Prod.mk.injEq, and_true] at h
              obtain ⟨rfl, rfl⟩ := h
              exact ⟨x1, y1, z, rfl, h2, rfl, hmm⟩
          · simp [he] at h
      · simp [he] at h
theorem bringF_cons2 {n : Nat} {a b b' : OpT} {ys Z W : List OpT} (h : bringF prior (n + 1) [a] (b :: b' :: ys) = some (Z, W, 0)) :
    ∃ x y w, bringF prior n [a] [b] = some (x, y, 0) ∧ bringF prior n x (b' :: ys) = some (Z, w, 0) ∧ W = y ++ w ∧ muchP Z W = false := by
  rw [bringF_succ] at h
  unfold bringS at h
  cases hm : muchP [a] (b :: b' :: ys) with
  | true => rw [hm] at h; simp at h
  | false =>
    rw [hm, cond_false] at h
    simp only at h
    cases h1 : bringF prior n [a] [b] with
    | none => rw [h1] at h; cases h
    | some r =>
      obtain ⟨x1, y1, e1⟩ := r
      rw [h1] at h
      simp only at h
      by_cases he : e1 = 0
      · subst he
        simp only [decide_true, Bool.not_true, cond_false] at h
        cases h2 : bringF prior n x1 (b' :: ys) with
        | none => rw [h2] at h; cases h
        | some r =>
          obtain ⟨z, w, e2⟩ := r
          rw [h2] at h
          simp only at h
          by_cases he : e2 = 0
          · subst he
            simp only [decide_true, Bool.not_true, cond_false] at h
            cases hmm : muchP z (y1 ++ w) with
            | true => rw [hmm] at h; simp at h
            | false =>
              rw [hmm] at h
              simp only [cond_false, Option.some.injEq, Prod.mk.injEq, and_true] at h
              obtain ⟨rfl, rfl⟩ := h
              exact ⟨x1, y1, w, rfl, h2, rfl, hmm⟩
          · simp [he] at h
      · simp [he] at h
theorem Br.cons {a a' b : OpT} {xs ys x1 y1 z W : List OpT} (h1 : Br prior [a] (b :: ys) x1 y1) (h2 : Br prior (a' :: xs) y1 z W) (m1 : muchP (a :: a' :: xs) (b :: ys) = false) (m2 : muchP (x1 ++ z) W = false) : Br prior (a :: a' :: xs) (b :: ys) (x1 ++ z) W := by
  obtain ⟨n1, h1⟩ := h1
  obtain ⟨n2, h2⟩ := h2
  refine ⟨max n1 n2 + 1, ?_⟩
  rw [bringF_succ]
  unfold bringS
  rw [m1, cond_false]
  simp only
  rw [bringF_le h1 (Nat.le_max_left _ _)]
  simp only [decide_true, Bool.not_true, cond_false]
  rw [bringF_le h2 (Nat.le_max_right _ _)]
  simp only [decide_true, Bool.not_true, cond_false]
  rw [m2]
  rfl
theorem muchP_iff {x y : List OpT} : muchP x y = false ↔ x.length ≤ 4096 ∧ y.length ≤ 4096 := by
  unfold muchP
  simp only [Bool.or_eq_false_iff, decide_eq_false_iff_not, Nat.not_lt]
theorem Br.res {xs ys x y : List OpT} (h : Br prior xs ys x y) : muchP x y = false := by
  have hm := h.much
  obtain ⟨n, h⟩ := h
  cases n with
  | zero => cases h
  | succ n =>
    match xs, ys, h, hm with
    | [], ys, h, hm =>
      obtain ⟨rfl, rfl⟩ := Br.nil_inv ⟨_, h⟩
      exact hm
    | a :: xs, [], h, hm =>
      obtain ⟨rfl, rfl⟩ := Br.nil2_inv ⟨_, h⟩
      exact hm
    | [a], [b], h, _ =>
      have := (bringF_inv prior _ _ _ _ _ h).s
      simp only [List.length_cons, List.length_nil] at this
      exact muchP_iff.2 ⟨by omega, by omega⟩
    | a :: a' :: xs, b :: ys, h, _ =>
      obtain ⟨x1, y1, z, _, _, rfl, hmm⟩ := bringF_cons h
      exact hmm
    | [a], b :: b' :: ys, h, _ =>
      obtain ⟨x1, y1, w, _, _, rfl, hmm⟩ := bringF_cons2 h
      exact hmm
/-- Two lists in one, brought by a third one. -/
theorem Br.split {x2 : List OpT} : ∀ {x1 bs Y Q : List OpT}, Br prior (x1 ++ x2) bs Y Q → ∃ y1 b1 y2, Br prior x1 bs y1 b1 ∧ Br prior x2 b1 y2 Q ∧ Y = y1 ++ y2
  | [], bs, Y, Q, h => by
    have hm := muchP_iff.1 h.much
    exact ⟨[], bs, Y, Br.nil (muchP_iff.2 ⟨Nat.zero_le _, hm.2⟩), h, rfl⟩
  | a :: x1, [], Y, Q, h => by
    have hm := muchP_iff.1 h.much
    simp only [List.length_append] at hm
    obtain ⟨rfl, rfl⟩ := h.nil2_inv
    exact ⟨a :: x1, [], x2, Br.nil2 (muchP_iff.2 ⟨by omega, Nat.zero_le _⟩), Br.nil2 (muchP_iff.2 ⟨by omega, Nat.zero_le _⟩), rfl⟩
  | [a], b :: bs, Y, Q, h => by
    cases x2 with
    | nil =>
      have hm := muchP_iff.1 h.res
      exact ⟨Y, Q, [], h, Br.nil (muchP_iff.2 ⟨Nat.zero_le _, hm.2⟩), (List.append_nil Y).symm⟩
    | cons a' x2 =>
      obtain ⟨n, h⟩ := h
      cases n with
      | zero => cases h
      | succ n =>
        obtain ⟨x, y, z, h1, h2, rfl, _⟩ := bringF_cons h
        exact ⟨x, y, z, ⟨_, h1⟩, ⟨_, h2⟩, rfl⟩
  | a :: a1 :: x1, b :: bs, Y, Q, h => by
    have hm := muchP_iff.1 h.much
    have hr := muchP_iff.1 h.res
    obtain ⟨n, h⟩ := h
    cases n with
    | zero => cases h
    | succ n =>
      obtain ⟨u, v, s, h1, h2, rfl, _⟩ := bringF_cons h
      obtain ⟨s1, t, s2, q1, q2, rfl⟩ := Br.split (x1 := a1 :: x1) (bs := v) ⟨_, h2⟩
      simp only [List.length_append, List.length_cons] at hm hr
      have ht := muchP_iff.1 q2.much
      exact ⟨u ++ s1, t, s2, Br.cons ⟨_, h1⟩ q1 (muchP_iff.2 ⟨by simp only [List.length_cons]; omega, by simp only [List.length_cons]; omega⟩) (muchP_iff.2 ⟨by simp only [List.length_append]; omega, ht.2⟩), q2, (List.append_assoc _ _ _).symm⟩
end
end Bow
/- SP30: what two lists come to; brought by two lists or by both in one, in plain Lean. -/
namespace Bow
open Go

end Bow
/- AE36: arguments that are read as data, as deep values; a call's contract out of a function's. -/
namespace Bow
open Go

def β0 : Nat → Loc := fun _ => .none

/-! ### Types that are read -/
section
variable {H : Type} {enc : TypeId × Value → H} {P : Program} {w : World} {base : Nat} {spare : Nat → Bool} {held : Bool}

theorem notOwn0 (b : Nat) : ¬ ownB β0 [] b := by
  rintro ⟨r, N, ⟨o, h⟩, _⟩
  simp at h

/-! ### Calls -/
theorem calls_of_pure {f : FuncId} {args : List V} {vals : Array Value} {b : Bool} (h : Pure P f args fun x => x = .bool b) (hp : V.pureL args = true) (hl : args.length = vals.size)
    (hr : ∀ (j : Nat) (x : V) (v : Value), args[j]? = some x → vals[j]? = some v → Rep w β0 [] x v) : Calls P f vals w fun e w' => e = .returned (.bool b) ∧ RowKit.Below w.heap.size w w' := by
  intro cs
  have hrel : HRel w β0 [] := ⟨fun r o h => by simp at h, fun r r' b N N' hl => by obtain ⟨o, h⟩ := hl; simp at h⟩
  have hs : SRel [] 0 w β0 [] [] ⟨[], [], fun _ => none, []⟩ bare := by
    refine ⟨hrel, rfl, fun k => by simp [lk, V.conv]; exact .undef _, rfl, List.nodup_nil, by simp, rfl, fun r h _ => by simp at h, fun r _ => rfl, by simp, by simp, by simp, rfl, by simp⟩
  obtain ⟨x, v, w', β', H', fr, hq, _, _, k2, k3, k4, k5, k6⟩ := pure_step h hp hs cs hl (fun j x v hj hv => by
    rw [pure_conv _ _ (pureL_mem _ hp x (List.mem_of_getElem? hj))]
    exact hr j x v hj hv)
  subst hq
  have hv : v = .bool b := rep_bool (m := []) k3
  subst hv
  exact ⟨.returned (.bool b), w', fr, ⟨rfl, k2.os, k2.tape, k2.output, k2.size, fun q hq => k2.keep q hq (notOwn0 q)⟩, k4, k5, k6⟩
end
end Bow
/- AE37: calls of functions that are handed some of the caller's objects, and leave objects of their own. -/
namespace Bow
open Go

/-! ### Names, renamed -/
def Ref.ren (ρ : List Nat) : Ref → Ref
  | .loc k => match ρ[k]? with
    | some j => .loc j
    | none => .bad
  | .abs n => .abs n
  | .bad => .bad
mutual
def V.ren (ρ : List Nat) : V → V
  | .osl r g o l => .osl (r.ren ρ) g o l
  | .ptr r o => .ptr (r.ren ρ) o
  | .eptr r g i o => .eptr (r.ren ρ) g i o
  | .agg cs => .agg (V.renL ρ cs)
  | .tup vs => .tup (V.renL ρ vs)
  | .fn f a c => .fn f (V.renL ρ a) (V.renL ρ c)
  | .yld r => .yld (r.ren ρ)
  | .iface t v => .iface t (v.ren ρ)
  | .int k n => .int k n
  | .bool b => .bool b
  | .tt => .tt
  | .ff => .ff
  | .str s => .str s
  | .sl s xs => .sl s xs
  | .nilsl => .nilsl
  | .iptr cs o => .iptr cs o
  | .nilp => .nilp
  | .nilf => .nilf
  | .nili => .nili
  | .nilmap => .nilmap
  | .undef => .undef
def V.renL (ρ : List Nat) : List V → List V
  | [] => []
  | v :: vs => v.ren ρ :: V.renL ρ vs
end
theorem V.renL_eq (ρ : List Nat) : ∀ vs, V.renL ρ vs = vs.map (V.ren ρ)
  | [] => rfl
  | v :: vs => by rw [V.renL, V.renL_eq ρ vs]; rfl
def HObj.ren (ρ : List Nat) : HObj → HObj
  | .box cs => .box (V.renL ρ cs)
  | .vec g sz xs => .vec g sz xs
  | .loop st pe fn E nt ps asg bo => .loop st pe fn (E.map fun p => (p.1, p.2.ren ρ)) nt ps asg bo
  | .dfr => .dfr

/-- The names ρ of the objects m are m1. -/
def Sub (ρ m m1 : List Nat) : Prop := m1.length = ρ.length ∧ ∀ i k : Nat, ρ[i]? = some k → ∃ r : Nat, m[k]? = some r ∧ m1[i]? = some r

theorem Ref.ren_conv {ρ m m1 : List Nat} (h : Sub ρ m m1) : ∀ r : Ref, r.sc ρ.length → (r.ren ρ).conv m = r.conv m1
  | .loc i, hi => by
    have hi : i < ρ.length := hi
    have e := List.getElem?_eq_getElem hi
    obtain ⟨r, h1, h2⟩ := h.2 i _ e
    simp only [Ref.ren, e, Ref.conv, h1, h2]
  | .abs _, _ => rfl
  | .bad, _ => rfl
theorem Ref.ren_sc {ρ m m1 : List Nat} (h : Sub ρ m m1) : ∀ r : Ref, r.sc ρ.length → (r.ren ρ).sc m.length
  | .loc i, hi => by
    have hi : i < ρ.length := hi
    have e := List.getElem?_eq_getElem hi
    obtain ⟨r, h1, h2⟩ := h.2 i _ e
    simp only [Ref.ren, e]
    exact lt_of_get h1
  | .abs _, _ => trivial
  | .bad, _ => trivial
mutual
theorem V.ren_conv {ρ m m1 : List Nat} (h : Sub ρ m m1) : ∀ v : V, v.sc ρ.length → (v.ren ρ).conv m = v.conv m1
  | .osl r _ _ _, hs => by simp only [V.ren, V.conv, r.ren_conv h hs]
  | .ptr r _, hs => by simp only [V.ren, V.conv, r.ren_conv h hs]
  | .eptr r _ _ _, hs => by simp only [V.ren, V.conv, r.ren_conv h hs]
  | .yld r, hs => by simp only [V.ren, V.conv, r.ren_conv h hs]
  | .agg cs, hs => by simp only [V.ren, V.conv, V.renL_conv h cs hs]
  | .tup cs, hs => by simp only [V.ren, V.conv, V.renL_conv h cs hs]
  | .fn _ a c, hs => by simp only [V.ren, V.conv, V.renL_conv h a hs.1, V.renL_conv h c hs.2]
  | .iface _ v, hs => by simp only [V.ren, V.conv, v.ren_conv h hs]
  | .int .., _ | .bool _, _ | .tt, _ | .ff, _ | .str _, _ | .sl .., _ | .nilsl, _ | .iptr .., _ | .nilp, _ | .nilf, _ | .nili, _ | .nilmap, _ | .undef, _ => rfl
theorem V.renL_conv {ρ m m1 : List Nat} (h : Sub ρ m m1) : ∀ vs : List V, V.scL ρ.length vs → V.convL m (V.renL ρ vs) = V.convL m1 vs
  | [], _ => rfl
  | v :: vs, hs => by simp only [V.renL, V.convL, v.ren_conv h hs.1, V.renL_conv h vs hs.2]
end
mutual
theorem V.ren_sc {ρ m m1 : List Nat} (h : Sub ρ m m1) : ∀ v : V, v.sc ρ.length → (v.ren ρ).sc m.length
  | .osl r _ _ _, hs | .ptr r _, hs | .eptr r _ _ _, hs | .yld r, hs => r.ren_sc h hs
  | .agg cs, hs | .tup cs, hs => V.renL_sc h cs hs
  | .fn _ a c, hs => ⟨V.renL_sc h a hs.1, V.renL_sc h c hs.2⟩
  | .iface _ v, hs => v.ren_sc h hs
  | .int .., _ | .bool _, _ | .tt, _ | .ff, _ | .str _, _ | .sl .., _ | .nilsl, _ | .iptr .., _ | .nilp, _ | .nilf, _ | .nili, _ | .nilmap, _ | .undef, _ => trivial
theorem V.renL_sc {ρ m m1 : List Nat} (h : Sub ρ m m1) : ∀ vs : List V, V.scL ρ.length vs → V.scL m.length (V.renL ρ vs)
  | [], _ => trivial
  | v :: vs, hs => ⟨v.ren_sc h hs.1, V.renL_sc h vs hs.2⟩
end
theorem HObj.ren_conv {ρ m m1 : List Nat} (h : Sub ρ m m1) : ∀ o : HObj, o.sc ρ.length → (o.ren ρ).conv m = o.conv m1
  | .box cs, hs => by simp only [HObj.ren, HObj.conv, V.renL_conv h cs hs]
  | .vec .., _ => rfl
  | .dfr, _ => rfl
  | .loop _ _ _ E _ _ _ _, hs => by
    simp only [HObj.ren, HObj.conv, Env.conv, List.map_map, HObj.loop.injEq, true_and, and_true]
    exact List.map_congr_left fun p hp => by simp only [Function.comp_apply]; rw [V.ren_conv h p.2 (hs p hp)]
theorem HObj.ren_sc {ρ m m1 : List Nat} (h : Sub ρ m m1) : ∀ o : HObj, o.sc ρ.length → (o.ren ρ).sc m.length
  | .box cs, hs => V.renL_sc h cs hs
  | .vec .., _ => trivial
  | .dfr, _ => trivial
  | .loop _ _ _ E _ _ _ _, hs => fun p hp => by
    obtain ⟨q, hq, rfl⟩ := List.mem_map.1 hp
    exact V.ren_sc h q.2 (hs q hq)

/-! ### The caller's objects behind the call -/
def omap (ρ : List Nat) (o : Option HObj) : Option HObj :=
  match o with
  | none => none
  | some o => some (o.ren ρ)
def setAll (ρ : List Nat) : List Nat → Heap → Heap → Heap
  | k :: ks, o :: os, T => setAll ρ ks os (T.set k (omap ρ o))
  | _, os, T => T ++ os.map (omap ρ)
def setAllK (ρ : List Nat) : List Nat → Heap → Heap → (Heap → Prop) → Prop
  | k :: ks, o :: os, T, K => lset T k (omap ρ o) fun T' => setAllK ρ ks os T' K
  | _, os, T, K => K (T ++ lmap (omap ρ) os)
theorem setAllK_eq (ρ : List Nat) : ∀ (ks : List Nat) (os T : Heap) (K : Heap → Prop), setAllK ρ ks os T K = K (setAll ρ ks os T)
  | k :: ks, o :: os, T, K => by rw [setAllK, lset_eq, setAllK_eq ρ ks os]; rfl
  | [], os, T, K => by simp only [setAllK, setAll, lmap_eq]
  | k :: ks, [], T, K => by simp only [setAllK, setAll, lmap_eq]
theorem setAll_len (ρ : List Nat) : ∀ (ks : List Nat) (os T : Heap), ks.length ≤ os.length → (setAll ρ ks os T).length = T.length + (os.length - ks.length)
  | k :: ks, o :: os, T, h => by
    rw [setAll, setAll_len ρ ks os _ (by simpa using h)]
    simp
  | [], os, T, _ => by simp [setAll]
  | k :: ks, [], T, h => by simp at h
theorem setAll_other (ρ : List Nat) {j : Nat} : ∀ (ks : List Nat) (os T : Heap), j ∉ ks → j < T.length → (setAll ρ ks os T)[j]? = T[j]?
  | k :: ks, o :: os, T, h, hj => by
    rw [setAll, setAll_other ρ ks os _ (fun hm => h (List.mem_cons_of_mem _ hm)) (by simpa using hj), List.getElem?_set_ne (fun e : k = j => by subst e; exact h List.mem_cons_self)]
  | [], os, T, _, hj => by simp only [setAll]; rw [List.getElem?_append_left hj]
  | k :: ks, [], T, _, hj => by simp only [setAll]; rw [List.getElem?_append_left hj]
theorem setAll_at (ρ : List Nat) : ∀ (ks : List Nat) (os T : Heap), ks.Nodup → (∀ k ∈ ks, k < T.length) → ks.length ≤ os.length → ∀ (i k : Nat), ks[i]? = some k → (setAll ρ ks os T)[k]? = os[i]?.map (omap ρ)
  | k0 :: ks, o :: os, T, hn, hl, hle, i, k, hk => by
    obtain ⟨h1, h2⟩ := List.nodup_cons.1 hn
    have hk0 := hl k0 List.mem_cons_self
    rw [setAll]
    cases i with
    | zero =>
      simp only [List.getElem?_cons_zero, Option.some.injEq] at hk
      subst hk
      rw [setAll_other ρ ks os _ h1 (by simpa using hk0)]
      simp [hk0]
    | succ i =>
      simp only [List.getElem?_cons_succ] at hk ⊢
      exact setAll_at ρ ks os _ h2 (fun k hk => by simpa using hl k (List.mem_cons_of_mem _ hk)) (by simpa using hle) i k hk
  | [], os, T, _, _, _, i, k, hk => by simp at hk
  | k0 :: ks, [], T, _, _, hle, i, k, hk => by simp at hle
theorem setAll_new (ρ : List Nat) : ∀ (ks : List Nat) (os T : Heap), ks.length ≤ os.length → ∀ j, (setAll ρ ks os T)[T.length + j]? = os[ks.length + j]?.map (omap ρ)
  | k0 :: ks, o :: os, T, hle, j => by
    rw [setAll]
    have := setAll_new ρ ks os (T.set k0 (omap ρ o)) (by simpa using hle) j
    simp only [List.length_set] at this
    rw [this, List.length_cons, show ks.length + 1 + j = (ks.length + j) + 1 by omega, List.getElem?_cons_succ]
  | [], os, T, _, j => by
    simp only [setAll]
    rw [List.getElem?_append_right (by omega)]
    simp
  | k0 :: ks, [], T, hle, j => by simp at hle

def subB : List Nat → Nat → Bool
  | [], _ => true
  | k :: ks, n => Nat.blt k n && subB ks n
theorem subB_get : ∀ (ks : List Nat) (n : Nat), subB ks n = true → ∀ k ∈ ks, k < n
  | [], _, _, k, h => by cases h
  | x :: ks, n, hs, k, h => by
    simp only [subB, Bool.and_eq_true] at hs
    rcases List.mem_cons.1 h with rfl | h
    · exact Nat.le_of_ble_eq_true hs.1
    · exact subB_get ks n hs.2 k h

/-- The objects ks of the caller, as the called one sees them. -/
def objsAre (ks : List Nat) (T : Heap) : List Nat → Heap → Prop
  | [], [] => True
  | k :: l, some o :: os => (lget T k = some (some (o.ren ks)) ∧ o.scB ks.length = true) ∧ objsAre ks T l os
  | _, _ => False
theorem objsAre_get {ks0 : List Nat} {T : Heap} : ∀ {l : List Nat} {os : Heap}, objsAre ks0 T l os → l.length = os.length ∧ ∀ (i k : Nat), l[i]? = some k → ∃ o, os[i]? = some (some o) ∧ T[k]? = some (some (o.ren ks0)) ∧ o.sc ks0.length
  | [], [], _ => ⟨rfl, fun i k h => by simp at h⟩
  | k0 :: l, some o :: os, h => by
    obtain ⟨h1, h2⟩ := objsAre_get h.2
    refine ⟨by simp [h1], fun i k hk => ?_⟩
    cases i with
    | zero =>
      simp only [List.getElem?_cons_zero, Option.some.injEq] at hk
      subst hk
      exact ⟨o, rfl, by rw [← lget_eq]; exact h.1.1, HObj.scB_sc o h.1.2⟩
    | succ i => simpa using h2 i k (by simpa using hk)
  | [], _ :: _, h => h.elim
  | _ :: _, [], h => h.elim
  | _ :: _, none :: _, h => h.elim

def rangeFrom : Nat → Nat → List Nat
  | _, 0 => []
  | n, k + 1 => n :: rangeFrom (n + 1) k
theorem rangeFrom_len : ∀ (k n : Nat), (rangeFrom n k).length = k
  | 0, _ => rfl
  | k + 1, n => by simp [rangeFrom, rangeFrom_len k]
theorem rangeFrom_get : ∀ (k n i : Nat), i < k → (rangeFrom n k)[i]? = some (n + i)
  | k + 1, n, 0, _ => rfl
  | k + 1, n, i + 1, h => by
    rw [rangeFrom, List.getElem?_cons_succ, rangeFrom_get k (n + 1) i (by omega)]
    congr 1
    omega
/-- The names of what the called one has: those that it was handed, and new ones. -/
def subρ (ks : List Nat) (n : Nat) (T1 : Heap) : List Nat := ks ++ rangeFrom n (lcount T1 0 - lcount ks 0)

theorem call_sub {c : Cx} {g : FuncId} {args args' : List V} {E : Env} {T T1 : Heap} {K : V → St → Prop} {Q : V → Heap → Prop} (ks : List Nat) (hf : Fun c.P g T1 args' Q) (hnd : nodupB ks = true) (hlt : subB ks T.length = true) (ho : objsAre ks T ks T1) (ha : args = V.renL ks args') (hsc : V.scBL ks.length args' = true)
    (hD : c.D.all (fun k => !memN ks k) = true)
    (h : ∀ x T1', Q x T1' → allLive (ldrop T1' ks.length) = true ∧ setAllK (subρ ks T.length T1') ks T1' T fun T2 => K (x.ren (subρ ks T.length T1')) ⟨E, T2, c.B, c.D⟩) : CallThen c g args E T K := by
  have hen : Enterable c.P g := by unfold Fun at hf; exact hf.1
  unfold CallThen
  unfold Fun at hf
  refine ⟨hen, fun w β H m a vals cs hs hl hr => ?_⟩
  have hml : m.length = T.length := hs.mlen
  have hnd' := nodupB_iff _ hnd
  have hlt' := subB_get _ _ hlt
  obtain ⟨hol, hoo⟩ := objsAre_get ho
  obtain ⟨m1, hm1⟩ : ∃ m1, m1 = ks.map fun k => (m[k]?).getD 0 := ⟨_, rfl⟩
  have hsub : Sub ks m m1 := by
    refine ⟨by rw [hm1]; simp, fun i k hk => ?_⟩
    have hkm : k < m.length := by rw [hml]; exact hlt' k (List.mem_of_getElem? hk)
    have e := List.getElem?_eq_getElem hkm
    exact ⟨m[k], e, by rw [hm1, List.getElem?_map, hk]; simp [e]⟩
  have hm1l : m1.length = T1.length := by rw [hsub.1]; exact hol
  have hm1nd : m1.Nodup := by
    rw [hm1]
    refine List.Pairwise.map _ (fun x y h => ?_) (List.Pairwise.and_mem.1 hnd')
    obtain ⟨hx, hy, hne⟩ := h
    have hxm : x < m.length := by rw [hml]; exact hlt' x hx
    have hym : y < m.length := by rw [hml]; exact hlt' y hy
    intro e
    simp only [List.getElem?_eq_getElem hxm, List.getElem?_eq_getElem hym, Option.getD_some] at e
    exact hne (hs.inj (List.getElem?_eq_getElem hxm) (by rw [e]; exact List.getElem?_eq_getElem hym))
  have hmem : ∀ r, r ∈ m1 → ∃ i k, ks[i]? = some k ∧ m[k]? = some r ∧ m1[i]? = some r := fun r hr => by
    obtain ⟨i, hi⟩ := List.getElem?_of_mem hr
    have hil : i < ks.length := by have := lt_of_get hi; rw [hsub.1] at this; exact this
    obtain ⟨r', h1, h2⟩ := hsub.2 i _ (List.getElem?_eq_getElem hil)
    rw [hi] at h2
    injection h2 with h2
    subst h2
    exact ⟨i, _, List.getElem?_eq_getElem hil, h1, hi⟩
  have hargsc := (V.scL_iff _ _).1 (V.scBL_sc _ hsc)
  have hs1 : SRel m1 0 w β H m1 ⟨[], T1, fun r => (H[r]?).getD none, []⟩ bare := by
    refine ⟨hs.hrel, rfl, fun k => by simp [lk, V.conv]; exact .undef _, hm1l, hm1nd, fun i r o hi hoi => ?_, by simp, fun r hr hn => by simp [hr], fun r hr => by simp [List.getElem?_eq_none hr], fun k r hk hm => by have := lt_of_get hm; omega, by simp, fun i o hoi => ?_, rfl, by simp⟩
    · have hil : i < ks.length := by have := lt_of_get hi; rw [hsub.1] at this; exact this
      have hk := List.getElem?_eq_getElem hil
      obtain ⟨r', h1, h2⟩ := hsub.2 i _ hk
      rw [hi] at h2
      injection h2 with h2
      subst h2
      obtain ⟨o', e1, e2, e3⟩ := hoo i _ hk
      simp only at hoi
      rw [e1] at hoi
      injection hoi with hoi
      subst hoi
      rw [hs.loc _ r _ h1 e2]
      simp only [Option.map_some]
      rw [HObj.ren_conv hsub o' e3]
    · have hil : i < ks.length := by have := lt_of_get hoi; simp only at this; omega
      obtain ⟨o', e1, e2, e3⟩ := hoo i _ (List.getElem?_eq_getElem hil)
      simp only at hoi ⊢
      rw [e1] at hoi
      injection hoi with hoi
      injection hoi with hoi
      subst hoi
      rw [← hol]
      exact e3
  obtain ⟨x, T1', v, w', β', H', m1', fr, hq, k1, k2, k3, k4, k5, k6⟩ := hf.2 w β H m1 _ vals cs hs1 (by rw [← hl, ha, V.renL_eq]; simp) (fun j y u hj hu => by
    have := hr j (y.ren ks) u (by rw [ha, V.renL_eq, List.getElem?_map, hj]; rfl) hu
    rwa [V.ren_conv hsub y (hargsc y (List.mem_of_getElem? hj))] at this)
  obtain ⟨hlive, h⟩ := h x T1' hq
  rw [setAllK_eq] at h
  rw [ldrop_eq] at hlive
  obtain ⟨ρ, hρ⟩ : ∃ ρ, ρ = subρ ks T.length T1' := ⟨_, rfl⟩
  rw [← hρ] at h
  -- the names behind the call
  have hpre : m1 = m1'.take m1.length := by have := k1.imp; rw [this]
  obtain ⟨new, hnew⟩ : ∃ new, m1' = m1 ++ new := ⟨m1'.drop m1.length, by conv => lhs; rw [← List.take_append_drop m1.length m1', ← hpre]⟩
  have hm1'l : m1'.length = T1'.length := k1.mlen
  have hks' : ks.length ≤ T1'.length := by rw [hnew] at hm1'l; simp at hm1'l; have := hsub.1; omega
  have hnl : new.length = T1'.length - ks.length := by rw [hnew] at hm1'l; simp at hm1'l; have := hsub.1; omega
  have hnget : ∀ j r, new[j]? = some r → m1'[ks.length + j]? = some r := fun j r hj => by
    rw [hnew, List.getElem?_append_right (by rw [hsub.1]; omega), hsub.1, Nat.add_sub_cancel_left]
    exact hj
  have hlen : H.length ≤ H'.length := k2.len
  have hfresh : ∀ r, r ∈ new → H.length ≤ r := fun r hr => by
    obtain ⟨j, hj⟩ := List.getElem?_of_mem hr
    have hm := hnget j r hj
    have hjl : ks.length + j < T1'.length := by have := lt_of_get hm; omega
    have hT := List.getElem?_eq_getElem hjl
    obtain ⟨o, ho⟩ := allLive_get hlive j _ (by rw [List.getElem?_drop]; exact hT)
    rw [ho] at hT
    have hH' := k1.loc _ r _ hm hT
    have hz := k1.own (ks.length + j) r (by rw [hsub.1]; omega) hm
    simp only at hz
    rcases Nat.lt_or_ge r H.length with h1 | h1
    · obtain ⟨o1, e1, _⟩ := k2.evo r _ h1 hH'
      rw [e1] at hz
      cases hz
    · exact h1
  have hρe : ρ = ks ++ rangeFrom T.length new.length := by rw [hρ]; unfold subρ; rw [lcount_eq, lcount_eq, hnl]; simp
  have hρl : ρ.length = T1'.length := by rw [hρe]; simp [rangeFrom_len]; omega
  obtain ⟨m', hm'⟩ : ∃ m', m' = m ++ new := ⟨_, rfl⟩
  have hm'l : m'.length = T.length + new.length := by rw [hm']; simp [hml]
  have hsub' : Sub ρ m' m1' := by
    refine ⟨by rw [hm1'l, hρl], fun i k hk => ?_⟩
    rw [hρe] at hk
    rcases Nat.lt_or_ge i ks.length with h1 | h1
    · rw [List.getElem?_append_left h1] at hk
      obtain ⟨r, e1, e2⟩ := hsub.2 i k hk
      exact ⟨r, by rw [hm', List.getElem?_append_left (lt_of_get e1)]; exact e1, by rw [hnew, List.getElem?_append_left (lt_of_get e2)]; exact e2⟩
    · rw [List.getElem?_append_right h1] at hk
      have hi := lt_of_get hk
      rw [rangeFrom_len] at hi
      rw [rangeFrom_get _ _ _ hi] at hk
      injection hk with hk
      subst hk
      refine ⟨new[i - ks.length], by rw [hm', List.getElem?_append_right (by omega), hml, Nat.add_sub_cancel_left]; exact List.getElem?_eq_getElem hi, ?_⟩
      rw [hnew, List.getElem?_append_right (by rw [hsub.1]; exact h1), hsub.1]
      exact List.getElem?_eq_getElem hi
  have hext : ∀ u : V, u.sc m.length → u.conv m' = u.conv m := fun u hu => by rw [hm']; exact V.conv_ext (Nat.le_refl _) u hu
  have hin : ∀ r, r ∈ m1' → r ∈ m1 ∨ r ∈ new := fun r hr => by rw [hnew] at hr; exact List.mem_append.1 hr
  have hold : ∀ r, r < H.length → r ∉ m1 → H'[r]? = H[r]? := fun r hr hn => by
    have hn' : r ∉ m1' := fun hm => by
      rcases hin r hm with h1 | h1
      · exact hn h1
      · have := hfresh r h1; omega
    rw [k1.base r (Nat.lt_of_lt_of_le hr hlen) hn']
    simp [hr]
  have hscT1 : ∀ (i : Nat) (o : HObj), T1'[i]? = some (some o) → o.sc ρ.length := fun i o ho => by rw [hρl]; exact k1.scT i o ho
  have hT2l : (setAll ρ ks T1' T).length = T.length + new.length := by rw [setAll_len _ _ _ _ hks', hnl]
  -- an object, handed over or new
  have hobj : ∀ (i k r : Nat) (o : Option HObj), ρ[i]? = some k → m'[k]? = some r → T1'[i]? = some o → H'[r]? = some ((omap ρ o).map (HObj.conv m')) := fun i k r o hi hk ho => by
    obtain ⟨r', e1, e2⟩ := hsub'.2 i k hi
    rw [hk] at e1
    injection e1 with e1
    subst e1
    rw [k1.loc i r o e2 ho]
    cases o with
    | none => rfl
    | some o => simp only [omap, Option.map_some]; rw [HObj.ren_conv hsub' o (hscT1 i o ho)]
  have hcase : ∀ k, k < T.length + new.length → (∃ i, ρ[i]? = some k ∧ (setAll ρ ks T1' T)[k]? = T1'[i]?.map (omap ρ)) ∨ (k < T.length ∧ k ∉ ks ∧ (setAll ρ ks T1' T)[k]? = T[k]?) := fun k hk => by
    rcases Nat.lt_or_ge k T.length with h1 | h1
    · by_cases hm : k ∈ ks
      · obtain ⟨i, hi⟩ := List.getElem?_of_mem hm
        exact .inl ⟨i, by rw [hρe, List.getElem?_append_left (lt_of_get hi)]; exact hi, setAll_at ρ ks T1' T hnd' hlt' hks' i k hi⟩
      · exact .inr ⟨h1, hm, setAll_other ρ ks T1' T hm h1⟩
    · refine .inl ⟨ks.length + (k - T.length), ?_, ?_⟩
      · rw [hρe, List.getElem?_append_right (by omega), Nat.add_sub_cancel_left, rangeFrom_get _ _ _ (by omega)]
        congr 1
        omega
      · have := setAll_new ρ ks T1' T hks' (k - T.length)
        rwa [Nat.add_sub_cancel' h1] at this
  refine ⟨_, _, v, w', β', H', m', fr, h, ?_, k2, by rw [V.ren_conv hsub' x (by rw [hρl, ← hm1'l]; exact sc_of_rep x k3)]; exact k3, k4, k5, k6, by rw [hm']; exact List.prefix_append _ _⟩
  refine ⟨k1.hrel, hs.size, fun k => ?_, by rw [hm'l, hT2l], ?_, fun k r o hk ho' => ?_, ?_, fun r hr hn => ?_, fun r hr => hs.fut r (Nat.le_trans hlen hr), fun k r hk hm => ?_, fun p hp => ?_, fun k o ho' => ?_, hs.defs, ?_⟩
  · simp only
    rw [hext _ (by have := lk_sc E k hs.scE; rwa [hml])]
    exact (hs.env k).mono k2
  · rw [hm']
    refine List.nodup_append.2 ⟨hs.nodup, ?_, fun a ha b hb e => ?_⟩
    · have := k1.nodup
      rw [hnew] at this
      exact (List.nodup_append.1 this).2.1
    · subst e
      obtain ⟨j, hj⟩ := List.getElem?_of_mem ha
      have := hs.lt hj
      have := hfresh _ hb
      omega
  · have hkl : k < T.length + new.length := by have := lt_of_get hk; omega
    simp only at ho'
    rcases hcase k hkl with ⟨i, e1, e2⟩ | ⟨e1, e2, e3⟩
    · rw [e2] at ho'
      rw [Option.map_eq_some_iff] at ho'
      obtain ⟨o1, e4, e5⟩ := ho'
      subst e5
      exact hobj i k r o1 e1 hk e4
    · rw [e3] at ho'
      have hkm : m[k]? = some r := by rw [hm', List.getElem?_append_left (by omega)] at hk; exact hk
      have hrn : r ∉ m1 := fun hm => by
        obtain ⟨i, k2', q1, q2, _⟩ := hmem r hm
        have := hs.inj q2 hkm
        subst this
        exact e2 (List.mem_of_getElem? q1)
      rw [hold r (hs.lt hkm) hrn, hs.loc k r o hkm ho']
      cases o with
      | none => rfl
      | some o =>
        simp only [Option.map_some, Option.some.injEq]
        have := hs.scT k o ho'
        rw [hm']
        exact (HObj.conv_ext (Nat.le_refl _) o (by rw [hml]; exact this)).symm
  · have := hs.imp
    rw [hm', List.take_append_of_le_length]
    · exact this
    · have := congrArg List.length this
      simp at this
      omega
  · simp only
    have hrm : r ∉ m := fun hm => hn (by rw [hm']; exact List.mem_append_left _ hm)
    have hrnew : r ∉ new := fun hm => hn (by rw [hm']; exact List.mem_append_right _ hm)
    have hr1 : r ∉ m1 := fun hm => by
      obtain ⟨i, k2', q1, q2, _⟩ := hmem r hm
      exact hrm (List.mem_of_getElem? q2)
    have hr1' : r ∉ m1' := fun hm => by rcases hin r hm with h1 | h1; exact hr1 h1; exact hrnew h1
    rw [k1.base r hr hr1']
    simp only
    rcases Nat.lt_or_ge r H.length with h1 | h1
    · rw [hs.base r h1 hrm]
      rfl
    · have e0 : c.B r = none := hs.fut r h1
      rw [e0, List.getElem?_eq_none h1]
      rfl
  · rcases Nat.lt_or_ge k m.length with h1 | h1
    · rw [hm', List.getElem?_append_left h1] at hm
      exact hs.own k r hk hm
    · rw [hm', List.getElem?_append_right h1] at hm
      exact hs.fut r (hfresh r (List.mem_of_getElem? hm))
  · simp only
    rw [hT2l]
    exact V.sc_mono (Nat.le_add_right _ _) _ (hs.scE p hp)
  · have hkl : k < T.length + new.length := by have := lt_of_get ho'; simp only at this; omega
    simp only at ho' ⊢
    rw [hT2l]
    rcases hcase k hkl with ⟨i, e1, e2⟩ | ⟨e1, e2, e3⟩
    · rw [e2, Option.map_eq_some_iff] at ho'
      obtain ⟨o1, e4, e5⟩ := ho'
      cases o1 with
      | none => cases e5
      | some o1 =>
        simp only [omap, Option.some.injEq] at e5
        subst e5
        rw [← hm'l]
        exact HObj.ren_sc hsub' o1 (hscT1 i o1 e4)
    · rw [e3] at ho'
      exact HObj.sc_mono (Nat.le_add_right _ _) _ (hs.scT k o ho')
  · intro j k hj
    obtain ⟨r', b, N, e1, e2, e3, e4⟩ := hs.marks j k hj
    have hkm : k < T.length := by have := lt_of_get e1; omega
    have hkn : k ∉ ks := fun hm => by
      have := List.all_eq_true.1 hD k (List.mem_of_getElem? hj)
      rw [(memN_iff _ _).2 hm] at this
      cases this
    have hr1 : r' ∉ m1 := fun hm => by
      obtain ⟨i, k2', q1, q2, _⟩ := hmem r' hm
      have := hs.inj q2 e1
      subst this
      exact hkn (List.mem_of_getElem? q1)
    have hH0 := hs.loc k r' _ e1 e2
    refine ⟨r', b, N, by rw [hm', List.getElem?_append_left (lt_of_get e1)]; exact e1, by simp only; rw [setAll_other ρ ks T1' T hkn hkm]; exact e2, ?_, e4⟩
    exact dfr_stays k2 (by simpa [HObj.conv] using hH0) e3 (by rw [hold r' (hs.lt e1) hr1, hH0]; rfl)

/-- A function's contract, out of its body's evaluation. -/
theorem fun_fn {P : Program} {f : FuncId} {fn : Func} {body : Code} {T : Heap} {args : List V} {Q : V → Heap → Prop} (n : Nat) (hf : P.funcs[f]? = some fn) (hn : (fn.name == "runtime.NumGoroutine") = false) (hb : fn.body = some body) (hnt : Nat.ble args.length fn.ntmps = true)
    (h : ∀ (imps : List Nat) (B : Base), imps.length = T.length → evp { P := P, nt := fn.ntmps, fn := f, ro := none, imps := imps, X := XR P imps fn.results B Q, B := B, D := [] } n [.code body] (env0 0 args) T) : Fun P f T args Q :=
  fun_of_goes hf hn hb hnt fun imps B hi => evp_sound _ _ _ _ _ (h imps B hi)

/-- What a call leaves, but for what nobody names: the first n objects. -/
def keepK (n : Nat) (x : V) (T : Heap) (Q : V → Heap → Prop) : Prop := ∃ T1, T1.length = n ∧ x.scB n = true ∧ heapIs n T T1 ∧ Q x T1
theorem fun_keep {P : Program} {f : FuncId} {T : Heap} {args : List V} {Q : V → Heap → Prop} (n : Nat) (hn : Nat.ble T.length n = true) (h : Fun P f T args fun x T' => keepK n x T' Q) : Fun P f T args Q := by
  unfold Fun at *
  refine ⟨h.1, fun w β H m B vals cs hs hl hr => ?_⟩
  obtain ⟨x, T', v, w', β', H', m', fr, ⟨T1, q1, q2, q3, q4⟩, k1, k2, k3, k4⟩ := h.2 w β H m B vals cs hs hl hr
  subst q1
  obtain ⟨T'', rfl, hsc⟩ := heapIs_eq q3
  have hml : m.length = T.length := hs.mlen
  obtain ⟨m2, H2, e1, e2, e3⟩ := SRel.dropTo T'' k1 (by rw [hml]; exact Nat.le_of_ble_eq_true hn) (by simp) hsc (by simp)
  refine ⟨x, T1, v, w', β', H2, m2, fr, q4, e1, k2.trans e2, ?_, k4⟩
  have hx := V.scB_sc x q2
  have : x.conv m2 = x.conv m' := by
    rw [e3]
    have hle : T1.length ≤ (m'.take T1.length).length := by
      have := k1.mlen
      simp at this ⊢
      omega
    conv => rhs; rw [← List.take_append_drop T1.length m']
    exact (V.conv_ext hle x hx).symm
  rw [this]
  exact k3.mono e2
end Bow
/- AE38: a row that grows for more; own slices cut; a nil slice as own memory. -/
namespace Bow
open Go

section
variable {c : Cx} {E : Env} {T : Heap} {ops : Array Oper} {i : Nat} {rest : List Nat} {k : List Item} {o : Oper}

end

/-- A nil slice, as own memory. -/
theorem goes_own {c : Cx} {todo : List Item} {E : Env} {T : Heap} (t sz : Nat) (hx : lk E t = .nilsl) (h : Goes c todo ((t, .osl (.loc T.length) 0 0 0) :: E) (T ++ [some (.vec 0 sz [])])) : Goes c todo E T := by
  refine goes_step fun w β H m a b cs hs _ _ _ => ?_
  obtain ⟨β', H', k1, k2, k3⟩ := hs.newNil 0 sz none
  have hr := hs.env t
  simp only [hx, V.conv] at hr
  generalize hq : a.tmps.getD t Go.undef = q at hr
  cases hr
  refine ⟨w, β', H', m ++ [H.length], a, todo, ⟨(t, .osl (.loc T.length) 0 0 0) :: E, T ++ [some (.vec 0 sz [])], c.B, c.D⟩, .refl _ _, ?_, k2, h⟩
  refine { k1 with env := fun j => ?_, scE := fun p hp => ?_ }
  · simp only [lk]
    cases hb : Nat.beq t j with
    | false => exact k1.env j
    | true =>
      obtain rfl := Nat.eq_of_beq_eq_true hb
      simp only [cond_true, hq]
      exact k3
  · simp only [List.mem_cons] at hp
    rcases hp with rfl | hp
    · show T.length < (T ++ _).length
      simp
    · exact k1.scE p hp
end Bow
/- AE39: a box whose cells are to say less. -/
namespace Bow
open Go

end Bow
/- AE40: a function's contract out of a walk by the kit's own tactics: all that it wrote lies in new memory. -/
namespace Bow
open Go

section
variable {P : Program} {w w' : World} {β β' : Nat → Loc} {H H' : Heap}
end
end Bow
/- AE41: shifts to the right; a string's comparison. -/
namespace Bow
open Go

section
variable {c : Cx} {E : Env} {T : Heap} {ops : Array Oper} {i : Nat} {rest : List Nat} {k : List Item} {o : Oper}
/-- A slot's value, said less closely. -/
theorem goes_wkSlot {todo : List Item} (t : Nat) {v v' : V} (hx : lk E t = v) (hp : v.pureB = true) (hp' : v'.pureB = true) (hw : Wk v v') (h : Goes c todo ((t, v') :: E) T) : Goes c todo E T := by
  refine goes_step fun w β H m a b cs hs _ _ _ => ?_
  have hr := hs.env t
  rw [hx, pure_conv _ _ hp] at hr
  have hr' := hw w β H _ hr
  exact ⟨w, β, H, m, a, todo, ⟨_, _, c.B, c.D⟩, .refl _ _, hs.know (x := v') (by rw [pure_conv _ _ hp']; exact hr'), Fr.refl w β H, h⟩
/-- An own slice, frozen, as one slot holds it; what else names it is of no use from here on. -/
theorem goes_fzSlot {todo : List Item} (t kn : Nat) {g l sz : Nat} {xs : List V} (hx : lk E t = .osl (.loc kn) g 0 l) (hk : lget T kn = some (some (.vec g sz xs))) (hl : l = xs.length) (h : lset T kn none fun T' => Goes c todo ((t, .sl sz xs) :: E) T') : Goes c todo E T := by
  rw [lset_eq] at h
  have hfz : frzAll [lk E t] T False fun vs T' => vs = [.sl sz xs] ∧ T' = T.set kn none := by
    rw [hx]
    simp only [frzAll, fv_eq, frz, frz1, hk, lset_eq]
    exact ⟨trivial, hl, trivial, trivial⟩
  rcases frzAll_sound (F := False) _ _ _ hfz with h' | ⟨vs', T', ⟨rfl, rfl⟩, hto⟩
  · exact h'.elim
  refine goes_step fun w β H m a b cs hs _ _ _ => ?_
  obtain ⟨H1, q1, q2, q3⟩ := hto.2 _ _ _ _ _ _ _ _ _ _ hs
  have hr := q3 0 _ _ _ rfl rfl (hs.env t)
  exact ⟨w, β, H1, m, a, todo, ⟨_, _, c.B, c.D⟩, .refl _ _, q1.know (x := .sl sz xs) (show Rep w β H1 ((V.sl sz xs).conv m) _ from hr), q2, h⟩
end
end Bow
/- AE42: nil in a row of cells as own memory; own slices cut ahead; a pointer into own memory is not nil. -/
namespace Bow
open Go

section
variable {c : Cx} {E : Env} {T : Heap} {ops : Array Oper} {i : Nat} {rest : List Nat} {k : List Item} {o : Oper}
theorem convL_get (m : List Nat) (cs : List V) (j : Nat) : (V.convL m cs)[j]? = cs[j]?.map (V.conv m) := by
  rw [V.convL_eq, List.getElem?_map]
theorem convL_set (m : List Nat) (cs : List V) (j : Nat) (x : V) : V.convL m (cs.set j x) = (V.convL m cs).set j (x.conv m) := by
  rw [V.convL_eq, V.convL_eq, List.map_set]

/-- A nil slice in a box, as own memory. -/
theorem goes_ownCell {todo : List Item} {cs : List V} (kb j sz : Nat) (hk : lget T kb = some (some (.box cs))) (hj : cs[j]? = some .nilsl) (h : Goes c todo E (List.set (T ++ [some (HObj.vec 0 sz [])]) kb (some (HObj.box (cs.set j (.osl (.loc T.length) 0 0 0)))))) : Goes c todo E T := by
  rw [lget_eq] at hk
  refine goes_step fun w β H m a b cs0 hs _ _ _ => ?_
  obtain ⟨β', H', k1, k2, k3⟩ := hs.newNil 0 sz none
  have hk2 : (T ++ [some (HObj.vec 0 sz [])])[kb]? = some (some (.box cs)) := by rw [List.getElem?_append_left (lt_of_get hk)]; exact hk
  obtain ⟨r, hr, hH⟩ := k1.at hk2
  have hob := k1.hrel.obj r _ hH
  have hfr : Fr w β' H' w β' (H'.set r (some ((HObj.box (cs.set j (.osl (.loc T.length) 0 0 0))).conv (m ++ [H.length])))) := Fr.swap hH trivial
  have hrel : HRel w β' (H'.set r (some ((HObj.box (cs.set j (.osl (.loc T.length) 0 0 0))).conv (m ++ [H.length])))) := by
    refine k1.hrel.swap hH trivial ?_
    simp only [HObj.conv]
    cases hβ : β' r with
    | none => trivial
    | nil => rw [hβ] at hob; exact hob
    | blk bb N =>
      rw [hβ] at hob
      obtain ⟨vs, e, q1, q2, q3, q4⟩ := hob
      refine ⟨vs, e, q1, q2, by rw [convL_set, List.length_set]; exact q3, fun i x v hi hv => ?_⟩
      rw [convL_set, List.getElem?_set] at hi
      split at hi
      · rename_i hji
        subst hji
        split at hi
        · injection hi with hi
          subst hi
          have h0 := q4 j .nilsl v (by rw [convL_get, hj]; rfl) hv
          cases h0
          exact k3.mono hfr
        · cases hi
      · exact (q4 i x v hi hv).mono hfr
  have hset := k1.setAt (o' := some (.box (cs.set j (.osl (.loc T.length) 0 0 0)))) (w' := w) hr (fun o1 e1 => by
      injection e1 with e1
      subst e1
      have hm : m.length = T.length := hs.mlen
      have hsc := hs.scT kb _ hk
      show V.scL _ _
      rw [V.scL_iff]
      have hsc' := (V.scL_iff _ _).1 hsc
      intro v hv
      rcases List.mem_or_eq_of_mem_set hv with hv | hv
      · exact V.sc_mono (by simp; omega) v (hsc' v hv)
      · subst hv
        show T.length < (m ++ [H.length]).length
        simp only [List.length_append, List.length_singleton]
        omega)
    (fun hm => absurd hm (k1.notD hk2 (by simp))) hfr hrel
  exact ⟨w, β', _, m ++ [H.length], a, todo, ⟨E, _, c.B, c.D⟩, .refl _ _, hset, k2.trans hfr, h⟩

/-- An own slice, cut ahead of its elements from the h-th on. -/
theorem goes_cutlo {t e : TypeId} {x lo : Operand} {kk : IntKind} {ti : TypeInfo} {kn g off l sz h : Nat} {xs : List V} (n : Nat) (ho : lget ops.toList i = some o) (hg : o.guard = none) (hop : o.op = .slice t x (some lo) none none) (hx : opd E x = .osl (.loc kn) g off l) (hh : opd E lo = .int kk h) (ht : tyU c.P t = some (.slice e)) (hi' : tyI c.P e = some ti) (hsz : ti.size = sz)
    (hk : lget T kn = some (some (.vec g sz xs))) (hle : h ≤ l)
    (hn : putE c.nt o.dst (.osl (.loc kn) g (off + h) (l - h)) E False fun E' => evp c n (.inRegion ops rest :: k) E' T) : Goes c (.inRegion ops (i :: rest) :: k) E T := by
  rw [lget_eq] at hk
  refine goes_opTo n ho hg hop (fun o hop w β H m a hs => ?_) (fun cl h => by cases h) hn
  have hv := opd_rep hs x
  obtain ⟨r, hr, hH⟩ := hs.at hk
  simp only [hx, V.conv, Ref.conv, hr] at hv
  simp only [HObj.conv] at hH
  have e2 := rep_int (m := m) (by have := opd_rep hs lo; rwa [hh] at this)
  have hvec2 : ∀ sz2 xs2, H[r]? = some (some (.vec g sz2 xs2)) → sz2 = sz ∧ xs2 = xs := fun sz2 xs2 h2 => by
    rw [hH] at h2
    injection h2 with h2
    injection h2 with h2
    injection h2 with _ e1 e2
    exact ⟨e1.symm, e2.symm⟩
  generalize hq : a.eval x = q at hv
  have hrun : ∀ (ad : Option Addr) (cap : Nat), q = .slice ad l cap → l ≤ cap → (execOp a.eval o).run c.P w = .ok (.value (.slice (if cap - h = 0 then ad else Option.map (fun x => x.add (h * sz)) ad) (l - h) (cap - h))) w := by
    intro ad cap hqe hlc
    subst hqe
    have hhc : h ≤ cap := by omega
    simp [execOp, hop, hq, e2, Instr.sliceAt, Instr.slice, Instr.sliceBounds, Instr.sliceBound, asIntOf, run_underlying (tyU_sound ht), run_sizeOf' (tyI_sound hi'), hsz, hle]
    by_cases hch : cap = h
    · simp [hch]
    · rw [if_neg hch, if_neg (by omega)]
  cases hv with
  | oslNil _ _ sz2 xs2 ad hH' hβ =>
    obtain ⟨rfl, rfl⟩ := hvec2 _ _ hH'
    obtain rfl : h = 0 := by omega
    refine ⟨_, _, w, β, H, m, hrun ad 0 rfl (Nat.le_refl _), .inl rfl, hs, Fr.refl w β H, ?_, List.prefix_refl _⟩
    simp only [V.conv, Ref.conv, hr]
    exact .oslNil r g sz2 xs2 _ hH hβ
  | oslBlk _ _ _ _ sz2 xs2 b N ad cap hH' hβ hl hN hcap ha hlen =>
    obtain ⟨rfl, rfl⟩ := hvec2 _ _ hH'
    refine ⟨_, _, w, β, H, m, hrun ad cap rfl hl, .inl rfl, hs, Fr.refl w β H, ?_, List.prefix_refl _⟩
    simp only [V.conv, Ref.conv, hr]
    refine .oslBlk r g (off + h) (l - h) sz2 xs2 b N _ _ hH hβ (by omega) (by rw [show off + h + (cap - h) = off + cap by omega]; exact hN) (by omega) (fun hc => ?_) (by omega)
    rw [if_neg (by omega), ha (by omega)]
    simp [Addr.add, Nat.add_mul]
  | oslStale _ _ _ _ g' sz' xs' _ hH' hg =>
    rw [hH] at hH'
    injection hH' with hH'
    injection hH' with hH'
    injection hH' with e0 _ _
    omega
  | oslDead _ _ _ _ _ hd => rw [hH] at hd; cases hd

/-- A pointer into own memory is not nil. -/
theorem goes_nilE {x : Operand} {kn g sz ix off : Nat} {xs : List V} (n : Nat) (ho : lget ops.toList i = some o) (hg : o.guard = none) (hop : o.op = .nilCheck x) (hx : opd E x = .eptr (.loc kn) g ix off) (hk : lget T kn = some (some (.vec g sz xs)))
    (hn : putE c.nt o.dst (.eptr (.loc kn) g ix off) E False fun E' => evp c n (.inRegion ops rest :: k) E' T) : Goes c (.inRegion ops (i :: rest) :: k) E T := by
  rw [lget_eq] at hk
  refine goes_opTo n ho hg hop (fun o hop w β H m a hs => ?_) (fun cl h => by cases h) hn
  have hv := opd_rep hs x
  obtain ⟨r, hr, hH⟩ := hs.at hk
  simp only [hx, V.conv, Ref.conv, hr] at hv
  simp only [HObj.conv] at hH
  generalize hq : a.eval x = q at hv
  cases hv with
  | eptrLive _ _ _ _ sz2 xs2 b N hH' hβ hi =>
    refine ⟨_, _, w, β, H, m, by simp [execOp, hop, hq]; rfl, .inl rfl, hs, Fr.refl w β H, ?_, List.prefix_refl _⟩
    simp only [V.conv, Ref.conv, hr]
    exact .eptrLive r g ix off sz2 xs2 b N hH' hβ hi
  | eptrStale _ _ _ _ g' sz' xs' _ hH' hg =>
    rw [hH] at hH'
    injection hH' with hH'
    injection hH' with hH'
    injection hH' with e0 _ _
    omega
  | eptrDead _ _ _ _ _ hd => rw [hH] at hd; cases hd
end

/-- A function's contract, its pure result said less closely. -/
theorem fun_wk {P : Program} {f : FuncId} {T : Heap} {args : List V} {Q : V → Heap → Prop} (h : Fun P f T args fun x T' => ∃ y, Wk x y ∧ x.pureB = true ∧ y.pureB = true ∧ Q y T') : Fun P f T args Q := by
  unfold Fun at *
  refine ⟨h.1, fun w β H m B vals cs hs hl hr => ?_⟩
  obtain ⟨x, T', v, w', β', H', m', fr, ⟨y, q1, q2, q3, q4⟩, k1, k2, k3, k4⟩ := h.2 w β H m B vals cs hs hl hr
  rw [pure_conv _ _ q2] at k3
  exact ⟨y, T', v, w', β', H', m', fr, q4, k1, k2, by rw [pure_conv _ _ q3]; exact q1 _ _ _ _ k3, k4⟩
end Bow
/- W1: plain: nodes. -/
namespace Bow
open Go Go.Proofs

end Bow
/- W2: trees measured. -/
namespace Bow
open Go Go.Proofs

end Bow
/- W3: trees measured, more. -/
namespace Bow
open Go Go.Proofs

end Bow
/- W4: Weight. -/
namespace Bow
open Go Go.Proofs

theorem not_lt_of {a b : Int} (h : decide (a < b) = false) : b ≤ a := by simpa using h
theorem lt_of {a b : Int} (h : decide (a < b) = true) : a < b := by simpa using h
theorem le_of {a b : Int} (h : decide (a ≤ b) = true) : a ≤ b := by simpa using h
theorem not_le_of {a b : Int} (h : decide (a ≤ b) = false) : b < a := by simpa using h
theorem eq_of {a b : Int} (h : decide (a = b) = true) : a = b := by simpa using h
theorem ne_of {a b : Int} (h : decide (a = b) = false) : a ≠ b := by simpa using h
theorem ne_of' {a b : Int} (h : (!decide (a = b)) = true) : a ≠ b := by simpa using h
theorem eq_of' {a b : Int} (h : (!decide (a = b)) = false) : a = b := by simpa using h

end Bow
/- W5: limits.Check; the trees of the chapter's examples. -/
namespace Bow
open Go Go.Proofs

/-! ### The examples' trees -/
def zeroT (ss : List Tree) : Tree := .mk 0 false [] [] [] ss
/-- As a literal lays it: what it does not name is nil. -/
def zeroV (k : V) : V := .agg [.int .u64 0, .ff, .str [], .nilsl, .str [], k]
theorem wk_zero {k : V} {ss : List Tree} (h : Wk k (.sl 6 (ss.map nodeV))) : Wk (zeroV k) (nodeV (zeroT ss)) := by
  refine Wk.agg ⟨.refl _, Wk.ff, .refl _, Wk.nil 2, .refl _, ?_, trivial⟩
  rw [subV_eq]
  exact h
theorem okE_node (t : Tree) : okE 6 (nodeV t) := ⟨rfl, rfl⟩
end Bow
/- W6: which operations are formed. -/
namespace Bow
open Go Go.Proofs

theorem w_May1 (n : Int) : Pure Tryz.prog 132 [intV n] (fun x => x = .bool (!stepOk n)) := by
  refine pure_wk (pure_fn 100 Tryz.func132 rfl rfl rfl fun B => ?_)
  refine ⟨fun g1 => go 200 ?_, fun g1 => go 200 ?_⟩
  · have g1 := lt_of g1
    exact ⟨trivial, rfl, rfl, rfl, leaf_tt (by unfold stepOk; rw [decide_eq_false (by omega)]; rfl)⟩
  · have g1 := not_lt_of g1
    refine ⟨trivial, rfl, rfl, rfl, leaf_b ?_⟩
    unfold stepOk
    rw [decide_eq_true (p := 0 ≤ n) (by omega), Bool.true_and]
    by_cases h : n < 1048576
    · rw [decide_eq_true h, decide_eq_false (by omega)]; rfl
    · rw [decide_eq_false h, decide_eq_true (by omega)]; rfl

/-- The first place where a predicate holds, or -1. -/
def findIx (f : Int → Bool) : Nat → List Int → Int
  | _, [] => -1
  | i, x :: xs => bif f x then i else findIx f (i + 1) xs
theorem findIx_any (f : Int → Bool) : ∀ (xs : List Int) (i : Nat), decide (0 ≤ findIx f i xs) = xs.any f
  | [], i => by simp [findIx]
  | x :: xs, i => by
    rw [findIx, List.any_cons]
    cases h : f x with
    | true => simp
    | false => simpa using findIx_any f xs (i + 1)

set_option maxRecDepth 100000 in
theorem w_IndexInt (f : Int → Bool) (g : FuncId) (xs : List Int) (hl : xs.length ≤ 1000000) (hg : ∀ n, Pure Tryz.prog g [intV n] (fun x => x = .bool (f n))) :
    Pure Tryz.prog 164 [pathV xs, .fn (.func g) [] []] (fun x => x = .int .i64 (findIx f 0 xs)) := by
  refine pure_fn 100 Tryz.func164 rfl rfl rfl fun B => ?_
  show Goes _ _ _ _
  refine goes_iter (ι := Nat) (fun i => i ≤ xs.length ∧ findIx f i (xs.drop i) = findIx f 0 xs) (fun i => xs.length - i) (fun i => [(8, .int .i64 i), (7, .int .i64 (xs.map intV).length), (1, .fn (.func g) [] []), (0, pathV xs)]) (fun _ => []) 0 200 (fun _ => rfl) (fun _ => rfl) ⟨⟨Nat.zero_le _, rfl⟩, ?_, ?_⟩ ?_
  · exact ⟨⟨rfl, rfl⟩, ⟨rfl, rfl⟩, ⟨rfl, rfl⟩, ⟨rfl, rfl⟩, trivial⟩
  · trivial
  · rintro i ⟨h1, h2⟩ next
    refine ⟨fun hlt => go 200 ?_, fun hge => go 200 ?_⟩
    · have hi : i < xs.length := by simpa using hlt
      have hx : (xs.map intV)[i]? = some (intV xs[i]) := by simp [hi]
      rw [drop_cons hi, findIx] at h2
      refine ⟨Int.natCast_nonneg i, _, hx, ?_⟩
      show CallThen _ _ _ _ _ _
      refine call_pure (hg xs[i]) rfl ?_
      rintro x rfl
      refine ⟨fun h => go 200 ?_, fun h => go 200 ?_⟩
      · rw [h] at h2
        exact ⟨trivial, rfl, rfl, rfl, by rw [← h2]; rfl⟩
      · rw [h] at h2
        refine ⟨by constructor <;> omega, ?_⟩
        show Goes _ _ _ _
        exact next (i + 1) _ _ ⟨⟨hi, h2⟩, by omega, ⟨⟨rfl, rfl⟩, ⟨rfl, rfl⟩, ⟨rfl, rfl⟩, ⟨rfl, rfl⟩, trivial⟩, trivial⟩
    · have hi : xs.length ≤ i := by simpa using hge
      rw [List.drop_eq_nil_of_le hi] at h2
      exact ⟨trivial, rfl, rfl, rfl, by rw [← h2]; rfl⟩

theorem w_ContainsInt (f : Int → Bool) (g : FuncId) (xs : List Int) (hl : xs.length ≤ 1000000) (hg : ∀ n, Pure Tryz.prog g [intV n] (fun x => x = .bool (f n))) :
    Pure Tryz.prog 131 [pathV xs, .fn (.func g) [] []] (fun x => x = .bool (xs.any f)) := by
  refine pure_fn 100 Tryz.func131 rfl rfl rfl fun B => ?_
  show CallThen _ _ _ _ _ _
  refine call_pure (w_IndexInt f g xs hl hg) rfl ?_
  rintro x rfl
  exact ⟨trivial, rfl, rfl, rfl, by rw [← findIx_any f xs 0]; rfl⟩

theorem any_not_all (xs : List Int) : (xs.any fun n => !stepOk n) = !xs.all stepOk := by
  induction xs with
  | nil => rfl
  | cons x xs ih => simp [ih]

theorem w_May (p : List Int) : Pure Tryz.prog 88 [pathV p] (fun x => x = .bool (mayP p)) := by
  refine pure_wk (pure_fn 100 Tryz.func88 rfl rfl rfl fun B => ?_)
  refine ⟨fun g1 => go 200 ?_, fun g1 => go 200 ?_⟩
  · have g1 : p.length ≤ 64 := by have := le_of g1; simp at this; omega
    show CallThen _ _ _ _ _ _
    refine call_pure (w_ContainsInt (fun n => !stepOk n) _ p (by omega) w_May1) rfl ?_
    rintro x rfl
    exact ⟨trivial, rfl, rfl, rfl, leaf_b (by rw [any_not_all]; simp [mayP, g1])⟩
  · have g1 : 64 < p.length := by have := not_le_of g1; simp at this; omega
    exact ⟨trivial, rfl, rfl, rfl, leaf_ff (by unfold mayP; rw [decide_eq_false (by omega)]; rfl)⟩

theorem w_Key (s : List UInt8) : Pure Tryz.prog 89 [.str s] (fun x => x = .bool (keyOk s)) := by
  refine pure_wk (pure_fn 100 Tryz.func89 rfl rfl rfl fun B => ?_)
  refine ⟨fun g1 => go 200 ?_, fun g1 => go 200 ?_⟩
  · have g1 : s ≠ [] := by simpa using g1
    have : 0 < s.length := List.length_pos_iff.2 g1
    exact ⟨trivial, rfl, rfl, rfl, leaf_b (by unfold keyOk; rw [decide_eq_true (p := 1 ≤ s.length) (by omega), Bool.true_and]; simp; omega)⟩
  · have g1 : s = [] := by simpa using g1
    exact ⟨trivial, rfl, rfl, rfl, leaf_ff (by rw [g1]; rfl)⟩
theorem w_refKey (s : List UInt8) : Pure Tryz.prog 54 [.str s] (fun x => x = .bool (keyOk s)) := by
  refine pure_wk (pure_fn 100 Tryz.func54 rfl rfl rfl fun B => ?_)
  refine ⟨fun g1 => go 200 ?_, fun g1 => go 200 ?_⟩
  · have g1 : (1 : Int) ≤ s.length := by simpa using g1
    exact ⟨trivial, rfl, rfl, rfl, leaf_b (by unfold keyOk; rw [decide_eq_true (p := 1 ≤ s.length) (by omega), Bool.true_and]; simp; omega)⟩
  · have g1 : ¬ (1 : Int) ≤ s.length := by simpa using g1
    exact ⟨trivial, rfl, rfl, rfl, leaf_ff (by unfold keyOk; rw [decide_eq_false (p := 1 ≤ s.length) (by omega)]; rfl)⟩
end Bow
/- W7: pieces that are right; Formed. -/
namespace Bow
open Go Go.Proofs

theorem may_cons_drop (p : List Int) (i : Nat) (h : i < p.length) : (p.drop i).all stepOk = (stepOk p[i] && (p.drop (i + 1)).all stepOk) := by rw [drop_cons h, List.all_cons]

set_option maxRecDepth 100000 in
theorem w_refMay (p : List Int) (hp : p.length ≤ 1000000) : Pure Tryz.prog 53 [pathV p] (fun x => x = .bool (mayP p)) := by
  refine pure_wk (pure_fn 100 Tryz.func53 rfl rfl rfl fun B => ?_)
  show Goes _ _ _ _
  refine goes_iter (ι := Nat) (fun i => i ≤ p.length ∧ i ≤ 64 ∧ mayP p = (decide (p.length ≤ 64) && (p.drop i).all stepOk)) (fun i => p.length - i) (fun i => [(3, .int .i64 i), (0, pathV p)]) (fun _ => []) 0 200 (fun _ => rfl) (fun _ => rfl) ⟨⟨Nat.zero_le _, Nat.zero_le _, rfl⟩, ?_, ?_⟩ ?_
  · exact ⟨⟨rfl, rfl⟩, ⟨rfl, rfl⟩, trivial⟩
  · trivial
  · rintro i ⟨h1, h3, h2⟩ next
    refine ⟨fun hlt => go 200 ?_, fun hge => go 200 ?_⟩
    · have hi : i < p.length := by simpa using hlt
      have hx : (p.map intV)[i]? = some (intV p[i]) := by simp [hi]
      rw [may_cons_drop p i hi] at h2
      refine ⟨fun g1 => go 200 ?_, fun g1 => go 200 ?_⟩
      · have g1 : (64 : Int) ≤ i := by simpa using g1
        exact ⟨trivial, rfl, rfl, rfl, leaf_ff (by rw [h2, decide_eq_false (p := p.length ≤ 64) (by omega)]; rfl)⟩
      have g1 : ¬ (64 : Int) ≤ i := by simpa using g1
      refine ⟨Int.natCast_nonneg i, _, hx, ?_⟩
      refine ⟨fun g2 => go 200 ?_, fun g2 => go 200 ?_⟩
      · have g2 := lt_of g2
        exact ⟨trivial, rfl, rfl, rfl, leaf_ff (by rw [h2]; unfold stepOk; rw [decide_eq_false (p := 0 ≤ p[i]) (by omega)]; simp)⟩
      have g2 := not_lt_of g2
      refine ⟨Int.natCast_nonneg i, _, hx, ?_⟩
      refine ⟨fun g3 => go 200 ?_, fun g3 => go 200 ?_⟩
      · have g3 := le_of g3
        exact ⟨trivial, rfl, rfl, rfl, leaf_ff (by rw [h2]; unfold stepOk; rw [decide_eq_false (p := p[i] < 1048576) (by omega)]; simp)⟩
      have g3 := not_le_of g3
      refine ⟨by constructor <;> omega, ?_⟩
      show Goes _ _ _ _
      refine next (i + 1) _ _ ⟨⟨hi, by omega, ?_⟩, by omega, ⟨⟨rfl, rfl⟩, ⟨rfl, rfl⟩, trivial⟩, trivial⟩
      have : stepOk p[i] = true := by unfold stepOk; rw [decide_eq_true (by omega), decide_eq_true (by omega)]; rfl
      rw [h2, this, Bool.true_and]
    · have hi : p.length ≤ i := by simpa using hge
      rw [List.drop_eq_nil_of_le hi] at h2
      exact ⟨trivial, rfl, rfl, rfl, leaf_tt (by rw [h2, decide_eq_true (p := p.length ≤ 64) (by omega)]; rfl)⟩

theorem rightGo_bad {n : Nat} {p : PieceT} {l : List PieceT} (h : p.keep < 0 ∨ 1048576 < p.keep ∨ p.drop < 0 ∨ 1048576 < p.drop ∨ 1048576 < n + p.put.length) : rightGo n (p :: l) = false := by
  rw [rightGo]
  rcases h with h | h | h | h | h
  · rw [decide_eq_false (p := 0 ≤ p.keep) (by omega)]; rfl
  · rw [decide_eq_false (p := p.keep ≤ 1048576) (by omega)]; simp
  · rw [decide_eq_false (p := 0 ≤ p.drop) (by omega)]; simp
  · rw [decide_eq_false (p := p.drop ≤ 1048576) (by omega)]; simp
  · rw [decide_eq_false (p := n + p.put.length ≤ 1048576) (by omega)]; simp
theorem rightGo_good {n : Nat} {p : PieceT} {l : List PieceT} (h1 : 0 ≤ p.keep) (h2 : p.keep ≤ 1048576) (h3 : 0 ≤ p.drop) (h4 : p.drop ≤ 1048576) (h5 : n + p.put.length ≤ 1048576) : rightGo n (p :: l) = rightGo (n + p.put.length) l := by
  rw [rightGo, decide_eq_true h1, decide_eq_true h2, decide_eq_true h3, decide_eq_true h4, decide_eq_true h5]
  rfl

set_option maxRecDepth 100000 in
theorem w_RightW (l : List PieceT) (hl : l.length ≤ 1000000000000) (hpl : ∀ p ∈ l, p.put.length ≤ 1000000000000) : Pure Tryz.prog 90 [piecesV l] (fun x => x = .bool (rightP l)) := by
  refine pure_wk (pure_fn 100 Tryz.func90 rfl rfl rfl fun B => ?_)
  refine ⟨fun g0 => go 200 ?_, fun g0 => go 200 ?_⟩
  · have g0 : 4096 < l.length := by have := lt_of g0; simp at this; omega
    exact ⟨trivial, rfl, rfl, rfl, leaf_ff (by unfold rightP; rw [decide_eq_false (by omega)]; rfl)⟩
  have g0 : l.length ≤ 4096 := by have := not_lt_of g0; simp at this; omega
  show Goes _ _ _ _
  refine goes_iter (ι := Nat × Nat) (fun i => i.1 ≤ l.length ∧ i.2 ≤ 1048576 ∧ rightP l = rightGo i.2 (l.drop i.1)) (fun i => l.length - i.1) (fun i => [(11, .int .i64 i.1), (10, .int .i64 (l.map pieceV).length), (9, piecesV l), (3, .int .i64 i.2)]) (fun _ => []) (0, 0) 200 (fun _ => rfl) (fun _ => rfl) ⟨⟨Nat.zero_le _, Nat.zero_le _, ?_⟩, ?_, ?_⟩ ?_
  · unfold rightP
    rw [decide_eq_true g0]
    rfl
  · exact ⟨⟨rfl, rfl⟩, ⟨rfl, rfl⟩, ⟨rfl, rfl⟩, ⟨rfl, rfl⟩, trivial⟩
  · trivial
  · rintro ⟨i, n⟩ ⟨h1, h3, h2⟩ next
    simp only at h1 h2 h3
    refine ⟨fun hlt => go 200 ?_, fun hge => go 200 ?_⟩
    · have hi : i < l.length := by simpa using hlt
      have hx : (l.map pieceV)[i]? = some (pieceV l[i]) := by simp [hi]
      have hput := hpl l[i] (List.getElem_mem hi)
      rw [drop_cons hi] at h2
      refine ⟨Int.natCast_nonneg i, _, hx, ?_⟩
      refine ⟨fun g1 => go 200 ?_, fun g1 => go 200 ?_⟩
      · have g1 := lt_of g1
        refine ⟨trivial, rfl, rfl, rfl, leaf_ff ?_⟩
        rw [h2]
        refine rightGo_bad ?_
        split at g1 <;> omega
      have g1 := not_lt_of g1
      have q1 : 0 ≤ (l[i]).keep ∧ 0 ≤ (l[i]).drop := by split at g1 <;> omega
      refine ⟨fun g2 => go 200 ?_, fun g2 => go 200 ?_⟩
      · have g2 := lt_of g2
        refine ⟨trivial, rfl, rfl, rfl, leaf_ff ?_⟩
        rw [h2]
        refine rightGo_bad ?_
        split at g2 <;> omega
      have g2 := not_lt_of g2
      have q2 : (l[i]).keep ≤ 1048576 ∧ (l[i]).drop ≤ 1048576 := by split at g2 <;> omega
      refine ⟨by constructor <;> omega, ?_⟩
      refine ⟨fun g3 => go 200 ?_, fun g3 => go 200 ?_⟩
      · have g3 := lt_of g3
        refine ⟨trivial, rfl, rfl, rfl, leaf_ff ?_⟩
        rw [h2]
        exact rightGo_bad (by omega)
      have g3 := not_lt_of g3
      refine ⟨by constructor <;> omega, ?_⟩
      refine ⟨by constructor <;> omega, ?_⟩
      show Goes _ _ _ _
      refine next (i + 1, n + (l[i]).put.length) _ _ ⟨⟨hi, by simp only; omega, ?_⟩, ?_, ⟨⟨rfl, rfl⟩, ⟨rfl, rfl⟩, ⟨rfl, rfl⟩, ⟨rfl, rfl⟩, trivial⟩, trivial⟩
      · rw [h2]
        exact rightGo_good q1.1 q2.1 q1.2 q2.2 (by omega)
      · simp only; omega
    · have hi : l.length ≤ i := by simpa using hge
      rw [List.drop_eq_nil_of_le hi] at h2
      exact ⟨trivial, rfl, rfl, rfl, leaf_tt h2⟩
theorem w_Right (l : List PieceT) (hl : l.length ≤ 1000000) (hpl : ∀ p ∈ l, p.put.length ≤ 1000000000) : Pure Tryz.prog 90 [piecesV l] (fun x => x = .bool (rightP l)) :=
  w_RightW l (by omega) fun p hp => by have := hpl p hp; omega

set_option maxRecDepth 100000 in
theorem w_refRight (l : List PieceT) (hl : l.length ≤ 1000000) (hpl : ∀ p ∈ l, p.put.length ≤ 1000000000) : Pure Tryz.prog 55 [piecesV l] (fun x => x = .bool (rightP l)) := by
  refine pure_wk (pure_fn 100 Tryz.func55 rfl rfl rfl fun B => ?_)
  refine ⟨fun g0 => go 200 ?_, fun g0 => go 200 ?_⟩
  · have g0 : 4096 < l.length := by have := lt_of g0; simp at this; omega
    exact ⟨trivial, rfl, rfl, rfl, leaf_ff (by unfold rightP; rw [decide_eq_false (by omega)]; rfl)⟩
  have g0 : l.length ≤ 4096 := by have := not_lt_of g0; simp at this; omega
  show Goes _ _ _ _
  refine goes_iter (ι := Nat × Nat) (fun i => i.1 ≤ l.length ∧ i.2 ≤ 1048576 ∧ rightP l = rightGo i.2 (l.drop i.1)) (fun i => l.length - i.1) (fun i => [(4, .int .i64 i.1), (0, piecesV l), (3, .int .i64 i.2)]) (fun _ => []) (0, 0) 200 (fun _ => rfl) (fun _ => rfl) ⟨⟨Nat.zero_le _, Nat.zero_le _, ?_⟩, ?_, ?_⟩ ?_
  · unfold rightP
    rw [decide_eq_true g0]
    rfl
  · exact ⟨⟨rfl, rfl⟩, ⟨rfl, rfl⟩, ⟨rfl, rfl⟩, trivial⟩
  · trivial
  · rintro ⟨i, n⟩ ⟨h1, h3, h2⟩ next
    simp only at h1 h2 h3
    refine ⟨fun hlt => go 200 ?_, fun hge => go 200 ?_⟩
    · have hi : i < l.length := by simpa using hlt
      have hx : (l.map pieceV)[i]? = some (pieceV l[i]) := by simp [hi]
      have hput := hpl l[i] (List.getElem_mem hi)
      rw [drop_cons hi] at h2
      refine ⟨Int.natCast_nonneg i, _, hx, ?_⟩
      refine ⟨fun g1 => go 200 ?_, fun g1 => go 200 ?_⟩
      · have g1 := lt_of g1
        exact ⟨trivial, rfl, rfl, rfl, leaf_ff (by rw [h2]; exact rightGo_bad (by omega))⟩
      have g1 := not_lt_of g1
      refine ⟨Int.natCast_nonneg i, _, hx, ?_⟩
      refine ⟨fun g2 => go 200 ?_, fun g2 => go 200 ?_⟩
      · have g2 := lt_of g2
        exact ⟨trivial, rfl, rfl, rfl, leaf_ff (by rw [h2]; exact rightGo_bad (by omega))⟩
      have g2 := not_lt_of g2
      refine ⟨Int.natCast_nonneg i, _, hx, ?_⟩
      refine ⟨fun g3 => go 200 ?_, fun g3 => go 200 ?_⟩
      · have g3 := lt_of g3
        exact ⟨trivial, rfl, rfl, rfl, leaf_ff (by rw [h2]; exact rightGo_bad (by omega))⟩
      have g3 := not_lt_of g3
      refine ⟨Int.natCast_nonneg i, _, hx, ?_⟩
      refine ⟨fun g4 => go 200 ?_, fun g4 => go 200 ?_⟩
      · have g4 := lt_of g4
        exact ⟨trivial, rfl, rfl, rfl, leaf_ff (by rw [h2]; exact rightGo_bad (by omega))⟩
      have g4 := not_lt_of g4
      refine ⟨Int.natCast_nonneg i, _, hx, ?_⟩
      refine ⟨by constructor <;> omega, ?_⟩
      refine ⟨fun g5 => go 200 ?_, fun g5 => go 200 ?_⟩
      · have g5 := lt_of g5
        exact ⟨trivial, rfl, rfl, rfl, leaf_ff (by rw [h2]; exact rightGo_bad (by omega))⟩
      have g5 := not_lt_of g5
      refine ⟨Int.natCast_nonneg i, _, hx, ?_⟩
      refine ⟨by constructor <;> omega, ?_⟩
      refine ⟨by constructor <;> omega, ?_⟩
      show Goes _ _ _ _
      refine next (i + 1, n + (l[i]).put.length) _ _ ⟨⟨hi, by simp only; omega, ?_⟩, ?_, ⟨⟨rfl, rfl⟩, ⟨rfl, rfl⟩, ⟨rfl, rfl⟩, trivial⟩, trivial⟩
      · rw [h2]
        exact rightGo_good (by omega) (by omega) (by omega) (by omega) (by omega)
      · simp only; omega
    · have hi : l.length ≤ i := by simpa using hge
      rw [List.drop_eq_nil_of_le hi] at h2
      exact ⟨trivial, rfl, rfl, rfl, leaf_tt h2⟩
end Bow
/- W8: Formed. -/
namespace Bow
open Go Go.Proofs

set_option maxRecDepth 100000 in
theorem w_Formed (o : OpT) (ho : o.Lt 1000000) (hpl : ∀ p ∈ o.pieces, p.put.length ≤ 1000000000) : Pure Tryz.prog 65 [opV o] (fun x => x = .bool (formedB o)) := by
  have hm := w_May o.path
  have hm2 := w_May o.to
  have hk := w_Key o.key
  have hr := w_Right o.pieces ho.pieces hpl
  refine pure_wk (pure_fn 300 Tryz.func65 rfl rfl rfl fun B => ?_)
  clear ho hpl
  repeat' first
    | (refine ⟨fun _ => go 300 ?_, fun _ => go 300 ?_⟩)
    | (show CallThen _ _ _ _ _ _; refine call_pure hm rfl ?_; rintro x rfl)
    | (show CallThen _ _ _ _ _ _; refine call_pure hm2 rfl ?_; rintro x rfl)
    | (show CallThen _ _ _ _ _ _; refine call_pure hk rfl ?_; rintro x rfl)
    | (show CallThen _ _ _ _ _ _; refine call_pure hr rfl ?_; rintro x rfl)
    | (refine ⟨trivial, rfl, rfl, rfl, leaf_tt ?_⟩)
    | (refine ⟨trivial, rfl, rfl, rfl, leaf_ff ?_⟩)
    | (refine ⟨trivial, rfl, rfl, rfl, leaf_b ?_⟩)
    | fail
  all_goals (first | (simp_all [formedB, gapOk]; done) | (simp_all [formedB, gapOk]; intros; omega))

set_option maxRecDepth 100000 in
theorem w_refFormed (o : OpT) (ho : o.Lt 1000000) (hpl : ∀ p ∈ o.pieces, p.put.length ≤ 1000000000) : Pure Tryz.prog 27 [opV o] (fun x => x = .bool (formedB o)) := by
  have hm := w_refMay o.path ho.path
  have hm2 := w_refMay o.to ho.to
  have hk := w_refKey o.key
  have hr := w_refRight o.pieces ho.pieces hpl
  refine pure_wk (pure_fn 300 Tryz.func27 rfl rfl rfl fun B => ?_)
  clear ho hpl
  repeat' first
    | (refine ⟨fun _ => go 300 ?_, fun _ => go 300 ?_⟩)
    | (show CallThen _ _ _ _ _ _; refine call_pure hm rfl ?_; rintro x rfl)
    | (show CallThen _ _ _ _ _ _; refine call_pure hm2 rfl ?_; rintro x rfl)
    | (show CallThen _ _ _ _ _ _; refine call_pure hk rfl ?_; rintro x rfl)
    | (show CallThen _ _ _ _ _ _; refine call_pure hr rfl ?_; rintro x rfl)
    | (refine ⟨trivial, rfl, rfl, rfl, leaf_tt ?_⟩)
    | (refine ⟨trivial, rfl, rfl, rfl, leaf_ff ?_⟩)
    | (refine ⟨trivial, rfl, rfl, rfl, leaf_b ?_⟩)
    | fail
  all_goals (first | (simp_all [formedB, gapOk]; done) | (simp_all [formedB, gapOk]; intros; omega))

def opsV (l : List OpT) : V := .sl 11 (l.map opV)
end Bow
/- W9: Bare; puts; Fits. -/
namespace Bow
open Go Go.Proofs

theorem w_someInt (p : List Int) (h : p.length ≤ 1000000) : Pure Tryz.prog 91 [pathV p] (fun x => x = pathV p) := by
  refine pure_fn 100 Tryz.func91 rfl rfl rfl fun B => ?_
  refine ⟨Nat.le_trans (Nat.mul_le_mul_right _ (show (p.map intV).length ≤ 1000000 by simpa using h)) (by decide), ?_⟩
  exact ⟨trivial, rfl, rfl, rfl, rfl, rfl, rfl⟩
theorem w_somePiece (p : List PieceT) (h : p.length ≤ 1000000) : Pure Tryz.prog 92 [piecesV p] (fun x => x = piecesV p) := by
  refine pure_fn 100 Tryz.func92 rfl rfl rfl fun B => ?_
  refine ⟨Nat.le_trans (Nat.mul_le_mul_right _ (show (p.map pieceV).length ≤ 1000000 by simpa using h)) (by decide), ?_⟩
  exact ⟨trivial, rfl, rfl, rfl, rfl, rfl, rfl⟩

/-- An operation as a literal lays it. -/
theorem wk_op {o : OpT} {cs : List V} (h : WkL cs (opV o).cells) : Wk (.agg cs) (opV o) := Wk.agg h

set_option maxRecDepth 100000 in
theorem w_Bare (o : OpT) (ho : o.Lt 1000000) : Pure Tryz.prog 66 [opV o] (fun x => x = opV (bareO o)) := by
  refine pure_wk (pure_fn 300 Tryz.func66 rfl rfl rfl fun B => ?_)
  show Goes _ _ _ _
  refine goes_draw 300 ?_
  refine ⟨_, w_someInt o.path ho.path, rfl, ?_⟩
  refine ⟨by kernel_rfl, ?_⟩
  refine ⟨by kernel_rfl, ?_⟩
  have hp := ho.path
  have ht := ho.to
  have hpc := ho.pieces
  refine ⟨fun g1 => go 300 ?_, fun g1 => go 300 ?_⟩
  · have g1 := eq_of g1
    show Goes _ _ _ _
    refine goes_draw 300 ?_
    refine ⟨by kernel_rfl, ?_⟩
    refine ⟨trivial, rfl, rfl, rfl, _, ?_, ?_, rfl⟩
    · simp only [bareO, g1]
      refine wk_op ⟨.refl _, .refl _, .refl _, Wk.nil 1, .refl _, .refl _, .refl _, .refl _, .refl _, Wk.ff, Wk.nil 3, trivial⟩
    · rfl
  refine ⟨fun g2 => go 300 ?_, fun g2 => go 300 ?_⟩
  · have g2 := eq_of g2
    refine ⟨trivial, rfl, rfl, rfl, _, ?_, ?_, rfl⟩
    · simp only [bareO, g2]
      refine wk_op ⟨.refl _, .refl _, .refl _, Wk.nil 1, .refl _, Wk.ff, .refl _, .refl _, .refl _, Wk.ff, Wk.nil 3, trivial⟩
    · rfl
  refine ⟨fun g3 => go 300 ?_, fun g3 => go 300 ?_⟩
  · have g3 := eq_of g3
    show Goes _ _ _ _
    refine goes_draw 300 ?_
    refine ⟨_, w_someInt o.to ho.to, rfl, ?_⟩
    refine ⟨by kernel_rfl, ?_⟩
    refine ⟨trivial, rfl, rfl, rfl, _, ?_, ?_, rfl⟩
    · simp only [bareO, g3]
      refine wk_op ⟨.refl _, .refl _, .refl _, .refl _, .refl _, Wk.ff, .refl _, .refl _, .refl _, Wk.ff, Wk.nil 3, trivial⟩
    · rfl
  refine ⟨fun g4 => go 300 ?_, fun g4 => go 300 ?_⟩
  · have g4 := eq_of g4
    show Goes _ _ _ _
    refine goes_draw 300 ?_
    refine ⟨by kernel_rfl, ?_⟩
    refine ⟨fun h => go 300 ?_, fun h => go 300 ?_⟩
    · have h : o.gone = false := by simpa using h
      refine ⟨trivial, rfl, rfl, rfl, _, ?_, ?_, rfl⟩
      · simp only [bareO, g4, h]
        refine wk_op ⟨.refl _, .refl _, .refl _, Wk.nil 1, .refl _, Wk.ff, .refl _, .refl _, .refl _, .refl _, Wk.nil 3, trivial⟩
      · rfl
    · have h : o.gone = true := by simpa using h
      refine ⟨trivial, rfl, rfl, rfl, _, ?_, ?_, rfl⟩
      · simp only [bareO, g4, h]
        refine wk_op ⟨.refl _, .refl _, .refl _, Wk.nil 1, .refl _, Wk.ff, .refl _, .refl _, .refl _, .refl _, Wk.nil 3, trivial⟩
      · rfl
  refine ⟨fun g5 => go 300 ?_, fun g5 => go 300 ?_⟩
  · have g5 := eq_of g5
    refine ⟨trivial, rfl, rfl, rfl, _, ?_, ?_, rfl⟩
    · simp only [bareO, g5]
      refine wk_op ⟨.refl _, .refl _, .refl _, Wk.nil 1, .refl _, Wk.ff, .refl _, .refl _, .refl _, Wk.ff, Wk.nil 3, trivial⟩
    · rfl
  refine ⟨fun g6 => go 300 ?_, fun g6 => go 300 ?_⟩
  · have g6 := eq_of g6
    show CallThen _ _ _ _ _ _
    refine call_pure (w_somePiece o.pieces ho.pieces) rfl ?_
    rintro x rfl
    refine ⟨trivial, rfl, rfl, rfl, _, ?_, ?_, rfl⟩
    · simp only [bareO, g6]
      refine wk_op ⟨.refl _, .refl _, .refl _, Wk.nil 1, .refl _, Wk.ff, .refl _, .refl _, .refl _, Wk.ff, .refl _, trivial⟩
    · rfl
  · have g1 := ne_of g1
    have g2 := ne_of g2
    have g3 := ne_of g3
    have g4 := ne_of g4
    have g5 := ne_of g5
    have g6 := ne_of g6
    refine ⟨trivial, rfl, rfl, rfl, _, ?_, ?_, rfl⟩
    · have e : bareO o = noOp o.kind := by
        unfold bareO
        rw [show (o.kind == 1) = false by simpa using g1, show (o.kind == 2) = false by simpa using g2, show (o.kind == 3) = false by simpa using g3, show (o.kind == 4) = false by simpa using g4, show (o.kind == 5) = false by simpa using g5, show (o.kind == 6) = false by simpa using g6]
        rfl
      rw [e]
      refine wk_op ⟨.refl _, Wk.nil 1, .refl _, Wk.nil 1, .refl _, Wk.ff, .refl _, .refl _, .refl _, Wk.ff, Wk.nil 3, trivial⟩
    · rfl
end Bow
/- W10: the reference's Bare; puts; Fits. -/
namespace Bow
open Go Go.Proofs

theorem room_of {n b : Nat} (h : n ≤ 1000000) (hb : b ≤ 70368744) : room n b := Nat.le_trans (Nat.mul_le_mul h hb) (by decide)

set_option maxRecDepth 100000 in
theorem w_refBare (o : OpT) (ho : o.Lt 1000000) : Pure Tryz.prog 18 [opV o] (fun x => x = opV (bareO o)) := by
  refine pure_wk (pure_fn 300 Tryz.func18 rfl rfl rfl fun B => ?_)
  have hp := ho.path
  have ht := ho.to
  have hpc := ho.pieces
  refine ⟨room_of (by simpa using ho.path) (by decide), ?_⟩
  refine ⟨room_of (by simpa using ho.to) (by decide), ?_⟩
  refine ⟨fun g1 => go 300 ?_, fun g1 => go 300 ?_⟩
  · have g1 := eq_of g1
    refine ⟨trivial, rfl, rfl, rfl, rfl, rfl, _, ?_, ?_, rfl⟩
    · simp only [bareO, g1]
      refine wk_op ⟨.refl _, .refl _, .refl _, Wk.nil 1, .refl _, .refl _, .refl _, .refl _, .refl _, Wk.ff, Wk.nil 3, trivial⟩
    · rfl
  refine ⟨fun g2 => go 300 ?_, fun g2 => go 300 ?_⟩
  · have g2 := eq_of g2
    refine ⟨trivial, rfl, rfl, rfl, rfl, rfl, _, ?_, ?_, rfl⟩
    · simp only [bareO, g2]
      refine wk_op ⟨.refl _, .refl _, .refl _, Wk.nil 1, .refl _, Wk.ff, .refl _, .refl _, .refl _, Wk.ff, Wk.nil 3, trivial⟩
    · rfl
  refine ⟨fun g3 => go 300 ?_, fun g3 => go 300 ?_⟩
  · have g3 := eq_of g3
    refine ⟨trivial, rfl, rfl, rfl, rfl, rfl, rfl, rfl, _, ?_, ?_, rfl⟩
    · simp only [bareO, g3]
      refine wk_op ⟨.refl _, .refl _, .refl _, .refl _, .refl _, Wk.ff, .refl _, .refl _, .refl _, Wk.ff, Wk.nil 3, trivial⟩
    · rfl
  refine ⟨fun g4 => go 300 ?_, fun g4 => go 300 ?_⟩
  · have g4 := eq_of g4
    refine ⟨fun h => go 300 ?_, fun h => go 300 ?_⟩
    · have h : o.gone = false := by simpa using h
      refine ⟨trivial, rfl, rfl, rfl, rfl, rfl, _, ?_, ?_, rfl⟩
      · simp only [bareO, g4, h]
        refine wk_op ⟨.refl _, .refl _, .refl _, Wk.nil 1, .refl _, Wk.ff, .refl _, .refl _, .refl _, .refl _, Wk.nil 3, trivial⟩
      · rfl
    · have h : o.gone = true := by simpa using h
      refine ⟨trivial, rfl, rfl, rfl, rfl, rfl, _, ?_, ?_, rfl⟩
      · simp only [bareO, g4, h]
        refine wk_op ⟨.refl _, .refl _, .refl _, Wk.nil 1, .refl _, Wk.ff, .refl _, .refl _, .refl _, .refl _, Wk.nil 3, trivial⟩
      · rfl
  refine ⟨fun g5 => go 300 ?_, fun g5 => go 300 ?_⟩
  · have g5 := eq_of g5
    refine ⟨trivial, rfl, rfl, rfl, rfl, rfl, _, ?_, ?_, rfl⟩
    · simp only [bareO, g5]
      refine wk_op ⟨.refl _, .refl _, .refl _, Wk.nil 1, .refl _, Wk.ff, .refl _, .refl _, .refl _, Wk.ff, Wk.nil 3, trivial⟩
    · rfl
  refine ⟨fun g6 => go 300 ?_, fun g6 => go 300 ?_⟩
  · have g6 := eq_of g6
    refine ⟨room_of (by simpa using ho.pieces) (by decide), ?_⟩
    refine ⟨trivial, rfl, rfl, rfl, rfl, rfl, rfl, rfl, _, ?_, ?_, rfl⟩
    · simp only [bareO, g6]
      refine wk_op ⟨.refl _, .refl _, .refl _, Wk.nil 1, .refl _, Wk.ff, .refl _, .refl _, .refl _, Wk.ff, .refl _, trivial⟩
    · rfl
  · have g1 := ne_of g1
    have g2 := ne_of g2
    have g3 := ne_of g3
    have g4 := ne_of g4
    have g5 := ne_of g5
    have g6 := ne_of g6
    refine ⟨trivial, rfl, rfl, rfl, _, ?_, ?_, rfl⟩
    · have e : bareO o = noOp o.kind := by
        unfold bareO
        rw [show (o.kind == 1) = false by simpa using g1, show (o.kind == 2) = false by simpa using g2, show (o.kind == 3) = false by simpa using g3, show (o.kind == 4) = false by simpa using g4, show (o.kind == 5) = false by simpa using g5, show (o.kind == 6) = false by simpa using g6]
        rfl
      rw [e]
      refine wk_op ⟨.refl _, Wk.nil 1, .refl _, Wk.nil 1, .refl _, Wk.ff, .refl _, .refl _, .refl _, Wk.ff, Wk.nil 3, trivial⟩
    · rfl

/-! ### What is put -/
theorem putsLen_cons (p : PieceT) (l : List PieceT) : putsLen (p :: l) = p.put.length + putsLen l := rfl
theorem bare_lt {o : OpT} {n : Nat} (h : o.Lt n) : (bareO o).Lt n := by
  unfold bareO noOp
  rcases Bool.eq_false_or_eq_true (o.kind == 1) with e | e <;> rw [e] <;> simp only [cond_true, cond_false]
  · exact ⟨h.path, Nat.zero_le _, h.label, Nat.zero_le _, Nat.zero_le _, Nat.zero_le _⟩
  rcases Bool.eq_false_or_eq_true (o.kind == 2) with e | e <;> rw [e] <;> simp only [cond_true, cond_false]
  · exact ⟨h.path, Nat.zero_le _, Nat.zero_le _, Nat.zero_le _, Nat.zero_le _, Nat.zero_le _⟩
  rcases Bool.eq_false_or_eq_true (o.kind == 3) with e | e <;> rw [e] <;> simp only [cond_true, cond_false]
  · exact ⟨h.path, h.to, Nat.zero_le _, Nat.zero_le _, Nat.zero_le _, Nat.zero_le _⟩
  rcases Bool.eq_false_or_eq_true (o.kind == 4) with e | e <;> rw [e] <;> simp only [cond_true, cond_false]
  · refine ⟨h.path, Nat.zero_le _, Nat.zero_le _, h.key, ?_, Nat.zero_le _⟩
    cases o.gone <;> simp [h.value]
  rcases Bool.eq_false_or_eq_true (o.kind == 5) with e | e <;> rw [e] <;> simp only [cond_true, cond_false]
  · exact ⟨h.path, Nat.zero_le _, h.label, Nat.zero_le _, Nat.zero_le _, Nat.zero_le _⟩
  rcases Bool.eq_false_or_eq_true (o.kind == 6) with e | e <;> rw [e] <;> simp only [cond_true, cond_false]
  · exact ⟨h.path, Nat.zero_le _, Nat.zero_le _, Nat.zero_le _, Nat.zero_le _, h.pieces⟩
  · exact ⟨Nat.zero_le _, Nat.zero_le _, Nat.zero_le _, Nat.zero_le _, Nat.zero_le _, Nat.zero_le _⟩
theorem bare_puts {o : OpT} : putsLen (bareO o).pieces ≤ putsLen o.pieces := by
  unfold bareO noOp
  rcases Bool.eq_false_or_eq_true (o.kind == 1) with e | e <;> rw [e] <;> simp only [cond_true, cond_false]
  · exact Nat.zero_le _
  rcases Bool.eq_false_or_eq_true (o.kind == 2) with e | e <;> rw [e] <;> simp only [cond_true, cond_false]
  · exact Nat.zero_le _
  rcases Bool.eq_false_or_eq_true (o.kind == 3) with e | e <;> rw [e] <;> simp only [cond_true, cond_false]
  · exact Nat.zero_le _
  rcases Bool.eq_false_or_eq_true (o.kind == 4) with e | e <;> rw [e] <;> simp only [cond_true, cond_false]
  · exact Nat.zero_le _
  rcases Bool.eq_false_or_eq_true (o.kind == 5) with e | e <;> rw [e] <;> simp only [cond_true, cond_false]
  · exact Nat.zero_le _
  rcases Bool.eq_false_or_eq_true (o.kind == 6) with e | e <;> rw [e] <;> simp only [cond_true, cond_false]
  · exact Nat.le_refl _
  · exact Nat.zero_le _

end Bow
/- W11: Fits; the chapter's examples; the laws' functions. -/
namespace Bow
open Go Go.Proofs

structure OpT.Ok (o : OpT) : Prop where
  lt : o.Lt 1000000
  puts : putsLen o.pieces ≤ 1048576
theorem put_le {l : List PieceT} : ∀ p ∈ l, p.put.length ≤ putsLen l := by
  induction l with
  | nil => intro p h; cases h
  | cons q l ih =>
    intro p h
    rw [putsLen_cons]
    rcases List.mem_cons.1 h with rfl | h
    · omega
    · have := ih p h; omega
theorem OpT.Ok.each {o : OpT} (h : o.Ok) : ∀ p ∈ o.pieces, p.put.length ≤ 1000000000 := fun p hp => by have := put_le p hp; have := h.puts; omega
theorem bare_ok {o : OpT} (h : o.Ok) : (bareO o).Ok := ⟨bare_lt h.lt, Nat.le_trans bare_puts h.puts⟩
end Bow
/- W12: the chapter's examples; the laws' functions. -/
namespace Bow
open Go Go.Proofs

end Bow
/- W13: the laws' functions: LimitsCheck, LimitsFits. -/
namespace Bow
open Go Go.Proofs

end Bow
/- W14: slices.Grow of nil, slices.Concat: printed by gen_w14.py. -/
namespace Bow
open Go Go.Proofs

end Bow
/- W15: slices.Equal, slices.Clone, paths: printed by gen_w15.py. -/
namespace Bow
open Go Go.Proofs

theorem take_succ_eq {α : Type} {xs ys : List α} {i : Nat} (hx : i < xs.length) (hy : i < ys.length) : xs.drop i = ys.drop i ↔ xs[i] = ys[i] ∧ xs.drop (i + 1) = ys.drop (i + 1) := by
  rw [List.drop_eq_getElem_cons hx, List.drop_eq_getElem_cons hy, List.cons.injEq]

theorem PieceT.ext {a b : PieceT} (h1 : a.keep = b.keep) (h2 : a.drop = b.drop) (h3 : a.put = b.put) : a = b := by cases a; cases b; simp_all
instance : DecidableEq PieceT := fun a b => decidable_of_iff (a.keep = b.keep ∧ a.drop = b.drop ∧ a.put = b.put) ⟨fun h => PieceT.ext h.1 h.2.1 h.2.2, fun h => by subst h; exact ⟨rfl, rfl, rfl⟩⟩

set_option maxRecDepth 100000 in
theorem w_EqualInt (xs ys : List Int) (hl : xs.length ≤ 1000000) : Pure Tryz.prog 100 [.sl 1 (xs.map intV), .sl 1 (ys.map intV)] (fun x => x = .bool (decide (xs = ys))) := by
  refine pure_wk (pure_fn 100 Tryz.func100 rfl rfl rfl fun B => ?_)
  refine ⟨fun g1 => go 100 ?_, fun g1 => go 100 ?_⟩
  · have g1 := ne_of' g1
    refine ⟨trivial, rfl, rfl, rfl, leaf_ff (decide_eq_false fun e => g1 ?_)⟩
    rw [e]
  have g1 : xs.length = ys.length := by have := eq_of' g1; simp at this; omega
  show Goes _ _ _ _
  refine goes_iter (ι := Nat) (fun i => i ≤ xs.length ∧ (xs.drop i = ys.drop i ↔ xs = ys)) (fun i => xs.length - i) (fun i => [(13, .int .i64 i), (12, .int .i64 (xs.map intV).length), (1, .sl 1 (ys.map intV)), (0, .sl 1 (xs.map intV))]) (fun _ => []) 0 100 (fun _ => rfl) (fun _ => rfl) ⟨⟨Nat.zero_le _, Iff.rfl⟩, ?_, trivial⟩ ?_
  · exact ⟨⟨rfl, rfl⟩, ⟨rfl, rfl⟩, ⟨rfl, rfl⟩, ⟨rfl, rfl⟩, trivial⟩
  rintro i ⟨k1, k2⟩ next
  refine ⟨fun hlt => go 100 ?_, fun hge => go 100 ?_⟩
  · have hi : i < xs.length := by simpa using hlt
    have hi' : i < ys.length := by omega
    have hx : (xs.map intV)[i]? = some (intV xs[i]) := by simp [hi]
    have hy : (ys.map intV)[i]? = some (intV ys[i]) := by simp [hi']
    rw [take_succ_eq hi hi'] at k2
    show Goes _ _ _ _
    refine goes_draw 100 ?_
    refine ⟨Int.natCast_nonneg i, _, hx, Int.natCast_nonneg i, _, hy, ?_⟩
    refine ⟨by kernel_rfl, ?_⟩
    refine ⟨fun g2 => go 100 ?_, fun g2 => go 100 ?_⟩
    · refine ⟨trivial, rfl, rfl, rfl, leaf_ff (decide_eq_false fun e => ?_)⟩
      have := (k2.2 e).1
      rw [this] at g2
      simp at g2
    · refine ⟨by constructor <;> omega, ?_⟩
      have he : xs[i] = ys[i] := by
        exact eq_of' g2
      exact next (i + 1) _ _ ⟨⟨hi, by rw [← k2]; exact ⟨fun h => ⟨he, h⟩, fun h => h.2⟩⟩, by omega, ⟨⟨rfl, rfl⟩, ⟨rfl, rfl⟩, ⟨rfl, rfl⟩, ⟨rfl, rfl⟩, trivial⟩, trivial⟩
  · have hi : i = xs.length := by have : xs.length ≤ i := by simpa using hge
                                  omega
    subst hi
    refine ⟨trivial, rfl, rfl, rfl, leaf_tt (decide_eq_true (k2.1 ?_))⟩
    rw [List.drop_eq_nil_of_le (Nat.le_refl _), List.drop_eq_nil_of_le (by omega)]

set_option maxRecDepth 100000 in
theorem w_EqualPiece (xs ys : List PieceT) (hl : xs.length ≤ 1000000) : Pure Tryz.prog 71 [.sl 3 (xs.map pieceV), .sl 3 (ys.map pieceV)] (fun x => x = .bool (decide (xs = ys))) := by
  refine pure_wk (pure_fn 100 Tryz.func71 rfl rfl rfl fun B => ?_)
  refine ⟨fun g1 => go 100 ?_, fun g1 => go 100 ?_⟩
  · have g1 := ne_of' g1
    refine ⟨trivial, rfl, rfl, rfl, leaf_ff (decide_eq_false fun e => g1 ?_)⟩
    rw [e]
  have g1 : xs.length = ys.length := by have := eq_of' g1; simp at this; omega
  show Goes _ _ _ _
  refine goes_iter (ι := Nat) (fun i => i ≤ xs.length ∧ (xs.drop i = ys.drop i ↔ xs = ys)) (fun i => xs.length - i) (fun i => [(13, .int .i64 i), (12, .int .i64 (xs.map pieceV).length), (1, .sl 3 (ys.map pieceV)), (0, .sl 3 (xs.map pieceV))]) (fun _ => []) 0 100 (fun _ => rfl) (fun _ => rfl) ⟨⟨Nat.zero_le _, Iff.rfl⟩, ?_, trivial⟩ ?_
  · exact ⟨⟨rfl, rfl⟩, ⟨rfl, rfl⟩, ⟨rfl, rfl⟩, ⟨rfl, rfl⟩, trivial⟩
  rintro i ⟨k1, k2⟩ next
  refine ⟨fun hlt => go 100 ?_, fun hge => go 100 ?_⟩
  · have hi : i < xs.length := by simpa using hlt
    have hi' : i < ys.length := by omega
    have hx : (xs.map pieceV)[i]? = some (pieceV xs[i]) := by simp [hi]
    have hy : (ys.map pieceV)[i]? = some (pieceV ys[i]) := by simp [hi']
    rw [take_succ_eq hi hi'] at k2
    show Goes _ _ _ _
    refine goes_draw 100 ?_
    refine ⟨Int.natCast_nonneg i, _, hx, Int.natCast_nonneg i, _, hy, ?_⟩
    refine ⟨by kernel_rfl, ?_⟩
    refine ⟨by kernel_rfl, ?_⟩
    refine ⟨fun g2 => go 100 ?_, fun g2 => go 100 ?_⟩
    · refine ⟨trivial, rfl, rfl, rfl, leaf_ff (decide_eq_false fun e => ?_)⟩
      have := (k2.2 e).1
      rw [this] at g2
      simp at g2
    · refine ⟨by constructor <;> omega, ?_⟩
      have he : xs[i] = ys[i] := by
        simp at g2
        exact PieceT.ext g2.1 g2.2.1 g2.2.2
      exact next (i + 1) _ _ ⟨⟨hi, by rw [← k2]; exact ⟨fun h => ⟨he, h⟩, fun h => h.2⟩⟩, by omega, ⟨⟨rfl, rfl⟩, ⟨rfl, rfl⟩, ⟨rfl, rfl⟩, ⟨rfl, rfl⟩, trivial⟩, trivial⟩
  · have hi : i = xs.length := by have : xs.length ≤ i := by simpa using hge
                                  omega
    subst hi
    refine ⟨trivial, rfl, rfl, rfl, leaf_tt (decide_eq_true (k2.1 ?_))⟩
    rw [List.drop_eq_nil_of_le (Nat.le_refl _), List.drop_eq_nil_of_le (by omega)]

/-- What a clone leaves: nil, or own memory. -/
def CloneQ (sz : Nat) (xs : List V) (x : V) (T : Heap) : Prop := (xs = [] ∧ x = .nilsl ∧ T = []) ∨ (x = .osl (.loc 0) 2 0 xs.length ∧ T = [some (.vec 2 sz xs)])

theorem w_CloneInt (xs : List V) (hl : xs.length ≤ 1000000) : Fun Tryz.prog 119 [] [.sl 1 xs] (CloneQ 1 xs) := by
  refine fun_fn 100 Tryz.func119 rfl rfl rfl fun imps B hi => ?_
  have : imps = [] := List.length_eq_zero_iff.1 hi
  subst this
  show Goes _ _ _ _
  refine goes_nileq 100 rfl rfl rfl rfl rfl rfl fun b hb => ?_
  refine ⟨fun g => go 100 ?_, fun g => go 100 ?_⟩
  · exact ⟨trivial, rfl, rfl, .inl ⟨hb g, rfl, rfl⟩⟩
  · refine ⟨trivial, rfl, rfl, Nat.le_trans (Nat.mul_le_mul_right _ (show _ ≤ 1000000 by simpa using hl)) (by decide), ?_⟩
    refine ⟨trivial, rfl, rfl, .inr ⟨?_, rfl⟩⟩
    simp [resV, bump]

end Bow
/- W16: paths, further. -/
namespace Bow
open Go Go.Proofs

theorem common_at {p q : List Int} {i : Nat} (hp : i < p.length) (hq : i < q.length) : common (p.drop i) (q.drop i) = bif decide (p[i] = q[i]) then common (p.drop (i + 1)) (q.drop (i + 1)) + 1 else 0 := by
  rw [List.drop_eq_getElem_cons hp, List.drop_eq_getElem_cons hq, common]
theorem common_nil {p q : List Int} {i : Nat} (h : p.length ≤ i ∨ q.length ≤ i) : common (p.drop i) (q.drop i) = 0 := by
  rcases h with h | h
  · rw [List.drop_eq_nil_of_le h]; simp [common]
  · rw [List.drop_eq_nil_of_le h]; cases p.drop i <;> simp [common]

set_option maxRecDepth 100000 in
theorem w_refCommon (p q : List Int) (hp : p.length ≤ 1000000) : Pure Tryz.prog 56 [pathV p, pathV q] (fun x => x = .int .i64 (common p q)) := by
  refine pure_fn 100 Tryz.func56 rfl rfl rfl fun B => ?_
  show Goes _ _ _ _
  refine goes_iter (ι := Nat) (fun i => i ≤ p.length ∧ i + common (p.drop i) (q.drop i) = common p q) (fun i => p.length - i) (fun i => [(5, .int .i64 i), (1, pathV q), (0, pathV p)]) (fun _ => []) 0 100 (fun _ => rfl) (fun _ => rfl) ⟨⟨Nat.zero_le _, by simp⟩, ?_, trivial⟩ ?_
  · exact ⟨⟨rfl, rfl⟩, ⟨rfl, rfl⟩, ⟨rfl, rfl⟩, trivial⟩
  rintro i ⟨k1, k2⟩ next
  show Goes _ _ _ _
  have fin : common (p.drop i) (q.drop i) = 0 → V.int .i64 (i : Nat) = .int .i64 (common p q) := fun h => by rw [← k2, h]; rfl
  refine goes_draw 100 ⟨fun g1 => ⟨fun g2 => ?_, fun g2 => ?_⟩, fun g1 => ?_⟩
  · have hi : i < p.length := by simpa using g1
    have hi' : i < q.length := by simpa using g2
    have hx : (p.map intV)[i]? = some (intV p[i]) := by simp [hi]
    have hy : (q.map intV)[i]? = some (intV q[i]) := by simp [hi']
    rw [common_at hi hi'] at k2 fin
    refine ⟨Int.natCast_nonneg i, _, hx, Int.natCast_nonneg i, _, hy, ?_⟩
    refine ⟨by kernel_rfl, ?_⟩
    refine ⟨fun g3 => go 100 ?_, fun g3 => go 100 ?_⟩
    · rw [g3] at k2
      refine ⟨by constructor <;> omega, ?_⟩
      exact next (i + 1) _ _ ⟨⟨hi, by simp only [cond_true] at k2; omega⟩, by omega, ⟨⟨rfl, rfl⟩, ⟨rfl, rfl⟩, ⟨rfl, rfl⟩, trivial⟩, trivial⟩
    · rw [g3] at fin
      exact ⟨trivial, rfl, rfl, rfl, fin rfl⟩
  · have hi' : q.length ≤ i := by simpa using g2
    refine ⟨by kernel_rfl, ?_⟩
    exact ⟨trivial, rfl, rfl, rfl, fin (common_nil (.inr hi'))⟩
  · have hi : p.length ≤ i := by simpa using g1
    refine ⟨by kernel_rfl, ?_⟩
    exact ⟨trivial, rfl, rfl, rfl, fin (common_nil (.inl hi))⟩

theorem w_refWithin (p q : List Int) (hp : p.length ≤ 1000000) : Pure Tryz.prog 30 [pathV p, pathV q] (fun x => x = .bool (within p q)) := by
  refine pure_wk (pure_fn 100 Tryz.func30 rfl rfl rfl fun B => ?_)
  show CallThen _ _ _ _ _ _
  refine call_pure (w_refCommon p q hp) rfl ?_
  rintro x rfl
  refine ⟨trivial, rfl, rfl, rfl, leaf_b ?_⟩
  rw [← common_within]
  simp
  omega

theorem w_refSame (p q : List Int) (hp : p.length ≤ 1000000) : Pure Tryz.prog 49 [pathV p, pathV q] (fun x => x = .bool (decide (p = q))) := by
  refine pure_wk (pure_fn 100 Tryz.func49 rfl rfl rfl fun B => ?_)
  refine ⟨fun g1 => go 100 ?_, fun g1 => go 100 ?_⟩
  · have g1 : p.length = q.length := by have := eq_of g1; simp at this; omega
    show CallThen _ _ _ _ _ _
    refine call_pure (w_refCommon p q hp) rfl ?_
    rintro x rfl
    refine ⟨trivial, rfl, rfl, rfl, leaf_b ?_⟩
    rw [← common_same p q g1]
    simp
    omega
  · have g1 := ne_of g1
    exact ⟨trivial, rfl, rfl, rfl, leaf_ff (decide_eq_false fun e => g1 (by rw [e]))⟩

theorem w_refCopied (p : List Int) (h : p.length ≤ 1000000) : Pure Tryz.prog 80 [pathV p] (fun x => x = pathV p) := by
  refine pure_fn 100 Tryz.func80 rfl rfl rfl fun B => ?_
  refine ⟨Nat.le_trans (Nat.mul_le_mul_right _ (show (p.map intV).length ≤ 1000000 by simpa using h)) (by decide), ?_⟩
  exact ⟨trivial, rfl, rfl, rfl, rfl, rfl, rfl⟩

theorem w_pathSame (p q : List Int) (hp : p.length ≤ 1000000) : Pure Tryz.prog 70 [pathV p, pathV q] (fun x => x = .bool (decide (p = q))) := by
  refine pure_fn 100 Tryz.func70 rfl rfl rfl fun B => ?_
  show CallThen _ _ _ _ _ _
  refine call_pure (w_EqualInt p q hp) rfl ?_
  rintro x rfl
  exact ⟨trivial, rfl, rfl, rfl, rfl⟩

theorem w_pathWithin (p q : List Int) (hp : p.length ≤ 1000000) : Pure Tryz.prog 81 [pathV p, pathV q] (fun x => x = .bool (within p q)) := by
  refine pure_wk (pure_fn 100 Tryz.func81 rfl rfl rfl fun B => ?_)
  refine ⟨fun g1 => go 100 ?_, fun g1 => go 100 ?_⟩
  · have g1 : p.length ≤ q.length := by have := le_of g1; simp at this; omega
    refine ⟨by decide, by simp, by simpa using g1, ?_⟩
    show CallThen _ _ _ _ _ _
    have e : V.sl 1 ((((q.map intV).drop (Int.toNat 0)).take (((p.map intV).length : Int).toNat - Int.toNat 0))) = pathV (q.take p.length) := by
      unfold pathV
      simp
    refine call_pure (Q := fun x => x = .bool (decide (p = q.take p.length))) (by have h := w_EqualInt p (q.take p.length) hp; unfold pathV at e; rw [← e] at h; exact h) rfl ?_
    rintro x rfl
    exact ⟨trivial, rfl, rfl, rfl, leaf_b rfl⟩
  · have g1 : q.length < p.length := by have := not_le_of g1; simp at this; omega
    refine ⟨trivial, rfl, rfl, rfl, leaf_ff ?_⟩
    cases h : within p q with
    | false => rfl
    | true => have := within_len h; omega

theorem pure_clone {P : Program} {f : FuncId} {sz : Nat} {xs : List V} (h : Fun P f [] [.sl sz xs] (CloneQ sz xs)) : Pure P f [.sl sz xs] (fun x => x = .sl sz xs) := by
  refine pure_wk (pure_of_fun (h.mono fun x T hx => ?_))
  rcases hx with ⟨e, rfl, rfl⟩ | ⟨rfl, rfl⟩
  · subst e
    exact ⟨rfl, _, Wk.nil sz, rfl, rfl⟩
  · exact ⟨rfl, rfl, rfl, _, Wk.refl _, rfl, rfl⟩

/-- The path of the parent, of one that is not the root's; where in it. -/
theorem w_Parent (p : List Int) (hp : p.length ≤ 1000000) (hne : p ≠ []) : Pure Tryz.prog 148 [pathV p] (fun x => x = .tup [pathV p.dropLast, intV (p.getLast hne), .tt]) := by
  have hpos : 0 < p.length := List.length_pos_iff.2 hne
  refine pure_fn 100 Tryz.func148 rfl rfl rfl fun B => ?_
  refine ⟨fun g1 => go 100 ?_, fun g1 => go 100 ?_⟩
  · have := eq_of g1
    simp at this
    exact absurd this hne
  refine ⟨by constructor <;> simp <;> omega, ?_⟩
  show Goes _ _ _ _
  have e : V.sl 1 ((((p.map intV).drop (Int.toNat 0)).take ((((p.map intV).length : Int) - 1).toNat - Int.toNat 0))) = .sl 1 (p.dropLast.map intV) := by
    rw [List.dropLast_eq_take, List.map_take]
    congr 2
    simp
  have hx : (p.map intV)[(((p.map intV).length : Int) - 1).toNat]? = some (intV (p.getLast hne)) := by
    rw [List.getElem?_map, List.getLast_eq_getElem]
    have : (((p.map intV).length : Int) - 1).toNat = p.length - 1 := by simp
    rw [this, List.getElem?_eq_getElem (by omega)]
    rfl
  refine goes_draw 100 ⟨by decide, by simp; omega, by omega, ?_⟩
  have h := pure_clone (w_CloneInt (p.dropLast.map intV) (by rw [List.length_map, List.length_dropLast]; omega))
  rw [← e] at h
  refine ⟨_, h, rfl, ?_⟩
  refine ⟨by simp only [List.length_map]; omega, _, hx, ?_⟩
  refine ⟨by kernel_rfl, ?_⟩
  refine ⟨trivial, rfl, rfl, rfl, ?_⟩
  rw [e]
  rfl
end Bow
/- W17: the node at a path. -/
namespace Bow
open Go Go.Proofs

theorem subs_le_weights : ∀ l : List Tree, l.length ≤ weights l
  | [] => by rw [weights]; simp
  | s :: l => by
    have := subs_le_weights l
    have := weight_eq s
    rw [weights_cons, List.length_cons]
    omega
theorem subs_le_weight (t : Tree) : t.subs.length < t.weight := by have := weight_eq t; have := subs_le_weights t.subs; omega
theorem subV_at {t s : Tree} {i : Nat} (h : t.subs[i]? = some s) : t.subV[i]? = some (nodeV s) := by rw [subV_eq, List.getElem?_map, h]; rfl
theorem subV_len (t : Tree) : t.subV.length = t.subs.length := by rw [subV_eq, List.length_map]
theorem wk_at0 : Wk (.tup [zeroV .nilsl, .ff]) (atV (zeroT []) none) := Wk.tup ⟨wk_zero (ss := []) (Wk.nil 6), .refl _, trivial⟩

set_option maxRecDepth 100000 in
theorem w_refAt (t : Tree) (p : List Int) (hp : p.length ≤ 1000000) : Pure Tryz.prog 28 [nodeV t, pathV p] (fun x => x = atV (zeroT []) (atT t p)) := by
  refine pure_wk (pure_fn 100 Tryz.func28 rfl rfl rfl fun B => ?_)
  show Goes _ _ _ _
  refine goes_iter (ι := Nat × Tree) (fun i => i.1 ≤ p.length ∧ atT i.2 (p.drop i.1) = atT t p) (fun i => p.length - i.1) (fun i => [(6, .int .i64 i.1), (1, pathV p), (2, .ptr (.loc 0) 0), (4, .ptr (.loc 1) 0)]) (fun i => [some (.box (nodeV i.2).cells), some (.box (zeroV .nilsl).cells)]) (0, t) 100 (fun _ => rfl) (fun _ => rfl) ⟨⟨Nat.zero_le _, rfl⟩, ?_, ?_⟩ ?_
  · exact ⟨⟨rfl, rfl⟩, ⟨rfl, rfl⟩, ⟨rfl, rfl⟩, ⟨rfl, rfl⟩, trivial⟩
  · exact ⟨⟨rfl, rfl⟩, ⟨rfl, rfl⟩, trivial⟩
  rintro ⟨i, s⟩ ⟨k1, k2⟩ next
  simp only at k1 k2
  refine ⟨fun hlt => go 100 ?_, fun hge => go 100 ?_⟩
  · have hi : i < p.length := by simpa using hlt
    have hx : (p.map intV)[i]? = some (intV p[i]) := by simp [hi]
    rw [drop_cons hi, atT] at k2
    show Goes _ _ _ _
    refine goes_draw 100 ⟨Int.natCast_nonneg i, _, hx, ⟨fun g1 => ?_, fun g1 => ?_⟩⟩
    · have g1 := lt_of g1
      rw [subT_neg g1] at k2
      refine ⟨by kernel_rfl, ?_⟩
      exact ⟨trivial, rfl, rfl, rfl, _, wk_at0, rfl, by rw [← k2]⟩
    have g1 := not_lt_of g1
    refine ⟨Int.natCast_nonneg i, _, hx, ?_⟩
    refine ⟨by kernel_rfl, ?_⟩
    refine ⟨fun g2 => go 100 ?_, fun g2 => go 100 ?_⟩
    · have g2 := le_of g2
      rw [subV_len] at g2
      rw [subT_big g2] at k2
      exact ⟨trivial, rfl, rfl, rfl, _, wk_at0, rfl, by rw [← k2]⟩
    · have g2 := not_le_of g2
      rw [subV_len] at g2
      obtain ⟨u, hu, hv⟩ := subT_at g1 g2
      rw [hu] at k2
      show Goes _ _ _ _
      refine goes_draw 100 ⟨Int.natCast_nonneg i, _, hx, g1, _, subV_at hv, ?_⟩
      refine ⟨by kernel_rfl, ?_⟩
      refine ⟨by constructor <;> omega, ?_⟩
      exact next (i + 1, u) _ _ ⟨⟨hi, k2⟩, by simp only; omega, ⟨⟨rfl, rfl⟩, ⟨rfl, rfl⟩, ⟨rfl, rfl⟩, ⟨rfl, rfl⟩, trivial⟩, ⟨⟨rfl, rfl⟩, ⟨rfl, rfl⟩, trivial⟩⟩
  · have hi : p.length ≤ i := by simpa using hge
    rw [List.drop_eq_nil_of_le hi, atT] at k2
    exact ⟨trivial, rfl, rfl, rfl, _, .refl _, rfl, by rw [← k2]; rfl⟩

theorem w_refInto (t : Tree) (at_ : Int) : Pure Tryz.prog 29 [nodeV t, intV at_] (fun x => x = .int .i64 (intoE t at_)) := by
  refine pure_fn 100 Tryz.func29 rfl rfl rfl fun B => ?_
  refine ⟨fun g1 => go 100 ?_, fun g1 => go 100 ?_⟩
  · exact ⟨trivial, rfl, rfl, rfl, by unfold intoE; rw [g1]; rfl⟩
  refine ⟨fun g2 => go 100 ?_, fun g2 => go 100 ?_⟩
  · rw [subV_len] at g2
    exact ⟨trivial, rfl, rfl, rfl, by unfold intoE; rw [g1, g2]; rfl⟩
  · rw [subV_len] at g2
    exact ⟨trivial, rfl, rfl, rfl, by unfold intoE; rw [g1, g2]; rfl⟩
end Bow
/- W18: changes of the node at a path: printed by gen_w18.py. -/
namespace Bow
open Go Go.Proofs

theorem subV_set (t : Tree) (i : Nat) (s : Tree) : t.subV.set i (nodeV s) = (t.subs.set i s).map nodeV := by rw [subV_eq, List.map_set]

end Bow
/- W19: nodes put in and taken out. -/
namespace Bow
open Go Go.Proofs

end Bow
/- W20: where a moved node lands. -/
namespace Bow
open Go Go.Proofs

end Bow
/- W21: right trees. -/
namespace Bow
open Go Go.Proofs

end Bow
/- W22: right trees, in the document's words. -/
namespace Bow
open Go Go.Proofs

theorem rightsA_at {l : List Tree} {i : Nat} (hi : i < l.length) : rightsA (l.drop i) = (l[i].rightA && rightsA (l.drop (i + 1))) := by rw [List.drop_eq_getElem_cons hi, rightsA]

set_option maxRecDepth 100000 in
theorem w_refRightA (t : Tree) : t.weight ≤ 1000000 → Pure Tryz.prog 52 [nodeV t] (fun x => x = .bool t.rightA) := by
  induction t using Tree.ind with
  | _ t ih =>
  intro h
  have hw := weight_eq t
  refine pure_wk (pure_fn 300 Tryz.func52 rfl rfl rfl fun B => ?_)
  have hA := rightA_eq t
  have no : rightN t = false → t.rightA = false := fun e => by rw [hA, e]; rfl
  repeat' first
    | (refine ⟨fun _ => go 300 ?_, fun _ => go 300 ?_⟩)
    | (refine ⟨trivial, rfl, rfl, rfl, leaf_ff ?_⟩)
    | (show Goes _ _ _ _
       suffices hr : rightN t = attrsOk none t.attrs by
         refine goes_while (ι := Nat) (fun i => i ≤ t.attrs.length ∧ attrsOk (prevK t.attrs i) (t.attrs.drop i) = rightN t) (fun i => t.attrs.length - i) (fun i => [(3, .int .i64 i), (1, .ptr (.loc 0) 0)]) (fun i => [some (.box (nodeV t).cells)]) 0
           (fun _ : Unit => rightN t = true) (fun _ => [(1, .ptr (.loc 0) 0)]) (fun _ => [some (.box (nodeV t).cells)]) 300 (fun _ => rfl) (fun _ => rfl) (fun _ => rfl) (fun _ => rfl) ⟨⟨Nat.zero_le _, hr.symm⟩, ⟨⟨rfl, rfl⟩, ⟨rfl, rfl⟩, trivial⟩, ⟨⟨rfl, rfl⟩, trivial⟩⟩ ?_ ?_
         · rintro ⟨⟩ hN
           show Goes _ _ _ _
           refine goes_iter (ι := Nat) (fun i => i ≤ t.subs.length ∧ rightsA (t.subs.drop i) = rightsA t.subs) (fun i => t.subs.length - i) (fun i => [(4, .int .i64 i), (1, .ptr (.loc 0) 0)]) (fun i => [some (.box (nodeV t).cells)]) 0 300 (fun _ => rfl) (fun _ => rfl) ⟨⟨Nat.zero_le _, rfl⟩, ⟨⟨rfl, rfl⟩, ⟨rfl, rfl⟩, trivial⟩, ⟨⟨rfl, rfl⟩, trivial⟩⟩ ?_
           rintro i ⟨k1, k2⟩ next
           refine ⟨fun hlt => go 300 ?_, fun hge => go 300 ?_⟩
           · have hi : i < t.subs.length := by simpa [subV_eq] using hlt
             have hmem : t.subs[i] ∈ t.subs := List.getElem_mem hi
             have hws := weight_sub hmem
             have hsl := subs_le_weight t
             rw [rightsA_at hi] at k2
             refine ⟨Int.natCast_nonneg i, nodeV t.subs[i], by simp [subV_eq, hi], ?_⟩
             show CallThen _ _ _ _ _ _
             refine call_pure (ih _ hmem (by omega)) rfl ?_
             rintro x rfl
             refine ⟨fun g => go 300 ?_, fun g => go 300 ?_⟩
             · have g : (t.subs[i]).rightA = false := by simpa using g
               exact ⟨trivial, rfl, rfl, rfl, leaf_ff (by rw [hA, ← k2, g]; simp)⟩
             · have g : (t.subs[i]).rightA = true := by simpa using g
               rw [g, Bool.true_and] at k2
               refine ⟨by constructor <;> omega, ?_⟩
               exact next (i + 1) _ _ ⟨⟨hi, k2⟩, by omega, ⟨⟨rfl, rfl⟩, ⟨rfl, rfl⟩, trivial⟩, ⟨⟨rfl, rfl⟩, trivial⟩⟩
           · have hi : t.subs.length ≤ i := by simpa [subV_eq] using hge
             rw [List.drop_eq_nil_of_le hi, rightsA] at k2
             exact ⟨trivial, rfl, rfl, rfl, leaf_tt (by rw [hA, hN, ← k2]; rfl)⟩
         · rintro i ⟨k1, k2⟩ next post
           refine ⟨fun hlt => go 300 ?_, fun hge => go 300 ?_⟩
           · have hi : i < t.attrs.length := by simpa using hlt
             have hx : (t.attrs.map attrV)[i]? = some (attrV t.attrs[i]) := by simp [hi]
             rw [attrs_at hi] at k2
             unfold attrOk at k2
             have cont : keyOk t.attrs[i].1 = true → decide ((t.attrs[i].2.length : Int) ≤ 256) = true → ordOk (prevK t.attrs i) t.attrs[i].1 = true → attrsOk (prevK t.attrs (i + 1)) (t.attrs.drop (i + 1)) = rightN t := fun a b c => by rw [a, b, c] at k2; simpa using k2
             have stop1 : keyOk t.attrs[i].1 = false → rightN t = false := fun a => by rw [← k2, a]; rfl
             have stop2 : decide ((t.attrs[i].2.length : Int) ≤ 256) = false → rightN t = false := fun a => by rw [← k2, a]; simp
             have stop3 : ordOk (prevK t.attrs i) t.attrs[i].1 = false → rightN t = false := fun a => by rw [← k2, a]; simp
             show Goes _ _ _ _
             refine goes_draw 300 ⟨Int.natCast_nonneg i, _, hx, _, w_refKey t.attrs[i].1, rfl, ⟨fun q1 => ?_, fun q1 => ⟨Int.natCast_nonneg i, _, hx, ⟨fun q2 => ?_, fun q2 => ⟨fun q3 => ?_, fun q3 => ?_⟩⟩⟩⟩⟩
             · refine ⟨by kernel_rfl, ?_⟩
               exact ⟨trivial, rfl, rfl, rfl, leaf_ff (no (stop1 (by simpa using q1)))⟩
             · refine ⟨by kernel_rfl, ?_⟩
               exact ⟨trivial, rfl, rfl, rfl, leaf_ff (no (stop2 (by have := lt_of q2; simp; omega)))⟩
             · have q3' : 0 < i := by have := lt_of q3; omega
               have hx' : (t.attrs.map attrV)[((i : Int) - 1).toNat]? = some (attrV t.attrs[i - 1]) := by
                 have : ((i : Int) - 1).toNat = i - 1 := by omega
                 rw [this]
                 simp [show i - 1 < t.attrs.length by omega]
               have hp : prevK t.attrs i = some t.attrs[i - 1].1 := by
                 obtain ⟨j, rfl⟩ : ∃ j, i = j + 1 := ⟨i - 1, by omega⟩
                 rw [prevK, List.getD_eq_getElem?_getD, List.getElem?_eq_getElem (by omega)]
                 rfl
               rw [hp] at cont stop3
               refine ⟨Int.natCast_nonneg i, _, hx, ⟨by omega, by omega⟩, by omega, _, hx', ?_⟩
               refine ⟨by kernel_rfl, ?_⟩
               refine ⟨fun q4 => go 300 ?_, fun q4 => go 300 ?_⟩
               · exact ⟨trivial, rfl, rfl, rfl, leaf_ff (no (stop3 (congrArg Bool.not q4)))⟩
               · refine ⟨by constructor <;> omega, ?_⟩
                 exact next (i + 1) _ _ ⟨⟨hi, cont (by simpa using q1) (by have := not_lt_of q2; simp; omega) (congrArg Bool.not q4)⟩, by omega, ⟨⟨rfl, rfl⟩, ⟨rfl, rfl⟩, trivial⟩, ⟨⟨rfl, rfl⟩, trivial⟩⟩
             · have q3' : i = 0 := by have := not_lt_of q3; omega
               subst q3'
               refine ⟨by kernel_rfl, ?_⟩
               refine ⟨by constructor <;> omega, ?_⟩
               exact next 1 _ _ ⟨⟨hi, cont (by simpa using q1) (by have := not_lt_of q2; simp; omega) rfl⟩, by omega, ⟨⟨rfl, rfl⟩, ⟨rfl, rfl⟩, trivial⟩, ⟨⟨rfl, rfl⟩, trivial⟩⟩
           · have hi : i = t.attrs.length := by have : t.attrs.length ≤ i := by simpa using hge
                                                omega
             subst hi
             rw [List.drop_eq_nil_of_le (Nat.le_refl _), attrsOk] at k2
             exact post () _ _ _ rfl ⟨k2.symm, ⟨⟨rfl, rfl⟩, trivial⟩, ⟨⟨rfl, rfl⟩, trivial⟩⟩)
    | fail
  all_goals (first | refine no ?_ | skip)
  all_goals (simp_all [rightN, headOk, subV_eq])

theorem w_refRightT (t : Tree) (h : t.weight ≤ 1000000) : Pure Tryz.prog 26 [nodeV t] (fun x => x = .bool (rightT t)) := by
  refine pure_wk (pure_fn 100 Tryz.func26 rfl rfl rfl fun B => ?_)
  refine ⟨fun g1 => go 100 ?_, fun g1 => go 100 ?_⟩
  · show CallThen _ _ _ _ _ _
    refine call_pure (w_refRightA t h) rfl ?_
    rintro x rfl
    refine ⟨trivial, rfl, rfl, rfl, leaf_b ?_⟩
    unfold rightT
    rw [g1]
    rfl
  · refine ⟨trivial, rfl, rfl, rfl, leaf_ff ?_⟩
    unfold rightT
    rw [g1]
    rfl
end Bow
/- W23: edits of a text, in the document's words. -/
namespace Bow
open Go Go.Proofs

set_option maxRecDepth 100000 in
theorem w_refExtent (l : List PieceT) (hl : l.length ≤ 4096) (hok : ∀ p ∈ l, p.Ok) : Pure Tryz.prog 57 [piecesV l] (fun x => x = .int .i64 (extentP l)) := by
  refine pure_fn 100 Tryz.func57 rfl rfl rfl fun B => ?_
  show Goes _ _ _ _
  refine goes_iter (ι := Nat × Int) (fun i => i.1 ≤ l.length ∧ 0 ≤ i.2 ∧ i.2 + extentP (l.drop i.1) = extentP l) (fun i => l.length - i.1) (fun i => [(4, .int .i64 i.1), (0, piecesV l), (3, .int .i64 i.2)]) (fun _ => []) (0, 0) 100 (fun _ => rfl) (fun _ => rfl) ⟨⟨Nat.zero_le _, Int.le_refl _, by simp⟩, ⟨⟨rfl, rfl⟩, ⟨rfl, rfl⟩, ⟨rfl, rfl⟩, trivial⟩, trivial⟩ ?_
  rintro ⟨i, n⟩ ⟨k1, k2, k3⟩ next
  simp only at k1 k2 k3
  have hle := extentP_le hok
  refine ⟨fun hlt => go 100 ?_, fun hge => go 100 ?_⟩
  · have hi : i < l.length := by simpa using hlt
    have hx : (l.map pieceV)[i]? = some (pieceV l[i]) := by simp [hi]
    have hp := hok l[i] (List.getElem_mem hi)
    have := hp.k0
    have := hp.d0
    have hn := extentP_nonneg (l := l.drop (i + 1)) fun q hq => hok q (List.mem_of_mem_drop hq)
    rw [drop_cons hi, extentP_cons] at k3
    show Goes _ _ _ _
    refine goes_draw 100 ⟨Int.natCast_nonneg i, _, hx, ⟨by omega, by omega⟩, Int.natCast_nonneg i, _, hx, ⟨by omega, by omega⟩, ?_⟩
    refine ⟨by kernel_rfl, ?_⟩
    refine ⟨⟨by omega, by omega⟩, ?_⟩
    exact next (i + 1, n + l[i].keep + l[i].drop) _ _ ⟨⟨hi, by simp only; omega, by simp only; omega⟩, by simp only; omega, ⟨⟨rfl, rfl⟩, ⟨rfl, rfl⟩, ⟨rfl, rfl⟩, trivial⟩, trivial⟩
  · have hi : l.length ≤ i := by simpa using hge
    rw [List.drop_eq_nil_of_le hi] at k3
    exact ⟨trivial, rfl, rfl, rfl, by rw [← k3]; simp [extentP]; rfl⟩

set_option maxRecDepth 100000 in
theorem w_refEdit (t : List UInt8) (l : List PieceT) (ht : t.length ≤ 1000000000) (hl : l.length ≤ 1000000) (hpl : ∀ p ∈ l, p.put.length ≤ 1000000000) :
    Pure Tryz.prog 31 [.str t, piecesV l] (fun x => x = strE (applyE t l)) := by
  refine pure_fn 100 Tryz.func31 rfl rfl rfl fun B => ?_
  show CallThen _ _ _ _ _ _
  refine call_pure (w_refRight l hl hpl) rfl ?_
  rintro x rfl
  refine ⟨fun g1 => go 100 ?_, fun g1 => go 100 ?_⟩
  · exact ⟨trivial, rfl, rfl, rfl, by unfold applyE; rw [g1]; rfl⟩
  have hr : rightP l = true := by simpa using g1
  obtain ⟨r1, r2, r3⟩ := rightP_ok hr
  show CallThen _ _ _ _ _ _
  refine call_pure (w_refExtent l r1 r2) rfl ?_
  rintro x rfl
  refine ⟨fun g2 => go 100 ?_, fun g2 => go 100 ?_⟩
  · exact ⟨trivial, rfl, rfl, rfl, by unfold applyE; rw [g1, g2]; rfl⟩
  have g2' := not_lt_of g2
  have hfin : applyE t l = (editP t l, 0) := by unfold applyE; rw [g1, g2]; rfl
  show Goes _ _ _ _
  refine goes_iter (ι := Nat × List UInt8 × List UInt8) (fun i => i.1 ≤ l.length ∧ extentP (l.drop i.1) ≤ i.2.2.length ∧ i.2.1.length + i.2.2.length + putsLen (l.drop i.1) ≤ t.length + putsLen l ∧ i.2.1 ++ editP i.2.2 (l.drop i.1) = editP t l) (fun i => l.length - i.1)
    (fun i => [(7, .int .i64 i.1), (6, .str i.2.1), (0, .str i.2.2), (1, piecesV l)]) (fun _ => []) (0, [], t) 100 (fun _ => rfl) (fun _ => rfl) ⟨⟨Nat.zero_le _, g2', by simp, rfl⟩, ⟨⟨rfl, rfl⟩, ⟨rfl, rfl⟩, ⟨rfl, rfl⟩, ⟨rfl, rfl⟩, trivial⟩, trivial⟩ ?_
  rintro ⟨i, o, u⟩ ⟨k1, k2, k3, k4⟩ next
  simp only at k1 k2 k3 k4
  refine ⟨fun hlt => go 100 ?_, fun hge => go 100 ?_⟩
  · have hi : i < l.length := by simpa using hlt
    have hx : (l.map pieceV)[i]? = some (pieceV l[i]) := by simp [hi]
    have hp := r2 l[i] (List.getElem_mem hi)
    have p1 := hp.k0
    have p2 := hp.d0
    have p3 := hp.k1
    have p4 := hp.d1
    have hn := extentP_nonneg (l := l.drop (i + 1)) fun q hq => r2 q (List.mem_of_mem_drop hq)
    have e : putsLen (l[i] :: l.drop (i + 1)) = l[i].put.length + putsLen (l.drop (i + 1)) := rfl
    rw [drop_cons hi, extentP_cons] at k2
    rw [drop_cons hi, e] at k3
    rw [drop_cons hi, editP] at k4
    have hlen1 : ((u.drop (Int.toNat 0)).take (l[i].keep.toNat - Int.toNat 0)).length = l[i].keep.toNat := by simp; omega
    show Goes _ _ _ _
    refine goes_draw 100 ⟨Int.natCast_nonneg i, _, hx, by decide, p1, by simp only; omega, ?_, Int.natCast_nonneg i, _, hx, ?_, ?_⟩
    · simp only; rw [List.length_append, hlen1]; omega
    · simp only; rw [List.length_append, List.length_append, hlen1]; omega
    refine ⟨by kernel_rfl, ?_⟩
    show Goes _ _ _ _
    refine goes_draw 100 ⟨Int.natCast_nonneg i, _, hx, Int.natCast_nonneg i, _, hx, ⟨by omega, by omega⟩, by omega, by simp only; omega, Int.le_refl _, ?_⟩
    refine ⟨by kernel_rfl, ?_⟩
    refine ⟨⟨by omega, by omega⟩, ?_⟩
    have hlen2 : ((u.drop (l[i].keep + l[i].drop).toNat).take ((u.length : Int).toNat - (l[i].keep + l[i].drop).toNat)) = u.drop (l[i].keep + l[i].drop).toNat := List.take_of_length_le (by simp)
    refine next (i + 1, o ++ (u.drop (Int.toNat 0)).take (l[i].keep.toNat - Int.toNat 0) ++ l[i].put, (u.drop (l[i].keep + l[i].drop).toNat).take ((u.length : Int).toNat - (l[i].keep + l[i].drop).toNat)) _ _ ⟨⟨hi, ?_, ?_, ?_⟩, by simp only; omega, ⟨⟨rfl, rfl⟩, ⟨rfl, rfl⟩, ⟨rfl, rfl⟩, ⟨rfl, rfl⟩, trivial⟩, trivial⟩
    · simp only
      rw [hlen2, List.length_drop]
      omega
    · simp only
      rw [hlen2, List.length_drop, List.length_append, List.length_append, hlen1]
      omega
    · simp only
      rw [hlen2, ← k4]
      simp
  · have hi : l.length ≤ i := by simpa using hge
    rw [List.drop_eq_nil_of_le hi, editP] at k4
    rw [List.drop_eq_nil_of_le hi] at k3
    have e : putsLen [] = 0 := rfl
    rw [e] at k3
    refine ⟨by simp only; rw [List.length_append]; omega, ?_⟩
    exact ⟨trivial, rfl, rfl, rfl, by rw [hfin, ← k4]; rfl⟩
end Bow
/- WB1: strings.Builder's methods at this program: by the kit's own tactics. -/
namespace Bow
open Go Go.Proofs Go.RowKit Go.Shelf

end Bow
/- W24: leaftext.Apply, by the kit's own tactics. -/
namespace Bow
open Go Go.Proofs Go.RowKit

end Bow
/- W25: which operations are valid. -/
namespace Bow
open Go Go.Proofs

theorem text_le_weight (t : Tree) : t.text.length < t.weight := by have := weight_eq t; omega
set_option maxHeartbeats 4000000 in
set_option maxRecDepth 100000 in
theorem w_refValid (t : Tree) (o : OpT) (ht : t.weight ≤ 1000000) (ho : o.Ok) : Pure Tryz.prog 9 [nodeV t, opV o] (fun x => x = .int .i64 (ValidE t o)) := by
  have hp := ho.lt.path
  have hto := ho.lt.to
  have hpc := ho.lt.pieces
  have hpl := ho.each
  refine pure_fn 300 Tryz.func9 rfl rfl rfl fun B => ?_
  show CallThen _ _ _ _ _ _
  refine call_pure (w_refRightT t ht) rfl ?_
  rintro x rfl
  refine ⟨fun g1 => go 300 ?_, fun g1 => go 300 ?_⟩
  · exact ⟨trivial, rfl, rfl, rfl, by unfold ValidE; rw [g1]; rfl⟩
  show CallThen _ _ _ _ _ _
  refine call_pure (w_refFormed o ho.lt ho.each) rfl ?_
  rintro x rfl
  refine ⟨fun g2 => go 300 ?_, fun g2 => go 300 ?_⟩
  · exact ⟨trivial, rfl, rfl, rfl, by unfold ValidE; rw [g1, g2]; rfl⟩
  have hV : ValidE t o = validE t o := by unfold ValidE; rw [g1, g2]; rfl
  rw [hV]
  clear hV g1 g2
  repeat' first
    | (refine ⟨fun _ => go 300 ?_, fun _ => go 300 ?_⟩)
    | (show CallThen _ _ _ _ _ _; refine call_pure (w_refAt t o.path hp) rfl ?_; rintro z rfl; cases hat : atT t o.path with
        | none => exact ⟨trivial, rfl, rfl, rfl, (by show V.int _ _ = _; simp_all [validE])⟩
        | some x =>
          have hxw := atT_weight hat
          have hxt := text_le_weight x
          repeat' first
            | (refine ⟨fun _ => go 300 ?_, fun _ => go 300 ?_⟩)
            | (show CallThen _ _ _ _ _ _; refine call_pure (w_refInto x o.at_) rfl ?_; rintro z rfl)
            | (show CallThen _ _ _ _ _ _; refine call_pure (w_refWithin o.path o.to hp) rfl ?_; rintro z rfl)
            | (show CallThen _ _ _ _ _ _; refine call_pure (w_refEdit x.text o.pieces (by omega) (by omega) hpl) rfl ?_; rintro z rfl)
            | (show CallThen _ _ _ _ _ _; refine call_pure (w_refAt t o.to hto) rfl ?_; rintro z rfl; cases hat2 : atT t o.to with
                | none => exact ⟨trivial, rfl, rfl, rfl, (by show V.int _ _ = _; simp_all [validE])⟩
                | some y =>
                  show CallThen _ _ _ _ _ _
                  refine call_pure (w_refInto y o.at_) rfl ?_
                  rintro z rfl
                  exact ⟨trivial, rfl, rfl, rfl, (by show V.int _ _ = _; simp_all [validE])⟩)
            | (refine ⟨trivial, rfl, rfl, rfl, ?_⟩)
            | fail
          all_goals (show V.int _ _ = _; simp_all [validE]))
    | (refine ⟨trivial, rfl, rfl, rfl, ?_⟩)
    | fail
  all_goals (show V.int _ _ = _; simp_all [validE])
end Bow
/- W26: what becomes of a tree. -/
namespace Bow
open Go Go.Proofs

theorem wk_fresh (o : OpT) : Wk (.agg [.int .u64 o.id, .bool o.leaf, .str o.label, .nilsl, .str [], .nilsl]) (nodeV (freshT o)) :=
  Wk.agg ⟨.refl _, .refl _, .refl _, Wk.nil 2, .refl _, Wk.nil 6, trivial⟩

/-! ### Apply -/
def ApplyV (r : Tree × Int) : V := .tup [nodeV r.1, .int .i64 r.2]
end Bow
/- SP9: trees that are the same, in plain Lean. -/
namespace Bow
open Go

mutual
def sameT (ids : Bool) : Tree → Tree → Bool
  | .mk i l b a t ss, u => (!ids || decide (i = u.id)) && ((l == u.leaf) && (decide (b = u.label) && (decide (t = u.text) && (decide (a = u.attrs) && sameTs ids ss u.subs))))
def sameTs (ids : Bool) : List Tree → List Tree → Bool
  | [], [] => true
  | s :: ss, u :: us => sameT ids s u && sameTs ids ss us
  | _, _ => false
end
theorem sameT_eq (ids : Bool) (t u : Tree) : sameT ids t u = ((!ids || decide (t.id = u.id)) && ((t.leaf == u.leaf) && (decide (t.label = u.label) && (decide (t.text = u.text) && (decide (t.attrs = u.attrs) && sameTs ids t.subs u.subs))))) := by
  cases t
  rw [sameT]
  rfl
theorem sameTs_len {ids : Bool} : ∀ {ss us : List Tree}, sameTs ids ss us = true → ss.length = us.length
  | [], [], _ => rfl
  | [], _ :: _, h => by simp [sameTs] at h
  | _ :: _, [], h => by simp [sameTs] at h
  | s :: ss, u :: us, h => by
    rw [sameTs, Bool.and_eq_true] at h
    simp [sameTs_len h.2]
theorem sameTs_at {ids : Bool} {ss us : List Tree} {i : Nat} (h1 : i < ss.length) (h2 : i < us.length) : sameTs ids (ss.drop i) (us.drop i) = (sameT ids ss[i] us[i] && sameTs ids (ss.drop (i + 1)) (us.drop (i + 1))) := by
  rw [List.drop_eq_getElem_cons h1, List.drop_eq_getElem_cons h2, sameTs]
end Bow
/- W27: trees that are the same. -/
namespace Bow
open Go Go.Proofs

end Bow
/- W30a: Light, just so. -/
namespace Bow
open Go Go.Proofs

def lightB (o : OpT) (top : Nat) : Bool := decide (o.path.length ≤ top) && decide (o.to.length ≤ top) && decide (o.label.length ≤ top) && decide (o.key.length ≤ top) && decide (o.value.length ≤ top) && decide (o.pieces.length ≤ top) && decide (putsLen o.pieces ≤ top)
theorem lightB_iff (o : OpT) (top : Nat) : lightB o top = true ↔ o.Lt top ∧ putsLen o.pieces ≤ top := by
  unfold lightB
  simp only [Bool.and_eq_true, decide_eq_true_eq]
  constructor
  · rintro ⟨⟨⟨⟨⟨⟨h1, h2⟩, h3⟩, h4⟩, h5⟩, h6⟩, h7⟩
    exact ⟨⟨h1, h2, h3, h4, h5, h6⟩, h7⟩
  · rintro ⟨⟨h1, h2, h3, h4, h5, h6⟩, h7⟩
    exact ⟨⟨⟨⟨⟨⟨h1, h2⟩, h3⟩, h4⟩, h5⟩, h6⟩, h7⟩
theorem Lt_mono {o : OpT} {a b : Nat} (h : o.Lt a) (hab : a ≤ b) : o.Lt b := by
  have := h.path; have := h.to; have := h.label; have := h.key; have := h.value; have := h.pieces
  exact ⟨by omega, by omega, by omega, by omega, by omega, by omega⟩
theorem light_ok {o : OpT} {top : Nat} (h : lightB o top = true) (ht : top ≤ 1000000) : o.Ok := by
  obtain ⟨h1, h2⟩ := (lightB_iff o top).1 h
  exact ⟨Lt_mono h1 ht, by omega⟩

set_option maxRecDepth 100000 in
/-- Light: within the bound, the lengths and what is put. -/
theorem w_LightX (o : OpT) (top : Nat) (ht : top ≤ 1000000) : Pure Tryz.prog 36 [opV o, .int .i64 top] (fun x => x = .bool (lightB o top)) := by
  have bad : ¬ (o.Lt top ∧ putsLen o.pieces ≤ top) → ∃ y, Wk .ff y ∧ y.pureB = true ∧ y = .bool (lightB o top) := fun h => leaf_ff (Bool.eq_false_iff.2 fun h' => h ((lightB_iff o top).1 h'))
  refine pure_wk (pure_fn 300 Tryz.func36 rfl rfl rfl fun B => ?_)
  refine ⟨fun g1 => go 300 ?_, fun g1 => go 300 ?_⟩
  · exact ⟨trivial, rfl, rfl, rfl, bad fun ⟨h, _⟩ => by have := lt_of g1; have := h.path; have := h.to; have := h.label; have := h.key; have := h.value; have := h.pieces; simp only [List.length_map] at *; omega⟩
  refine ⟨fun g2 => go 300 ?_, fun g2 => go 300 ?_⟩
  · exact ⟨trivial, rfl, rfl, rfl, bad fun ⟨h, _⟩ => by have := lt_of g2; have := h.path; have := h.to; have := h.label; have := h.key; have := h.value; have := h.pieces; simp only [List.length_map] at *; omega⟩
  refine ⟨fun g3 => go 300 ?_, fun g3 => go 300 ?_⟩
  · exact ⟨trivial, rfl, rfl, rfl, bad fun ⟨h, _⟩ => by have := lt_of g3; have := h.path; have := h.to; have := h.label; have := h.key; have := h.value; have := h.pieces; simp only [List.length_map] at *; omega⟩
  refine ⟨fun g4 => go 300 ?_, fun g4 => go 300 ?_⟩
  · exact ⟨trivial, rfl, rfl, rfl, bad fun ⟨h, _⟩ => by have := lt_of g4; have := h.path; have := h.to; have := h.label; have := h.key; have := h.value; have := h.pieces; simp only [List.length_map] at *; omega⟩
  refine ⟨fun g5 => go 300 ?_, fun g5 => go 300 ?_⟩
  · exact ⟨trivial, rfl, rfl, rfl, bad fun ⟨h, _⟩ => by have := lt_of g5; have := h.path; have := h.to; have := h.label; have := h.key; have := h.value; have := h.pieces; simp only [List.length_map] at *; omega⟩
  refine ⟨fun g6 => go 300 ?_, fun g6 => go 300 ?_⟩
  · exact ⟨trivial, rfl, rfl, rfl, bad fun ⟨h, _⟩ => by have := lt_of g6; have := h.path; have := h.to; have := h.label; have := h.key; have := h.value; have := h.pieces; simp only [List.length_map] at *; omega⟩
  have g1 := not_lt_of g1
  have g2 := not_lt_of g2
  have g3 := not_lt_of g3
  have g4 := not_lt_of g4
  have g5 := not_lt_of g5
  have g6 := not_lt_of g6
  simp only [List.length_map] at g1 g2 g6
  have hlt : o.Lt top := ⟨by omega, by omega, by omega, by omega, by omega, by omega⟩
  show Goes _ _ _ _
  refine goes_iter (ι := Nat × Nat) (fun i => i.1 ≤ o.pieces.length ∧ i.2 ≤ top ∧ putsLen o.pieces = i.2 + putsLen (o.pieces.drop i.1)) (fun i => o.pieces.length - i.1) (fun i => [(6, .int .i64 i.1), (5, .int .i64 i.2), (1, .int .i64 top), (2, .ptr (.loc 0) 0)]) (fun _ => [some (.box (opV o).cells)]) (0, 0) 200 (fun _ => rfl) (fun _ => rfl) ⟨⟨Nat.zero_le _, Nat.zero_le _, by simp⟩, ?_, ?_⟩ ?_
  · exact ⟨⟨rfl, rfl⟩, ⟨rfl, rfl⟩, ⟨rfl, rfl⟩, ⟨rfl, rfl⟩, trivial⟩
  · exact ⟨⟨rfl, rfl⟩, trivial⟩
  · rintro ⟨i, n⟩ ⟨h1, h3, h2⟩ next
    simp only at h1 h2 h3
    refine ⟨fun hlt => go 200 ?_, fun hge => go 200 ?_⟩
    · have hi : i < o.pieces.length := by simpa using hlt
      have hx : (o.pieces.map pieceV)[i]? = some (pieceV o.pieces[i]) := by simp [hi]
      rw [drop_cons hi] at h2
      have h2 : putsLen o.pieces = n + ((o.pieces[i]).put.length + putsLen (o.pieces.drop (i + 1))) := h2
      refine ⟨Int.natCast_nonneg i, _, hx, ?_⟩
      refine ⟨by constructor <;> omega, ?_⟩
      refine ⟨fun g7 => go 200 ?_, fun g7 => go 200 ?_⟩
      · exact ⟨trivial, rfl, rfl, rfl, bad fun ⟨h, _⟩ => by have := lt_of g7; have := h.path; have := h.to; have := h.label; have := h.key; have := h.value; have := h.pieces; simp only [List.length_map] at *; omega⟩
      have g7 := not_lt_of g7
      refine ⟨Int.natCast_nonneg i, _, hx, ?_⟩
      refine ⟨by constructor <;> omega, ?_⟩
      refine ⟨by constructor <;> omega, ?_⟩
      show Goes _ _ _ _
      refine next (i + 1, n + (o.pieces[i]).put.length) _ _ ⟨⟨hi, by simp only; omega, by simp only; omega⟩, ?_, ⟨⟨rfl, rfl⟩, ⟨rfl, rfl⟩, ⟨rfl, rfl⟩, ⟨rfl, rfl⟩, trivial⟩, ⟨⟨rfl, rfl⟩, trivial⟩⟩
      simp only; omega
    · have hi : o.pieces.length ≤ i := by simpa using hge
      rw [List.drop_eq_nil_of_le hi] at h2
      have h2 : putsLen o.pieces = n + 0 := h2
      exact ⟨trivial, rfl, rfl, rfl, leaf_tt ((lightB_iff o top).2 ⟨hlt, by omega⟩)⟩


end Bow
/- W31: the reference's Put, put, drop, change. -/
namespace Bow
open Go Go.Proofs

theorem w_CopiedQ (xs : List V) (hl : xs.length ≤ 1000000) : Fun Tryz.prog 80 [] [.sl 1 xs] (fun x T => x = .osl (.loc 0) 0 0 xs.length ∧ T = [some (.vec 0 1 xs)]) := by
  refine fun_fn 100 Tryz.func80 rfl rfl rfl fun imps B hi => ?_
  have : imps = [] := List.length_eq_zero_iff.1 hi
  subst this
  refine ⟨Nat.le_trans (Nat.mul_le_mul_right _ hl) (by decide), ?_⟩
  exact ⟨trivial, rfl, rfl, rfl, rfl⟩

set_option maxRecDepth 100000 in
theorem w_refPut (x : Tree) : ∀ (p : List Int) (t y : Tree), p.length ≤ 1000000 → t.weight ≤ 1000000 → atT t p = some y → Pure Tryz.prog 78 [nodeV t, pathV p, nodeV x] (fun r => r = .tup [nodeV (changeT (fun _ => x) t p), .tt])
  | [], t, y, _, _, _ => by
    refine pure_fn 300 Tryz.func78 rfl rfl rfl fun B => ?_
    refine ⟨fun g => go 300 ?_, fun g => absurd rfl (ne_of g)⟩
    exact ⟨trivial, rfl, rfl, rfl, rfl⟩
  | i :: p, t, y, hp, ht, hy => by
    rw [atT] at hy
    cases hs : subT t i with
    | none => rw [hs] at hy; cases hy
    | some s =>
    rw [hs] at hy
    simp only at hy
    obtain ⟨hi, hsi, hm⟩ := subT_some hs
    have hil := lt_of_get hsi
    have hsw := weight_sub hm
    have ih := w_refPut x p s y (by simp at hp; omega) (by omega) hy
    refine pure_fn 300 Tryz.func78 rfl rfl rfl fun B => ?_
    refine ⟨fun g => absurd (eq_of g) (by simp; omega), fun g => go 300 ?_⟩
    show Goes _ _ _ _
    refine goes_draw 300 ?_
    refine ⟨Int.le_refl 0, _, rfl, ⟨fun q1 => absurd (lt_of q1) (by omega), fun q1 => ⟨Int.le_refl 0, _, rfl, ?_⟩⟩⟩
    refine ⟨by kernel_rfl, ?_⟩
    refine ⟨fun q2 => absurd (le_of q2) (by simp [subV_eq]; omega), fun q2 => go 300 ?_⟩
    show Goes _ _ _ _
    have hx : t.subV[i.toNat]? = some (nodeV s) := subV_at hsi
    have hil' : i < (t.subV.length : Int) := by rw [subV_len]; omega
    have e : V.sl 1 ((((i :: p).map intV).drop (Int.toNat 1)).take (((((i :: p).map intV).length : Nat) : Int).toNat - Int.toNat 1)) = pathV p := by
      unfold pathV
      rw [List.take_of_length_le (by simp)]
      rfl
    refine goes_draw 300 ⟨Int.le_refl 0, _, rfl, hi, _, hx, by decide, by simp; omega, by omega, .tup [nodeV (changeT (fun _ => x) s p), .tt], ?_, rfl, ?_⟩
    · unfold pathV at e ih
      rw [e]
      exact ih
    refine ⟨by kernel_rfl, ?_⟩
    refine ⟨by kernel_rfl, ?_⟩
    have hsl := subs_le_weight t
    refine ⟨room_of (by rw [subV_len]; omega) (by decide), ?_⟩
    show Goes _ _ _ _
    have hx0 : t.subV[0 + i.toNat]? = some (nodeV s) := by rw [Nat.zero_add]; exact hx
    refine goes_draw 1 ⟨Int.le_refl 0, _, rfl, rfl, hi, hil', rfl, _, hx0, ?_⟩
    refine ⟨by kernel_rfl, ?_⟩
    show Goes _ _ _ _
    refine goes_fzSlot 10 4 rfl rfl (by simp) ?_
    refine go 300 ?_
    refine ⟨trivial, rfl, rfl, rfl, ?_⟩
    rw [changeT, hs]
    simp only
    rw [withSubs_V, ← subV_set, Nat.zero_add]
    rfl
end Bow
/- W32: the reference's put, drop, change, Without. -/
namespace Bow
open Go Go.Proofs

theorem row_ins (t x : Tree) (at_ : Int) : (t.subV.take (at_.toNat - Int.toNat 0 : Nat)).drop 0 ++ [nodeV x] ++ (t.subV.drop at_.toNat).take ((t.subV.length : Int).toNat - at_.toNat) = (t.subs.take at_.toNat ++ x :: t.subs.drop at_.toNat).map nodeV := by
  rw [subV_eq, List.take_of_length_le (l := List.drop _ _) (by simp)]
  simp
theorem row_del (t : Tree) (at_ : Int) (h0 : 0 ≤ at_) : (t.subV.take (at_.toNat - Int.toNat 0 : Nat)).drop 0 ++ (t.subV.drop (at_ + 1).toNat).take ((t.subV.length : Int).toNat - (at_ + 1).toNat) = (t.subs.take at_.toNat ++ t.subs.drop (at_.toNat + 1)).map nodeV := by
  have e : (at_ + 1).toNat = at_.toNat + 1 := by omega
  rw [subV_eq, List.take_of_length_le (l := List.drop _ _) (by simp), e]
  simp

set_option maxRecDepth 100000 in
theorem w_refputs (t x : Tree) (at_ : Int) (ht : t.weight ≤ 1000000) (h0 : 0 ≤ at_) (h1 : at_ ≤ t.subs.length) : Pure Tryz.prog 59 [nodeV t, .int .i64 at_, nodeV x] (fun r => r = nodeV (insT at_ x t)) := by
  have hsl := subs_le_weight t
  have hl : t.subV.length = t.subs.length := subV_len t
  refine pure_fn 300 Tryz.func59 rfl rfl rfl fun B => ?_
  refine ⟨by decide, h0, by rw [hl]; exact h1, room_of (by simp; omega) (by decide), ?_⟩
  refine ⟨⟨rfl, trivial⟩, ?_⟩
  refine ⟨rfl, rfl, rfl, rfl, room_of (by simp; omega) (by decide), ?_⟩
  refine ⟨h0, by rw [hl]; exact h1, Int.le_refl _, rfl, ?_, room_of (by simp; omega) (by decide), ?_⟩
  · simp
  refine ⟨trivial, rfl, rfl, rfl, by simp only [List.length_append], rfl, ?_⟩
  rw [insT, withSubs_V, ← row_ins]
  rfl

set_option maxRecDepth 100000 in
theorem w_refdrop (t : Tree) (at_ : Int) (ht : t.weight ≤ 1000000) (h0 : 0 ≤ at_) (h1 : at_ < t.subs.length) : Pure Tryz.prog 79 [nodeV t, .int .i64 at_] (fun r => r = nodeV (delT at_ t)) := by
  have hsl := subs_le_weight t
  have hl : t.subV.length = t.subs.length := subV_len t
  refine pure_fn 300 Tryz.func79 rfl rfl rfl fun B => ?_
  refine ⟨by decide, h0, by rw [hl]; omega, room_of (by simp; omega) (by decide), ?_⟩
  refine ⟨⟨by omega, by omega⟩, by omega, by rw [hl]; omega, Int.le_refl _, rfl, by simp, room_of (by simp; omega) (by decide), ?_⟩
  refine ⟨trivial, rfl, rfl, rfl, by simp [List.length_append], rfl, ?_⟩
  rw [delT, withSubs_V, ← row_del _ _ h0]
  rfl

set_option maxRecDepth 100000 in
theorem w_refchange (t x y : Tree) (p : List Int) (hp : p.length ≤ 1000000) (ht : t.weight ≤ 1000000) (hy : atT t p = some y) : Pure Tryz.prog 58 [nodeV t, pathV p, nodeV x] (fun r => r = nodeV (changeT (fun _ => x) t p)) := by
  refine pure_fn 300 Tryz.func58 rfl rfl rfl fun B => ?_
  show CallThen _ _ _ _ _ _
  refine call_pure (w_refPut x p t y hp ht hy) rfl ?_
  rintro z rfl
  exact ⟨trivial, rfl, rfl, rfl, rfl⟩

theorem change_const {F : Tree → Tree} {y : Tree} : ∀ {p : List Int} {t : Tree}, atT t p = some y → changeT (fun _ => F y) t p = changeT F t p
  | [], t, h => by
    rw [atT] at h
    injection h with h
    subst h
    rfl
  | i :: p, t, h => by
    rw [atT] at h
    cases hs : subT t i with
    | none => rw [hs] at h; cases h
    | some s =>
      rw [hs] at h
      rw [changeT, changeT, hs]
      simp only
      rw [change_const (p := p) h]

set_option maxRecDepth 100000 in
theorem w_refWithout (t x : Tree) (p : List Int) (hp : p.length ≤ 1000000) (hne : p ≠ []) (ht : t.weight ≤ 1000000) (hx : atT t p = some x) : Pure Tryz.prog 60 [nodeV t, pathV p] (fun r => r = nodeV (withoutT t p)) := by
  obtain ⟨y, y1, y2, y3, y4⟩ := at_parent hne hx
  have hlen : 0 < p.length := List.length_pos_iff.2 hne
  have hyw := atT_weight y1
  refine pure_fn 300 Tryz.func60 rfl rfl rfl fun B => ?_
  refine ⟨by constructor <;> simp <;> omega, by decide, by simp; omega, by simp; omega, ?_⟩
  have e : (List.take ((((p.map intV).length : Int) - 1).toNat - Int.toNat 0) (List.drop (Int.toNat 0) (p.map intV))) = p.dropLast.map intV := by
    rw [List.dropLast_eq_take, List.map_take]
    simp
  show CallThen _ _ _ _ _ _
  rw [e]
  refine call_pure (w_refAt t p.dropLast (by simp; omega)) rfl ?_
  rintro z rfl
  rw [y1]
  show Goes _ _ _ _
  have hg : (p.map intV)[(((p.map intV).length : Int) - 1).toNat]? = some (intV (lastP p)) := by
    have e1 : (((p.map intV).length : Int) - 1).toNat = p.length - 1 := by simp
    rw [e1, List.getElem?_map, ← List.getLast?_eq_getElem?, List.getLast?_eq_some_getLast hne, lastP_eq hne]
    rfl
  have hlast := lastP_eq hne
  refine goes_draw 300 ⟨⟨by simp; omega, by simp; omega⟩, by simp; omega, _, hg, _, w_refdrop y (lastP p) (by omega) (by omega) (by omega), rfl, _, w_refchange t (delT (lastP p) y) y p.dropLast (by simp; omega) ht y1, rfl, ?_⟩
  refine ⟨by kernel_rfl, ?_⟩
  refine ⟨trivial, rfl, rfl, rfl, ?_⟩
  rw [change_const (F := delT (lastP p)) y1]
  rfl
end Bow
/- W33: the reference's attr. -/
namespace Bow
open Go Go.Proofs

theorem withAttrs_V (t : Tree) (a : AttrL) : nodeV (t.withAttrs a) = .agg [.int .u64 t.id, .bool t.leaf, .str t.label, .sl 2 (a.map attrV), .str t.text, .sl 6 t.subV] := by
  cases t
  rfl
theorem attrs_le_weight (t : Tree) : t.attrs.length ≤ t.weight := by rw [weight_eq]; omega

set_option maxHeartbeats 1000000 in
set_option maxRecDepth 100000 in
theorem w_refattr (t : Tree) (o : OpT) (ht : t.weight ≤ 400000) : Pure Tryz.prog 62 [nodeV t, opV o] (fun r => r = nodeV (t.withAttrs (refA o o.gone t.attrs))) := by
  have hal := attrs_le_weight t
  refine pure_fn 300 Tryz.func62 rfl rfl rfl fun B => ?_
  show Goes _ _ _ _
  refine goes_own 5 2 rfl ?_
  refine goes_iter (ι := Nat × Bool × Nat × Nat × List V) (fun i => i.1 ≤ t.attrs.length ∧ ∃ acc : AttrL, i.2.2.2.2 = acc.map attrV ∧ i.2.2.2.1 = acc.length ∧ acc.length ≤ 2 * i.1 ∧ acc ++ refA o i.2.1 (t.attrs.drop i.1) = refA o o.gone t.attrs) (fun i => t.attrs.length - i.1)
    (fun i => [(7, .int .i64 i.1), (6, .bool i.2.1), (5, .osl (.loc 3) i.2.2.1 0 i.2.2.2.1), (2, .ptr (.loc 0) 0), (3, .ptr (.loc 1) 0), (4, .ptr (.loc 2) 0)])
    (fun i => [some (.box (nodeV t).cells), some (.box (opV o).cells), some (.box (zeroV .nilsl).cells), some (.vec i.2.2.1 2 i.2.2.2.2)]) (0, o.gone, 0, 0, []) 300 (fun _ => rfl) (fun _ => rfl) ⟨⟨Nat.zero_le _, [], rfl, rfl, Nat.le_refl _, rfl⟩, ?_, ?_⟩ ?_
  · exact ⟨⟨rfl, rfl⟩, ⟨rfl, rfl⟩, ⟨rfl, rfl⟩, ⟨rfl, rfl⟩, ⟨rfl, rfl⟩, ⟨rfl, rfl⟩, trivial⟩
  · exact ⟨⟨rfl, rfl⟩, ⟨rfl, rfl⟩, ⟨rfl, rfl⟩, ⟨rfl, rfl⟩, trivial⟩
  rintro ⟨i, d, g, n, xs⟩ ⟨k1, acc, rfl, rfl, k2, k3⟩ next
  simp only at k1 k2 k3
  refine ⟨fun hlt => go 300 ?_, fun hge => go 300 ?_⟩
  · have hi : i < t.attrs.length := by simpa using hlt
    have hx : (t.attrs.map attrV)[i]? = some (attrV t.attrs[i]) := by simp [hi]
    rw [drop_cons hi, refA] at k3
    show Goes _ _ _ _
    refine goes_draw 300 ⟨fun q1 => ⟨Int.natCast_nonneg i, _, hx, ?_⟩, fun q1 => ?_⟩
    all_goals refine ⟨by kernel_rfl, ?_⟩
    · have hd : d = false := by simpa using q1
      subst hd
      refine ⟨fun q2 => go 300 ?_, fun q2 => go 300 ?_⟩
      · have hl : Op.bytesLess t.attrs[i].1 o.key = false := by simpa using q2
        rw [hl] at k3
        refine ⟨⟨rfl, trivial⟩, rfl, rfl, rfl, (by simp), room_of (by simp; omega) (by decide), ?_⟩
        show Goes _ _ _ _
        refine goes_draw 300 ⟨Int.natCast_nonneg i, _, hx, ?_⟩
        refine ⟨by kernel_rfl, ?_⟩
        refine ⟨fun q3 => go 300 ?_, fun q3 => go 300 ?_⟩
        · have he : decide (t.attrs[i].1 = o.key) = false := by simpa using q3
          rw [he] at k3
          refine ⟨Int.natCast_nonneg i, _, hx, ⟨rfl, trivial⟩, rfl, rfl, rfl, (by simp), room_of (by simp; omega) (by decide), ?_⟩
          refine ⟨by constructor <;> omega, ?_⟩
          show Goes _ _ _ _
          refine goes_wkSlot 6 (v := .tt) (v' := .bool true) rfl rfl rfl Wk.tt ?_
          refine next (i + 1, true, _, _, _) _ _ ⟨⟨hi, acc ++ [(o.key, o.value)] ++ [t.attrs[i]], ?_, ?_, ?_, ?_⟩, ?_, ⟨⟨rfl, rfl⟩, ⟨rfl, rfl⟩, ⟨rfl, rfl⟩, ⟨rfl, rfl⟩, ⟨rfl, rfl⟩, ⟨rfl, rfl⟩, trivial⟩, ⟨⟨rfl, rfl⟩, ⟨rfl, rfl⟩, ⟨rfl, rfl⟩, ⟨rfl, rfl⟩, trivial⟩⟩
          · simp [attrV]
          · simp
          · simp; omega
          · simpa using k3
          · simp only; omega
        · have he : decide (t.attrs[i].1 = o.key) = true := by simpa using q3
          rw [he] at k3
          refine ⟨by constructor <;> omega, ?_⟩
          show Goes _ _ _ _
          refine goes_wkSlot 6 (v := .tt) (v' := .bool true) rfl rfl rfl Wk.tt ?_
          refine next (i + 1, true, _, _, _) _ _ ⟨⟨hi, acc ++ [(o.key, o.value)], ?_, ?_, ?_, ?_⟩, ?_, ⟨⟨rfl, rfl⟩, ⟨rfl, rfl⟩, ⟨rfl, rfl⟩, ⟨rfl, rfl⟩, ⟨rfl, rfl⟩, ⟨rfl, rfl⟩, trivial⟩, ⟨⟨rfl, rfl⟩, ⟨rfl, rfl⟩, ⟨rfl, rfl⟩, ⟨rfl, rfl⟩, trivial⟩⟩
          · simp [attrV]
          · simp
          · simp; omega
          · simpa using k3
          · simp only; omega
      · have hl : Op.bytesLess t.attrs[i].1 o.key = true := by simpa using q2
        rw [hl] at k3
        show Goes _ _ _ _
        refine goes_draw 300 ⟨Int.natCast_nonneg i, _, hx, ?_⟩
        refine ⟨by kernel_rfl, ?_⟩
        refine ⟨fun q3 => go 300 ?_, fun q3 => go 300 ?_⟩
        · have he : decide (t.attrs[i].1 = o.key) = false := by simpa using q3
          rw [he] at k3
          refine ⟨Int.natCast_nonneg i, _, hx, ⟨rfl, trivial⟩, rfl, rfl, rfl, (by simp), room_of (by simp; omega) (by decide), ?_⟩
          refine ⟨by constructor <;> omega, ?_⟩
          show Goes _ _ _ _
          refine next (i + 1, false, bump g, (acc.map attrV).length + 1, acc.map attrV ++ [attrV t.attrs[i]]) _ _ ⟨⟨hi, acc ++ [t.attrs[i]], ?_, ?_, ?_, ?_⟩, ?_, ⟨⟨rfl, rfl⟩, ⟨rfl, rfl⟩, ⟨rfl, rfl⟩, ⟨rfl, rfl⟩, ⟨rfl, rfl⟩, ⟨rfl, rfl⟩, trivial⟩, ⟨⟨rfl, rfl⟩, ⟨rfl, rfl⟩, ⟨rfl, rfl⟩, ⟨rfl, rfl⟩, trivial⟩⟩
          · simp [attrV]
          · simp
          · simp; omega
          · simpa using k3
          · simp only; omega
        · have he : decide (t.attrs[i].1 = o.key) = true := by simpa using q3
          rw [he] at k3
          refine ⟨by constructor <;> omega, ?_⟩
          show Goes _ _ _ _
          refine next (i + 1, false, _, _, _) _ _ ⟨⟨hi, acc, ?_, ?_, ?_, ?_⟩, ?_, ⟨⟨rfl, rfl⟩, ⟨rfl, rfl⟩, ⟨rfl, rfl⟩, ⟨rfl, rfl⟩, ⟨rfl, rfl⟩, ⟨rfl, rfl⟩, trivial⟩, ⟨⟨rfl, rfl⟩, ⟨rfl, rfl⟩, ⟨rfl, rfl⟩, ⟨rfl, rfl⟩, trivial⟩⟩
          · simp [attrV]
          · simp
          · simp; omega
          · simpa using k3
          · simp only; omega
    · have hd : d = true := by simpa using q1
      subst hd
      show Goes _ _ _ _
      refine goes_draw 300 ⟨Int.natCast_nonneg i, _, hx, ?_⟩
      refine ⟨by kernel_rfl, ?_⟩
      refine ⟨fun q3 => go 300 ?_, fun q3 => go 300 ?_⟩
      · have he : decide (t.attrs[i].1 = o.key) = false := by simpa using q3
        rw [he] at k3
        refine ⟨Int.natCast_nonneg i, _, hx, ⟨rfl, trivial⟩, rfl, rfl, rfl, (by simp), room_of (by simp; omega) (by decide), ?_⟩
        refine ⟨by constructor <;> omega, ?_⟩
        show Goes _ _ _ _
        refine next (i + 1, true, bump g, (acc.map attrV).length + 1, acc.map attrV ++ [attrV t.attrs[i]]) _ _ ⟨⟨hi, acc ++ [t.attrs[i]], ?_, ?_, ?_, ?_⟩, ?_, ⟨⟨rfl, rfl⟩, ⟨rfl, rfl⟩, ⟨rfl, rfl⟩, ⟨rfl, rfl⟩, ⟨rfl, rfl⟩, ⟨rfl, rfl⟩, trivial⟩, ⟨⟨rfl, rfl⟩, ⟨rfl, rfl⟩, ⟨rfl, rfl⟩, ⟨rfl, rfl⟩, trivial⟩⟩
        · simp [attrV]
        · simp
        · simp; omega
        · simpa using k3
        · simp only; omega
      · have he : decide (t.attrs[i].1 = o.key) = true := by simpa using q3
        rw [he] at k3
        refine ⟨by constructor <;> omega, ?_⟩
        show Goes _ _ _ _
        refine next (i + 1, true, _, _, _) _ _ ⟨⟨hi, acc, ?_, ?_, ?_, ?_⟩, ?_, ⟨⟨rfl, rfl⟩, ⟨rfl, rfl⟩, ⟨rfl, rfl⟩, ⟨rfl, rfl⟩, ⟨rfl, rfl⟩, ⟨rfl, rfl⟩, trivial⟩, ⟨⟨rfl, rfl⟩, ⟨rfl, rfl⟩, ⟨rfl, rfl⟩, ⟨rfl, rfl⟩, trivial⟩⟩
        · simp [attrV]
        · simp
        · simp; omega
        · simpa using k3
        · simp only; omega
  · have hi : i = t.attrs.length := by have : t.attrs.length ≤ i := by simpa using hge
                                       omega
    subst hi
    rw [List.drop_length, refA] at k3
    refine ⟨fun q1 => go 300 ?_, fun q1 => go 300 ?_⟩
    · have hd : d = false := by simpa using q1
      subst hd
      refine ⟨⟨rfl, trivial⟩, rfl, rfl, rfl, (by simp), room_of (by simp; omega) (by decide), ?_⟩
      refine ⟨trivial, rfl, rfl, rfl, (by simp), rfl, ?_⟩
      rw [withAttrs_V, ← k3]
      simp [attrV]
    · have hd : d = true := by simpa using q1
      subst hd
      refine ⟨trivial, rfl, rfl, rfl, (by simp), rfl, ?_⟩
      rw [withAttrs_V, ← k3]
      simp
end Bow
/- W34: the reference's move. -/
namespace Bow
open Go Go.Proofs

theorem pure_sl_cast {P : Program} {f : FuncId} {a : V} {sz : Nat} {q q' : List V} {Q : V → Prop} (h : Pure P f [a, .sl sz q'] Q) (e : q = q') : Pure P f [a, .sl sz q] Q := e ▸ h

set_option maxHeartbeats 1000000 in
set_option maxRecDepth 100000 in
theorem w_refmove (t x z : Tree) (o : OpT) (ht : t.weight ≤ 400000) (ho : o.Ok) (hfr : ∀ i ∈ o.path, inI (i + 1)) (hne : o.path ≠ []) (hx : atT t o.path = some x) (hw : within o.path o.to = false) (hz : atT t o.to = some z) (h0 : 0 ≤ o.at_) (h1 : o.at_ ≤ z.subs.length) :
    Pure Tryz.prog 61 [nodeV t, opV o] (fun r => r = nodeV (moveT x t o)) := by
  have hp := ho.lt.path
  have hpt := ho.lt.to
  have hxw := atT_weight hx
  have hzw := atT_weight hz
  have hmw := change_weight_add (F := insT o.at_ x) (n := x.weight) (ins_weight o.at_ x) o.to t
  obtain ⟨s', hs'⟩ := lift_at h0 x o.path o.to t x z hne hx hw hz h1
  have law := move_law h0 x o.path o.to t x z hne hx hw hz h1
  refine pure_fn 300 Tryz.func61 rfl rfl rfl fun B => ?_
  show CallThen _ _ _ _ _ _
  refine call_pure (w_refAt t o.path hp) rfl ?_
  rintro _ rfl
  rw [hx]
  show CallThen _ _ _ _ _ _
  refine call_pure (w_refAt t o.to hpt) rfl ?_
  rintro _ rfl
  rw [hz]
  show Goes _ _ _ _
  refine goes_draw 300 ⟨_, w_refputs z x o.at_ (by omega) h0 h1, rfl, _, w_refchange t (insT o.at_ x z) z o.to hpt (by omega) hz, rfl, ?_⟩
  rw [change_const (F := insT o.at_ x) hz]
  refine ⟨by kernel_rfl, ?_⟩
  refine ⟨by kernel_rfl, ?_⟩
  show CallThen _ _ _ _ _ _
  refine call_sub [] (w_CopiedQ (o.path.map intV) (by simpa using hp)) rfl rfl trivial rfl rfl rfl ?_
  rintro r T1 ⟨rfl, rfl⟩
  refine ⟨rfl, ?_⟩
  show Goes _ _ _ _
  have hwith := w_refWithin o.to o.path hpt
  have hm : (changeT (insT o.at_ x) t o.to).weight ≤ 1000000 := by omega
  have hwo : Pure Tryz.prog 60 [nodeV (changeT (insT o.at_ x) t o.to), pathV (liftP o.to o.at_ o.path)] (fun r => r = nodeV (moveT x t o)) := by
    have := w_refWithout (changeT (insT o.at_ x) t o.to) s' (liftP o.to o.at_ o.path) (by rw [lift_len]; exact hp) (fun e => hne (List.length_eq_zero_iff.1 (by rw [← lift_len o.to o.at_ o.path, e]; rfl))) hm hs'
    rw [law] at this
    exact this
  have hsame : (decide (o.to.length < o.path.length) && (within o.to o.path && decide (o.at_ ≤ o.path.getD o.to.length 0))) = false → liftP o.to o.at_ o.path = o.path := fun h => by unfold liftP; rw [h]; rfl
  refine goes_draw 300 ⟨rfl, fun q1 => ⟨rfl, rfl, _, hwith, rfl, ⟨fun q2 => ?_, fun q2 => ?_⟩⟩, fun q1 => ?_⟩
  · have hd : o.to.length < o.path.length := by have := lt_of q1; simp at this; omega
    have hg : (o.path.map intV)[0 + (((o.to.map intV).length : Nat) : Int).toNat]? = some (intV o.path[o.to.length]) := by simp [hd]
    have hgd : o.path.getD o.to.length 0 = o.path[o.to.length] := by simp [List.getD_eq_getElem?_getD, hd]
    have hb0 : (0 : Int) ≤ ((o.to.map intV).length : Nat) := Int.natCast_nonneg _
    have hb1 : (((o.to.map intV).length : Nat) : Int) < ((o.path.map intV).length : Nat) := by simp; omega
    refine ⟨rfl, hb0, hb1, rfl, _, hg, ?_⟩
    refine ⟨by kernel_rfl, ?_⟩
    refine ⟨fun q3 => go 300 ?_, fun q3 => go 300 ?_⟩
    · have hin := hfr _ (List.getElem_mem hd)
      refine ⟨rfl, hb0, hb1, rfl, _, hg, hin, rfl, hb0, hb1, rfl, _, hg, ?_⟩
      show CallThen _ _ _ _ _ _
      refine call_pure_frz ?_
      refine ⟨rfl, by simp, fun r => r = nodeV (moveT x t o), ?_, rfl, ?_⟩
      · refine pure_sl_cast (q' := (liftP o.to o.at_ o.path).map intV) hwo ?_
        have e : liftP o.to o.at_ o.path = o.path.set o.to.length (o.path[o.to.length] + 1) := by
          unfold liftP
          have q2 : within o.to o.path = true := by simpa using q2
          have q3 : o.at_ ≤ o.path[o.to.length] := le_of q3
          rw [hgd, decide_eq_true hd, q2, decide_eq_true q3]
          rfl
        rw [e, List.map_set]
        simp
        rfl
      · rintro r rfl
        exact ⟨trivial, rfl, rfl, rfl, rfl⟩
    · have e := hsame (by
        have q3 := not_le_of q3
        rw [hgd, decide_eq_false (by omega : ¬ o.at_ ≤ o.path[o.to.length])]
        simp)
      rw [e] at hwo
      show CallThen _ _ _ _ _ _
      refine call_pure_frz ?_
      refine ⟨rfl, rfl, fun r => r = nodeV (moveT x t o), hwo, rfl, ?_⟩
      rintro r rfl
      exact ⟨trivial, rfl, rfl, rfl, rfl⟩
  · have e := hsame (by
      have q2 : within o.to o.path = false := by simpa using q2
      rw [q2]
      simp)
    rw [e] at hwo
    refine ⟨by kernel_rfl, ?_⟩
    show CallThen _ _ _ _ _ _
    refine call_pure_frz ?_
    refine ⟨rfl, rfl, fun r => r = nodeV (moveT x t o), hwo, rfl, ?_⟩
    rintro r rfl
    exact ⟨trivial, rfl, rfl, rfl, rfl⟩
  · have e := hsame (by
      have q1 : ¬ o.to.length < o.path.length := by have := not_lt_of q1; simp at this; omega
      rw [decide_eq_false q1]
      rfl)
    rw [e] at hwo
    refine ⟨by kernel_rfl, ?_⟩
    show CallThen _ _ _ _ _ _
    refine call_pure_frz ?_
    refine ⟨rfl, rfl, fun r => r = nodeV (moveT x t o), hwo, rfl, ?_⟩
    rintro r rfl
    exact ⟨trivial, rfl, rfl, rfl, rfl⟩
end Bow
/- WB2: strings.Compare at this program: by the kit's own tactics. -/
namespace Bow
open Go Go.Proofs Go.RowKit Go.Shelf

end Bow
/- W35: the program's search for an attribute. -/
namespace Bow
open Go Go.Proofs

end Bow
/- W36: the program's setAttr. -/
namespace Bow
open Go Go.Proofs

end Bow
/- W37: the program's apply, Apply. -/
namespace Bow
open Go Go.Proofs

end Bow
/- W38: the reference's Apply. -/
namespace Bow
open Go Go.Proofs

set_option maxRecDepth 100000 in
theorem w_refApply_bad (t : Tree) (o : OpT) (ht : t.weight ≤ 1000000) (ho : o.Ok) (h : ValidE t o ≠ 0) : Pure Tryz.prog 32 [nodeV t, opV o] (fun x => x = ApplyV (zeroT [], ValidE t o)) := by
  refine pure_wk (pure_fn 300 Tryz.func32 rfl rfl rfl fun B => ?_)
  show CallThen _ _ _ _ _ _
  refine call_pure (w_refValid t o ht ho) rfl ?_
  rintro x rfl
  refine ⟨fun g1 => go 300 ?_, fun g1 => absurd (eq_of' g1) h⟩
  exact ⟨trivial, rfl, rfl, rfl, ApplyV (zeroT [], ValidE t o), Wk.tup ⟨wk_zero (ss := []) (Wk.nil 6), .refl _, trivial⟩, rfl, rfl⟩

set_option maxHeartbeats 1000000 in
set_option maxRecDepth 100000 in
theorem w_refApply_ok (t : Tree) (o : OpT) (ht : t.weight ≤ 400000) (ho : o.Ok) (h : ValidE t o = 0) : Pure Tryz.prog 32 [nodeV t, opV o] (fun x => x = ApplyV (applyT t o, 0)) := by
  obtain ⟨hr, hf, _⟩ := valid_right h
  have hra : t.rightA = true := by
    unfold rightT at hr
    rw [Bool.and_eq_true] at hr
    exact hr.2
  have hp := ho.lt.path
  have hpi := may_step (formed_path hf)
  refine pure_fn 300 Tryz.func32 rfl rfl rfl fun B => ?_
  show CallThen _ _ _ _ _ _
  refine call_pure (w_refValid t o (by omega) ho) rfl ?_
  rintro x rfl
  refine ⟨fun g1 => absurd h (ne_of' g1), fun g1 => go 300 ?_⟩
  show CallThen _ _ _ _ _ _
  refine call_pure (w_refAt t o.path hp) rfl ?_
  rintro _ rfl
  cases good_of h with
  | ins y hk hy hl h0 h1 h2 =>
    have e : applyT t o = changeT (insT o.at_ (freshT o)) t o.path := by unfold applyT; rw [hk]; rfl
    have hyw := atT_weight hy
    rw [hy]
    refine ⟨fun g1 => go 300 ?_, fun g1 => absurd hk (ne_of g1)⟩
    show Goes _ _ _ _
    have hput := pure_args (args := [nodeV y, .int .i64 o.at_, .agg [.int .u64 o.id, .bool o.leaf, .str o.label, .nilsl, .str [], .nilsl]]) (w_refputs y (freshT o) o.at_ (by omega) h0 h1) ⟨.refl _, .refl _, wk_fresh o, trivial⟩ rfl rfl
    refine goes_draw 300 ⟨_, hput, rfl, _, w_refchange t (insT o.at_ (freshT o) y) y o.path hp (by omega) hy, rfl, ?_⟩
    refine ⟨by kernel_rfl, ?_⟩
    refine ⟨trivial, rfl, rfl, rfl, ?_⟩
    rw [change_const (F := insT o.at_ (freshT o)) hy, e]
    rfl
  | del x hk hne hx =>
    have e : applyT t o = withoutT t o.path := by unfold applyT; rw [hk]; rfl
    rw [hx]
    refine ⟨fun g1 => absurd (hk.symm.trans (eq_of g1)) (by decide), fun g1 => go 300 ?_⟩
    refine ⟨fun g1 => go 300 ?_, fun g1 => absurd hk (ne_of g1)⟩
    show CallThen _ _ _ _ _ _
    refine call_pure (w_refWithout t x o.path hp hne (by omega) hx) rfl ?_
    rintro z rfl
    exact ⟨trivial, rfl, rfl, rfl, by rw [e]; rfl⟩
  | mov x z hk hne hx hw hz hl h0 h1 =>
    have e : applyT t o = moveT x t o := by unfold applyT; rw [hk, hx]; rfl
    rw [hx]
    refine ⟨fun g1 => absurd (hk.symm.trans (eq_of g1)) (by decide), fun g1 => go 300 ?_⟩
    refine ⟨fun g1 => absurd (hk.symm.trans (eq_of g1)) (by decide), fun g1 => go 300 ?_⟩
    refine ⟨fun g1 => go 300 ?_, fun g1 => absurd hk (ne_of g1)⟩
    show CallThen _ _ _ _ _ _
    refine call_pure (w_refmove t x z o ht ho (fun i hi => by have := hpi i hi; constructor <;> omega) hne hx hw hz h0 h1) rfl ?_
    rintro r rfl
    exact ⟨trivial, rfl, rfl, rfl, by rw [e]; rfl⟩
  | att y hk hy h1 h2 =>
    have e : applyT t o = changeT (setAT o) t o.path := by unfold applyT; rw [hk]; rfl
    have hyw := atT_weight hy
    have ea : y.withAttrs (refA o o.gone y.attrs) = setAT o y := by rw [attr_law o (right_attrs (right_at hra hy))]; rfl
    rw [hy]
    refine ⟨fun g1 => absurd (hk.symm.trans (eq_of g1)) (by decide), fun g1 => go 300 ?_⟩
    refine ⟨fun g1 => absurd (hk.symm.trans (eq_of g1)) (by decide), fun g1 => go 300 ?_⟩
    refine ⟨fun g1 => absurd (hk.symm.trans (eq_of g1)) (by decide), fun g1 => go 300 ?_⟩
    refine ⟨fun g1 => go 300 ?_, fun g1 => absurd hk (ne_of g1)⟩
    show Goes _ _ _ _
    have hat := w_refattr y o (by omega)
    rw [ea] at hat
    refine goes_draw 300 ⟨_, hat, rfl, _, w_refchange t (setAT o y) y o.path hp (by omega) hy, rfl, ?_⟩
    refine ⟨by kernel_rfl, ?_⟩
    refine ⟨trivial, rfl, rfl, rfl, ?_⟩
    rw [change_const (F := setAT o) hy, e]
    rfl
  | lab y hk hy h2 =>
    have e : applyT t o = changeT (relabelT o.label) t o.path := by unfold applyT; rw [hk]; rfl
    rw [hy]
    refine ⟨fun g1 => absurd (hk.symm.trans (eq_of g1)) (by decide), fun g1 => go 300 ?_⟩
    refine ⟨fun g1 => absurd (hk.symm.trans (eq_of g1)) (by decide), fun g1 => go 300 ?_⟩
    refine ⟨fun g1 => absurd (hk.symm.trans (eq_of g1)) (by decide), fun g1 => go 300 ?_⟩
    refine ⟨fun g1 => absurd (hk.symm.trans (eq_of g1)) (by decide), fun g1 => go 300 ?_⟩
    refine ⟨fun g1 => go 300 ?_, fun g1 => absurd hk (ne_of g1)⟩
    show CallThen _ _ _ _ _ _
    cases y with
    | mk i lf b a c ss =>
    refine call_pure (w_refchange t (relabelT o.label (.mk i lf b a c ss)) (.mk i lf b a c ss) o.path hp (by omega) hy) rfl ?_
    rintro r rfl
    refine ⟨trivial, rfl, rfl, rfl, ?_⟩
    rw [change_const (F := relabelT o.label) hy, e]
    rfl
  | edt y hk hy hl he =>
    have e : applyT t o = changeT (retextT o.pieces) t o.path := by unfold applyT; rw [hk]; rfl
    have hyw := atT_weight hy
    have htw := text_le_weight y
    rw [hy]
    refine ⟨fun g1 => absurd (hk.symm.trans (eq_of g1)) (by decide), fun g1 => go 300 ?_⟩
    refine ⟨fun g1 => absurd (hk.symm.trans (eq_of g1)) (by decide), fun g1 => go 300 ?_⟩
    refine ⟨fun g1 => absurd (hk.symm.trans (eq_of g1)) (by decide), fun g1 => go 300 ?_⟩
    refine ⟨fun g1 => absurd (hk.symm.trans (eq_of g1)) (by decide), fun g1 => go 300 ?_⟩
    refine ⟨fun g1 => absurd (hk.symm.trans (eq_of g1)) (by decide), fun g1 => go 300 ?_⟩
    show CallThen _ _ _ _ _ _
    refine call_pure (w_refEdit y.text o.pieces (by omega) ho.lt.pieces ho.each) rfl ?_
    rintro r rfl
    show CallThen _ _ _ _ _ _
    cases y with
    | mk i lf b a c ss =>
    refine call_pure (w_refchange t (retextT o.pieces (.mk i lf b a c ss)) (.mk i lf b a c ss) o.path hp (by omega) hy) rfl ?_
    rintro r rfl
    refine ⟨trivial, rfl, rfl, rfl, ?_⟩
    rw [change_const (F := retextT o.pieces) hy, e]
    rfl

theorem w_refApply (t : Tree) (o : OpT) (ht : t.weight ≤ 400000) (ho : o.Ok) : Pure Tryz.prog 32 [nodeV t, opV o] (fun x => x = ApplyV (applyR t o)) := by
  by_cases h : ValidE t o = 0
  · have e : applyR t o = (applyT t o, 0) := by unfold applyR; rw [decide_eq_true h]; rfl
    rw [e]
    exact w_refApply_ok t o ht ho h
  · have e : applyR t o = (zeroT [], ValidE t o) := by unfold applyR; rw [decide_eq_false h]; rfl
    rw [e]
    exact w_refApply_bad t o (by omega) ho h
end Bow
/- SP15: a tree that was right stays right, in plain Lean. -/
namespace Bow
open Go

theorem rightN_iff (t : Tree) : rightN t = true ↔ t.label.length ≤ 64 ∧ (t.leaf = true → t.subs = []) ∧ (t.leaf = false → t.text = []) ∧ attrsOk none t.attrs = true := by
  unfold rightN headOk
  constructor
  · intro h
    rw [Bool.and_eq_true, Bool.and_eq_true, Bool.and_eq_true] at h
    obtain ⟨⟨h1, h2, h3⟩, h4⟩ := h
    refine ⟨by simp at h1; omega, fun hl => ?_, fun hl => ?_, h4⟩
    · rw [hl] at h2
      cases hs : t.subs with
      | nil => rfl
      | cons a l => rw [hs] at h2; simp at h2
    · rw [hl] at h3
      simpa using h3
  · rintro ⟨h1, h2, h3, h4⟩
    rw [h4, decide_eq_false (by omega : ¬ (64 : Int) < t.label.length)]
    cases hl : t.leaf with
    | false => rw [h3 hl]; simp
    | true => rw [h2 hl]; simp
theorem rightN_subs (t : Tree) (ss : List Tree) (h : rightN t = true) (hl : t.leaf = true → ss = []) : rightN (t.withSubs ss) = true := by
  obtain ⟨h1, h2, h3, h4⟩ := (rightN_iff t).1 h
  refine (rightN_iff _).2 ?_
  obtain ⟨i, lf, b, a, c, us⟩ := t
  exact ⟨h1, hl, h3, h4⟩
theorem rightN_leaf {t : Tree} (h : rightN t = true) (hl : t.leaf = true) : t.subs = [] := ((rightN_iff t).1 h).2.1 hl
theorem rightA_N {t : Tree} (h : t.rightA = true) : rightN t = true := by
  rw [rightA_eq, Bool.and_eq_true] at h
  exact h.1
theorem rightA_subs {t : Tree} (h : t.rightA = true) : ∀ s ∈ t.subs, s.rightA = true := by
  rw [rightA_eq, Bool.and_eq_true, rightsA_all] at h
  exact List.all_eq_true.1 h.2
theorem rightA_mk {t : Tree} (h1 : rightN t = true) (h2 : ∀ s ∈ t.subs, s.rightA = true) : t.rightA = true := by
  rw [rightA_eq, h1, rightsA_all, Bool.true_and]
  exact List.all_eq_true.2 h2
theorem change_rightA {F : Tree → Tree} {y : Tree} : ∀ {p : List Int} {t : Tree}, t.rightA = true → atT t p = some y → (F y).rightA = true → (changeT F t p).rightA = true
  | [], t, _, h, hF => by
    rw [atT] at h
    injection h with h
    subst h
    exact hF
  | i :: p, t, ht, h, hF => by
    rw [atT] at h
    cases hs : subT t i with
    | none => rw [hs] at h; cases h
    | some s =>
      rw [hs] at h
      obtain ⟨h1, h2, h3⟩ := subT_some hs
      have ih := change_rightA (F := F) (p := p) (rightA_subs ht s h3) h hF
      rw [changeT, hs]
      simp only
      refine rightA_mk (rightN_subs t _ (rightA_N ht) fun hl => ?_) fun u hu => ?_
      · rw [rightN_leaf (rightA_N ht) hl] at h3
        cases h3
      · rw [withSubs_subs] at hu
        rcases List.mem_or_eq_of_mem_set hu with hu | rfl
        · exact rightA_subs ht u hu
        · exact ih
theorem ins_rightA (n : Int) {x y : Tree} (hy : y.rightA = true) (hl : y.leaf = false) (hx : x.rightA = true) : (insT n x y).rightA = true := by
  refine rightA_mk (rightN_subs y _ (rightA_N hy) fun h => by rw [hl] at h; cases h) fun u hu => ?_
  unfold insT at hu
  rw [withSubs_subs] at hu
  rcases List.mem_append.1 hu with hu | hu
  · exact rightA_subs hy u (List.mem_of_mem_take hu)
  · rcases List.mem_cons.1 hu with rfl | hu
    · exact hx
    · exact rightA_subs hy u (List.mem_of_mem_drop hu)
theorem del_rightA (n : Int) {y : Tree} (hy : y.rightA = true) : (delT n y).rightA = true := by
  refine rightA_mk (rightN_subs y _ (rightA_N hy) fun h => by rw [rightN_leaf (rightA_N hy) h]; simp) fun u hu => ?_
  unfold delT at hu
  rw [withSubs_subs] at hu
  rcases List.mem_append.1 hu with hu | hu
  · exact rightA_subs hy u (List.mem_of_mem_take hu)
  · exact rightA_subs hy u (List.mem_of_mem_drop hu)
theorem less_ord {k s : List UInt8} (h : Op.bytesLess k s = true) : ordOk (some k) s = true := by
  show (!leS s k) = true
  unfold leS
  rw [less_asymm h, decide_eq_false fun e => less_ne h e.symm]
  rfl
theorem ord_trans {k0 : Option (List UInt8)} {k s : List UInt8} (h1 : ordOk k0 k = true) (h2 : Op.bytesLess k s = true) : ordOk k0 s = true := by
  cases k0 with
  | none => rfl
  | some q => exact less_ord (less_trans (ordOk_less h1) h2)
theorem attrOk_mk {k0 : Option (List UInt8)} {a : List UInt8 × List UInt8} (h1 : keyOk a.1 = true) (h2 : a.2.length ≤ 256) (h3 : ordOk k0 a.1 = true) : attrOk k0 a = true := by
  unfold attrOk
  rw [h1, h3, decide_eq_true (by omega)]
  rfl
theorem attrOk_parts {k0 : Option (List UInt8)} {a : List UInt8 × List UInt8} (h : attrOk k0 a = true) : keyOk a.1 = true ∧ a.2.length ≤ 256 ∧ ordOk k0 a.1 = true := by
  unfold attrOk at h
  simp only [Bool.and_eq_true, decide_eq_true_eq] at h
  exact ⟨h.1, by omega, h.2.2⟩
theorem attrsOk_weak {k0 : Option (List UInt8)} {k : List UInt8} (h : ordOk k0 k = true) : ∀ {l : AttrL}, attrsOk (some k) l = true → attrsOk k0 l = true
  | [], _ => rfl
  | a :: l, hl => by
    rw [attrsOk, Bool.and_eq_true] at hl ⊢
    obtain ⟨h1, h2, h3⟩ := attrOk_parts hl.1
    exact ⟨attrOk_mk h1 h2 (ord_trans h (ordOk_less h3)), hl.2⟩
theorem refA_true_ok (o : OpT) : ∀ {l : AttrL} {k0 : Option (List UInt8)}, attrsOk k0 l = true → attrsOk k0 (refA o true l) = true
  | [], _, _ => rfl
  | a :: l, k0, h => by
    have ih := refA_true_ok o (attrsOk_tail h)
    rw [attrsOk, Bool.and_eq_true] at h
    obtain ⟨h1, h2, h3⟩ := attrOk_parts h.1
    rw [refA]
    simp only [Bool.not_true, Bool.false_and, cond_false, List.nil_append, Bool.true_or]
    cases decide (a.1 = o.key) with
    | true => exact attrsOk_weak h3 ih
    | false =>
      show attrsOk k0 (a :: refA o true l) = true
      rw [attrsOk, h.1, ih]
      rfl
theorem refA_false_ok (o : OpT) (hk : keyOk o.key = true) (hv : o.value.length ≤ 256) : ∀ {l : AttrL} {k0 : Option (List UInt8)}, attrsOk k0 l = true → ordOk k0 o.key = true → attrsOk k0 (refA o false l) = true
  | [], k0, _, ho => by
    show attrsOk k0 [(o.key, o.value)] = true
    rw [attrsOk, attrOk_mk hk hv ho]
    rfl
  | a :: l, k0, h, ho => by
    have ht := attrsOk_tail h
    rw [attrsOk, Bool.and_eq_true] at h
    obtain ⟨h1, h2, h3⟩ := attrOk_parts h.1
    rw [refA]
    cases ha : Op.bytesLess a.1 o.key with
    | true =>
      rw [decide_eq_false (less_ne ha)]
      show attrsOk k0 (a :: refA o false l) = true
      rw [attrsOk, h.1, refA_false_ok o hk hv ht (less_ord ha)]
      rfl
    | false =>
      by_cases he : a.1 = o.key
      · rw [decide_eq_true he]
        show attrsOk k0 ((o.key, o.value) :: refA o true l) = true
        rw [attrsOk, attrOk_mk hk hv ho]
        show attrsOk (some o.key) (refA o true l) = true
        rw [← he]
        exact refA_true_ok o ht
      · rw [decide_eq_false he]
        show attrsOk k0 ((o.key, o.value) :: a :: refA o true l) = true
        have hka : Op.bytesLess o.key a.1 = true := by
          cases hk' : Op.bytesLess o.key a.1 with
          | true => rfl
          | false => exact absurd (less_tri ha hk') he
        rw [attrsOk, attrOk_mk hk hv ho, attrsOk, attrOk_mk h1 h2 (less_ord hka)]
        exact refA_true_ok o ht
theorem withAttrs_rightA {y : Tree} {a : AttrL} (hy : y.rightA = true) (ha : attrsOk none a = true) : (y.withAttrs a).rightA = true := by
  have h1 := rightA_N hy
  have h2 := rightA_subs hy
  obtain ⟨q1, q2, q3, q4⟩ := (rightN_iff y).1 h1
  obtain ⟨i, lf, b, a', c, us⟩ := y
  exact rightA_mk ((rightN_iff _).2 ⟨q1, q2, q3, ha⟩) h2
theorem setAT_rightA {o : OpT} {y : Tree} (hy : y.rightA = true) (hk : keyOk o.key = true) (hv : o.gone = true ∨ o.value.length ≤ 256) : (setAT o y).rightA = true := by
  unfold setAT
  refine withAttrs_rightA hy ?_
  rw [← attr_law o (right_attrs hy)]
  cases hg : o.gone with
  | true => exact refA_true_ok o (right_attrs hy)
  | false => exact refA_false_ok o hk (hv.resolve_left (by rw [hg]; simp)) (right_attrs hy) rfl
theorem relabel_rightA {s : List UInt8} {y : Tree} (hy : y.rightA = true) (hs : s.length ≤ 64) : (relabelT s y).rightA = true := by
  have h1 := rightA_N hy
  have h2 := rightA_subs hy
  obtain ⟨q1, q2, q3, q4⟩ := (rightN_iff y).1 h1
  obtain ⟨i, lf, b, a', c, us⟩ := y
  exact rightA_mk ((rightN_iff _).2 ⟨hs, q2, q3, q4⟩) h2
theorem retext_rightA {l : List PieceT} {y : Tree} (hy : y.rightA = true) (hl : y.leaf = true) : (retextT l y).rightA = true := by
  have h1 := rightA_N hy
  have h2 := rightA_subs hy
  obtain ⟨q1, q2, q3, q4⟩ := (rightN_iff y).1 h1
  obtain ⟨i, lf, b, a', c, us⟩ := y
  exact rightA_mk ((rightN_iff _).2 ⟨q1, q2, fun h => absurd (h.symm.trans hl) (by simp), q4⟩) h2
theorem fresh_rightA {o : OpT} (h : o.label.length ≤ 64) : (freshT o).rightA = true := by
  exact rightA_mk ((rightN_iff _).2 ⟨h, fun _ => rfl, fun _ => rfl, rfl⟩) (fun s hs => by cases hs)
/-- Where a moved node lands. -/
theorem land_of {t x z : Tree} {fr to : List Int} {at_ : Int} (hne : fr ≠ []) (hx : atT t fr = some x) (hw : within fr to = false) (hz : atT t to = some z) (h0 : 0 ≤ at_) (h1 : at_ ≤ z.subs.length) :
    ∃ z', atT (withoutT t fr) (landT fr.dropLast (lastP fr) to at_).1 = some z' ∧ 0 ≤ (landT fr.dropLast (lastP fr) to at_).2 ∧ (landT fr.dropLast (lastP fr) to at_).2 ≤ z'.subs.length ∧ z'.leaf = z.leaf ∧ z'.id = z.id := by
  obtain ⟨y, y1, y2, y3, y4⟩ := at_parent hne hx
  have hlast := lastP_eq hne
  rw [hlast] at y2 y3 y4
  have hw' : within (fr.dropLast ++ [lastP fr]) to = false := by rw [← hlast, List.dropLast_concat_getLast]; exact hw
  exact land_at2 y2 h0 fr.dropLast to t y z y1 y3 hw' hz h1
theorem without_rightA {t x : Tree} {fr : List Int} (hne : fr ≠ []) (hx : atT t fr = some x) (ht : t.rightA = true) : (withoutT t fr).rightA = true := by
  obtain ⟨y, y1, y2, y3, y4⟩ := at_parent hne hx
  exact change_rightA ht y1 (del_rightA _ (right_at ht y1))
theorem change_leaf {F : Tree → Tree} (hF : ∀ y, (F y).leaf = y.leaf) : ∀ (p : List Int) (t : Tree), (changeT F t p).leaf = t.leaf
  | [], t => hF t
  | i :: p, t => by
    rw [changeT]
    cases subT t i with
    | none => rfl
    | some s => exact withSubs_leaf _ _
theorem rightT_parts {t : Tree} (h : rightT t = true) : t.leaf = false ∧ t.rightA = true := by
  unfold rightT at h
  simpa using h
theorem right_applyT {t : Tree} {o : OpT} (h : ValidE t o = 0) : rightT (applyT t o) = true := by
  obtain ⟨hr, hf, _⟩ := valid_right h
  obtain ⟨hl, hA⟩ := rightT_parts hr
  have hins : ∀ n x, ∀ y, (insT n x y).leaf = y.leaf := fun n x y => withSubs_leaf _ _
  have hdel : ∀ n, ∀ y, (delT n y).leaf = y.leaf := fun n y => withSubs_leaf _ _
  have key : (applyT t o).leaf = t.leaf ∧ (applyT t o).rightA = true := by
    cases good_of h with
    | ins y hk hy hl h0 h1 h2 =>
      have e : applyT t o = changeT (insT o.at_ (freshT o)) t o.path := by unfold applyT; rw [hk]; rfl
      rw [e]
      exact ⟨change_leaf (hins _ _) _ _, change_rightA hA hy (ins_rightA _ (right_at hA hy) hl (fresh_rightA h2))⟩
    | del x hk hne hx =>
      have e : applyT t o = withoutT t o.path := by unfold applyT; rw [hk]; rfl
      rw [e]
      exact ⟨change_leaf (hdel _) _ _, without_rightA hne hx hA⟩
    | mov x z hk hne hx hw hz hl h0 h1 =>
      have e : applyT t o = moveT x t o := by unfold applyT; rw [hk, hx]; rfl
      obtain ⟨z', k1, k2, k3, k4, k5⟩ := land_of hne hx hw hz h0 h1
      rw [e, moveT_eq]
      have hwA := without_rightA hne hx hA
      refine ⟨(change_leaf (hins _ _) _ _).trans (change_leaf (hdel _) _ _), change_rightA hwA k1 (ins_rightA _ (right_at hwA k1) (k4.trans hl) (right_at hA hx))⟩
    | att y hk hy h1 h2 =>
      have e : applyT t o = changeT (setAT o) t o.path := by unfold applyT; rw [hk]; rfl
      rw [e]
      exact ⟨change_leaf (fun y => by cases y; rfl) _ _, change_rightA hA hy (setAT_rightA (right_at hA hy) h1 h2)⟩
    | lab y hk hy h2 =>
      have e : applyT t o = changeT (relabelT o.label) t o.path := by unfold applyT; rw [hk]; rfl
      rw [e]
      exact ⟨change_leaf (fun y => by cases y; rfl) _ _, change_rightA hA hy (relabel_rightA (right_at hA hy) h2)⟩
    | edt y hk hy hl he =>
      have e : applyT t o = changeT (retextT o.pieces) t o.path := by unfold applyT; rw [hk]; rfl
      rw [e]
      exact ⟨change_leaf (fun y => by cases y; rfl) _ _, change_rightA hA hy (retext_rightA (right_at hA hy) hl)⟩
  unfold rightT
  rw [key.1, key.2, hl]
  rfl
end Bow
/- SP16: the identities of a tree, counted, in plain Lean. -/
namespace Bow
open Go

mutual
def idsT : Tree → List Int
  | .mk i _ _ _ _ ss => i :: idsTs ss
def idsTs : List Tree → List Int
  | [] => []
  | s :: ss => idsT s ++ idsTs ss
end
theorem idsT_eq (t : Tree) : idsT t = t.id :: idsTs t.subs := by cases t; rw [idsT]; rfl
theorem idsTs_append : ∀ a b : List Tree, idsTs (a ++ b) = idsTs a ++ idsTs b
  | [], b => by rw [idsTs]; rfl
  | x :: a, b => by rw [List.cons_append, idsTs, idsTs, idsTs_append a b, List.append_assoc]
/-- A measure of rows that adds up. -/
def Adds (m : List Int → Nat) : Prop := ∀ a b, m (a ++ b) = m a + m b
section
variable {m : List Int → Nat}
theorem Adds.nil (h : Adds m) : m [] = 0 := by have := h [] []; simp at this; omega
theorem Adds.tree (h : Adds m) (t : Tree) : m (idsT t) = m [t.id] + m (idsTs t.subs) := by rw [idsT_eq, ← h]; rfl
theorem Adds.subs (h : Adds m) (t : Tree) (ss : List Tree) : m (idsT (t.withSubs ss)) + m (idsTs t.subs) = m (idsT t) + m (idsTs ss) := by
  rw [h.tree, h.tree t, withSubs_id, withSubs_subs]
  omega
theorem Adds.set (h : Adds m) {s u : Tree} : ∀ {l : List Tree} {i : Nat}, l[i]? = some s → m (idsTs (l.set i u)) + m (idsT s) = m (idsTs l) + m (idsT u)
  | [], i, q => by simp at q
  | x :: l, 0, q => by
    simp at q
    subst q
    rw [List.set_cons_zero, idsTs, idsTs, h, h]
    omega
  | x :: l, i + 1, q => by
    simp at q
    have := h.set (u := u) (l := l) q
    rw [List.set_cons_succ, idsTs, idsTs, h, h]
    omega
theorem Adds.change (h : Adds m) {F : Tree → Tree} {y : Tree} : ∀ {p : List Int} {t : Tree}, atT t p = some y → m (idsT (changeT F t p)) + m (idsT y) = m (idsT t) + m (idsT (F y))
  | [], t, q => by
    rw [atT] at q
    injection q with q
    subst q
    rw [changeT]
    omega
  | i :: p, t, q => by
    rw [atT] at q
    cases hs : subT t i with
    | none => rw [hs] at q; cases q
    | some s =>
      rw [hs] at q
      have ih := h.change (F := F) (p := p) q
      rw [changeT, hs]
      simp only
      have h1 := h.set (u := changeT F s p) (subT_some hs).2.1
      have h2 := h.subs t (t.subs.set i.toNat (changeT F s p))
      omega
theorem Adds.ins (h : Adds m) (n : Int) (x y : Tree) : m (idsT (insT n x y)) = m (idsT y) + m (idsT x) := by
  have h1 := h.subs y (y.subs.take n.toNat ++ x :: y.subs.drop n.toNat)
  have h2 : m (idsTs (y.subs.take n.toNat ++ x :: y.subs.drop n.toNat)) = m (idsTs y.subs) + m (idsT x) := by
    conv => rhs; rw [← List.take_append_drop n.toNat y.subs]
    rw [idsTs_append, idsTs_append, idsTs, h, h, h]
    omega
  unfold insT
  omega
theorem Adds.del (h : Adds m) {y x : Tree} {i : Int} (q : y.subs[i.toNat]? = some x) : m (idsT (delT i y)) + m (idsT x) = m (idsT y) := by
  have h1 := h.subs y (y.subs.take i.toNat ++ y.subs.drop (i.toNat + 1))
  have h2 : m (idsTs (y.subs.take i.toNat ++ y.subs.drop (i.toNat + 1))) + m (idsT x) = m (idsTs y.subs) := by
    have hl := lt_of_get q
    conv => rhs; rw [← List.take_append_drop i.toNat y.subs]
    rw [idsTs_append, idsTs_append, List.drop_eq_getElem_cons hl, idsTs, h, h, h]
    have : y.subs[i.toNat] = x := by rw [List.getElem?_eq_getElem hl] at q; injection q
    rw [this]
    omega
  unfold delT
  omega
theorem Adds.without (h : Adds m) {t x : Tree} {p : List Int} (hne : p ≠ []) (hx : atT t p = some x) : m (idsT (withoutT t p)) + m (idsT x) = m (idsT t) := by
  obtain ⟨y, y1, y2, y3, y4⟩ := at_parent hne hx
  rw [lastP_eq hne] at y4
  have h1 := h.change (F := delT (lastP p)) y1
  have h2 := h.del y4
  unfold withoutT
  omega
theorem Adds.same (h : Adds m) {F : Tree → Tree} {y t : Tree} {p : List Int} (hF : ∀ y, idsT (F y) = idsT y) (hy : atT t p = some y) : m (idsT (changeT F t p)) = m (idsT t) := by
  have := h.change (F := F) hy
  rw [hF] at this
  omega
theorem ids_fresh (o : OpT) : idsT (freshT o) = [o.id] := by rw [idsT_eq]; rfl
/-- What an operation takes away. -/
def goneT (t : Tree) (o : OpT) : List Int := bif decide (o.kind = 2) then (match atT t o.path with | some x => idsT x | none => []) else []
def moreT (o : OpT) : List Int := bif decide (o.kind = 1) then [o.id] else []
theorem Adds.apply (h : Adds m) {t : Tree} {o : OpT} (hv : ValidE t o = 0) : m (idsT (applyT t o)) + m (goneT t o) = m (idsT t) + m (moreT o) := by
  have h0 := h.nil
  cases good_of hv with
  | ins y hk hy hl h0 h1 h2 =>
    have e : applyT t o = changeT (insT o.at_ (freshT o)) t o.path := by unfold applyT; rw [hk]; rfl
    have e1 : goneT t o = [] := by unfold goneT; rw [hk]; rfl
    have e2 : moreT o = [o.id] := by unfold moreT; rw [hk]; rfl
    have q1 := h.change (F := insT o.at_ (freshT o)) hy
    have q2 := h.ins o.at_ (freshT o) y
    rw [ids_fresh] at q2
    rw [e, e1, e2]
    omega
  | del x hk hne hx =>
    have e : applyT t o = withoutT t o.path := by unfold applyT; rw [hk]; rfl
    have e1 : goneT t o = idsT x := by unfold goneT; rw [hk, hx]; rfl
    have e2 : moreT o = [] := by unfold moreT; rw [hk]; rfl
    have q1 := h.without hne hx
    rw [e, e1, e2]
    omega
  | mov x z hk hne hx hw hz hl h0 h1 =>
    have e : applyT t o = moveT x t o := by unfold applyT; rw [hk, hx]; rfl
    have e1 : goneT t o = [] := by unfold goneT; rw [hk]; rfl
    have e2 : moreT o = [] := by unfold moreT; rw [hk]; rfl
    obtain ⟨z', k1, k2, k3, k4, k5⟩ := land_of hne hx hw hz h0 h1
    have q1 := h.without hne hx
    have q2 := h.change (F := insT (landT o.path.dropLast (lastP o.path) o.to o.at_).2 x) k1
    have q3 := h.ins (landT o.path.dropLast (lastP o.path) o.to o.at_).2 x z'
    rw [e, e1, e2, moveT_eq]
    omega
  | att y hk hy h1 h2 =>
    have e : applyT t o = changeT (setAT o) t o.path := by unfold applyT; rw [hk]; rfl
    have e1 : goneT t o = [] := by unfold goneT; rw [hk]; rfl
    have e2 : moreT o = [] := by unfold moreT; rw [hk]; rfl
    rw [e, e1, e2, h.same (fun y => by cases y; rfl) hy]
  | lab y hk hy h2 =>
    have e : applyT t o = changeT (relabelT o.label) t o.path := by unfold applyT; rw [hk]; rfl
    have e1 : goneT t o = [] := by unfold goneT; rw [hk]; rfl
    have e2 : moreT o = [] := by unfold moreT; rw [hk]; rfl
    rw [e, e1, e2, h.same (fun y => by cases y; rfl) hy]
  | edt y hk hy hl he =>
    have e : applyT t o = changeT (retextT o.pieces) t o.path := by unfold applyT; rw [hk]; rfl
    have e1 : goneT t o = [] := by unfold goneT; rw [hk]; rfl
    have e2 : moreT o = [] := by unfold moreT; rw [hk]; rfl
    rw [e, e1, e2, h.same (fun y => by cases y; rfl) hy]
end
end Bow
/- W39: the reference's Same, IDs. -/
namespace Bow
open Go Go.Proofs

theorem attrs_take {α : Type} {xs ys : List α} {i : Nat} (h1 : i < xs.length) (h2 : i < ys.length) : (xs.drop i = ys.drop i) = (xs[i] = ys[i] ∧ xs.drop (i + 1) = ys.drop (i + 1)) := by
  rw [List.drop_eq_getElem_cons h1, List.drop_eq_getElem_cons h2, List.cons.injEq]

set_option maxRecDepth 100000 in
theorem w_refSameAttrs (xs ys : AttrL) (hl : xs.length ≤ 1000000) : Pure Tryz.prog 48 [.sl 2 (xs.map attrV), .sl 2 (ys.map attrV)] (fun x => x = .bool (decide (xs = ys))) := by
  refine pure_wk (pure_fn 300 Tryz.func48 rfl rfl rfl fun B => ?_)
  refine ⟨fun g1 => go 300 ?_, fun g1 => go 300 ?_⟩
  · have g1 := ne_of' g1
    exact ⟨trivial, rfl, rfl, rfl, leaf_ff (decide_eq_false fun e => g1 (by rw [e]))⟩
  have g1 : xs.length = ys.length := by have := eq_of' g1; simp at this; omega
  show Goes _ _ _ _
  refine goes_iter (ι := Nat) (fun i => i ≤ xs.length ∧ (xs.drop i = ys.drop i ↔ xs = ys)) (fun i => xs.length - i) (fun i => [(5, .int .i64 i), (0, .sl 2 (xs.map attrV)), (1, .sl 2 (ys.map attrV))]) (fun _ => []) 0 300 (fun _ => rfl) (fun _ => rfl) ⟨⟨Nat.zero_le _, by simp⟩, ⟨⟨rfl, rfl⟩, ⟨rfl, rfl⟩, ⟨rfl, rfl⟩, trivial⟩, trivial⟩ ?_
  rintro i ⟨k1, k2⟩ next
  refine ⟨fun hlt => go 300 ?_, fun hge => go 300 ?_⟩
  · have hi : i < xs.length := by simpa using hlt
    have hi' : i < ys.length := by omega
    have hx : (xs.map attrV)[i]? = some (attrV xs[i]) := by simp [hi]
    have hy : (ys.map attrV)[i]? = some (attrV ys[i]) := by simp [hi']
    rw [attrs_take hi hi'] at k2
    show Goes _ _ _ _
    refine goes_draw 300 ⟨Int.natCast_nonneg i, _, hx, Int.natCast_nonneg i, _, hy, ?_⟩
    refine ⟨by kernel_rfl, ?_⟩
    refine ⟨by kernel_rfl, ?_⟩
    refine ⟨fun g2 => go 300 ?_, fun g2 => go 300 ?_⟩
    · refine ⟨trivial, rfl, rfl, rfl, leaf_ff (decide_eq_false fun e => ?_)⟩
      have := (k2.2 e).1
      rw [this] at g2
      simp at g2
    · refine ⟨by constructor <;> omega, ?_⟩
      have he : xs[i] = ys[i] := by
        simp at g2
        exact Prod.ext g2.1 g2.2
      exact next (i + 1) _ _ ⟨⟨hi, by rw [← k2]; exact ⟨fun h => ⟨he, h⟩, fun h => h.2⟩⟩, by omega, ⟨⟨rfl, rfl⟩, ⟨rfl, rfl⟩, ⟨rfl, rfl⟩, trivial⟩, trivial⟩
  · have hi : i = xs.length := by have : xs.length ≤ i := by simpa using hge
                                  omega
    subst hi
    refine ⟨trivial, rfl, rfl, rfl, leaf_tt (decide_eq_true (k2.1 ?_))⟩
    rw [List.drop_eq_nil_of_le (Nat.le_refl _), List.drop_eq_nil_of_le (by omega)]

set_option maxHeartbeats 1000000 in
set_option maxRecDepth 100000 in
theorem w_refSameT (t : Tree) : ∀ u : Tree, t.weight ≤ 1000000 → Pure Tryz.prog 21 [nodeV t, nodeV u] (fun x => x = .bool (sameT true t u)) := by
  induction t using Tree.ind with
  | _ t ih =>
  intro u ht
  have hsl := subs_le_weight t
  have hal := attrs_le_weight t
  have hA := w_refSameAttrs t.attrs u.attrs (by omega)
  have e := sameT_eq true t u
  refine pure_wk (pure_fn 300 Tryz.func21 rfl rfl rfl fun B => ?_)
  repeat' first
    | (refine ⟨fun _ => go 300 ?_, fun _ => go 300 ?_⟩)
    | (show CallThen _ _ _ _ _ _; refine call_pure hA rfl ?_; rintro z rfl)
    | (refine ⟨trivial, rfl, rfl, rfl, leaf_ff ?_⟩)
    | fail
  case h.refine_2.refine_2.refine_2.refine_2.refine_2.refine_2 g1 g2 g3 g4 g5 g6 =>
    have hlen : t.subs.length = u.subs.length := by have := eq_of' g6; rw [subV_len, subV_len] at this; omega
    have e' : sameT true t u = sameTs true t.subs u.subs := by
      rw [e]
      have g1 := eq_of' g1
      simp at g2 g3 g4 g5
      simp [g1, g2, g3, g4, g5]
    show Goes _ _ _ _
    refine goes_iter (ι := Nat) (fun i => i ≤ t.subs.length ∧ sameTs true (t.subs.drop i) (u.subs.drop i) = sameTs true t.subs u.subs) (fun i => t.subs.length - i) (fun i => [(5, .int .i64 i), (2, .ptr (.loc 0) 0), (3, .ptr (.loc 1) 0)]) (fun _ => [some (.box (nodeV t).cells), some (.box (nodeV u).cells)]) 0 300 (fun _ => rfl) (fun _ => rfl) ⟨⟨Nat.zero_le _, rfl⟩, ⟨⟨rfl, rfl⟩, ⟨rfl, rfl⟩, ⟨rfl, rfl⟩, trivial⟩, ⟨⟨rfl, rfl⟩, ⟨rfl, rfl⟩, trivial⟩⟩ ?_
    rintro i ⟨k1, k2⟩ next
    refine ⟨fun hlt => go 300 ?_, fun hge => go 300 ?_⟩
    · have hi : i < t.subs.length := by simpa [subV_eq] using hlt
      have hi' : i < u.subs.length := by omega
      have hx : t.subV[i]? = some (nodeV t.subs[i]) := by simp [subV_eq, hi]
      have hy : u.subV[i]? = some (nodeV u.subs[i]) := by simp [subV_eq, hi']
      have hws := weight_sub (List.getElem_mem hi)
      rw [sameTs_at hi hi'] at k2
      show Goes _ _ _ _
      refine goes_draw 300 ⟨Int.natCast_nonneg i, _, hx, Int.natCast_nonneg i, _, hy, _, ih _ (List.getElem_mem hi) u.subs[i] (by omega), rfl, ?_⟩
      refine ⟨by kernel_rfl, ?_⟩
      refine ⟨fun g => go 300 ?_, fun g => go 300 ?_⟩
      · have g : sameT true t.subs[i] u.subs[i] = false := by simpa using g
        exact ⟨trivial, rfl, rfl, rfl, leaf_ff (by rw [e', ← k2, g]; rfl)⟩
      · have g : sameT true t.subs[i] u.subs[i] = true := by simpa using g
        rw [g, Bool.true_and] at k2
        refine ⟨by constructor <;> omega, ?_⟩
        exact next (i + 1) _ _ ⟨⟨hi, k2⟩, by omega, ⟨⟨rfl, rfl⟩, ⟨rfl, rfl⟩, ⟨rfl, rfl⟩, trivial⟩, ⟨⟨rfl, rfl⟩, ⟨rfl, rfl⟩, trivial⟩⟩
    · have hi : t.subs.length ≤ i := by simpa [subV_eq] using hge
      rw [List.drop_eq_nil_of_le hi, List.drop_eq_nil_of_le (by omega), sameTs] at k2
      exact ⟨trivial, rfl, rfl, rfl, leaf_tt (by rw [e', ← k2])⟩
  case h.refine_2.refine_2.refine_2.refine_2.refine_2.refine_1 g1 g2 g3 g4 g5 g6 =>
    have g6 := ne_of' g6
    rw [subV_len, subV_len] at g6
    cases h : sameT true t u with
    | false => rfl
    | true =>
      rw [e] at h
      simp only [Bool.and_eq_true] at h
      exact absurd (congrArg Nat.cast (sameTs_len h.2.2.2.2.2)) g6
  all_goals (rw [e]; simp_all)

end Bow
/- SP17: a list of operations, in plain Lean. -/
namespace Bow
open Go

def zeroT0 : Tree := .mk 0 false [] [] [] []
def allR : Tree → List OpT → Nat → Tree × Nat × Int
  | t, [], i => (t, i, 0)
  | t, o :: l, i => bif decide (ValidE t o = 0) then allR (applyT t o) l (i + 1) else (zeroT0, i, ValidE t o)
def AllR (t : Tree) (l : List OpT) : Tree × Nat × Int := bif rightT t then allR t l 0 else (zeroT0, 0, 2)
def costs : List OpT → Nat
  | [] => 0
  | o :: l => costO o + costs l
end Bow
/- W43a: ApplyAll, the program's and the reference's. -/
namespace Bow
open Go Go.Proofs

def AllV (r : Tree × Nat × Int) : V := .tup [nodeV r.1, .int .i64 r.2.1, .int .i64 r.2.2]
theorem allZ (i : Nat) (e : Int) : ∃ y, Wk (.tup [zeroV .nilsl, .int .i64 i, .int .i64 e]) y ∧ y.pureB = true ∧ y = AllV (zeroT0, i, e) :=
  ⟨_, Wk.tup (ys := [nodeV zeroT0, .int .i64 i, .int .i64 e]) ⟨wk_zero (ss := []) (Wk.nil 6), .refl _, .refl _, trivial⟩, rfl, rfl⟩

set_option maxHeartbeats 1000000 in
set_option maxRecDepth 100000 in
theorem w_refApplyAll (t : Tree) (l : List OpT) (hw : t.weight + costs l ≤ 400000) (hl : l.length ≤ 1000000) (hok : ∀ o ∈ l, o.Ok) : Pure Tryz.prog 35 [nodeV t, opsV l] (fun x => x = AllV (AllR t l)) := by
  refine pure_wk (pure_fn 300 Tryz.func35 rfl rfl rfl fun B => ?_)
  show CallThen _ _ _ _ _ _
  refine call_pure (w_refRightT t (by omega)) rfl ?_
  rintro x rfl
  refine ⟨fun g => go 300 ?_, fun g => go 300 ?_⟩
  · have hr : rightT t = false := by simpa using g
    refine ⟨trivial, rfl, rfl, rfl, ?_⟩
    have e : AllR t l = (zeroT0, 0, 2) := by unfold AllR; rw [hr]; rfl
    rw [e]
    exact allZ 0 2
  have hr : rightT t = true := by simpa using g
  have e : AllR t l = allR t l 0 := by unfold AllR; rw [hr]; rfl
  rw [e]
  show Goes _ _ _ _
  refine goes_iter (ι := Nat × Tree) (fun i => i.1 ≤ l.length ∧ rightT i.2 = true ∧ i.2.weight + costs (l.drop i.1) ≤ 400000 ∧ allR i.2 (l.drop i.1) i.1 = allR t l 0) (fun i => l.length - i.1)
    (fun i => [(7, .int .i64 i.1), (1, opsV l), (2, .ptr (.loc 0) 0), (4, .ptr (.loc 1) 0)]) (fun i => [some (.box (nodeV i.2).cells), some (.box (zeroV .nilsl).cells)]) (0, t) 300 (fun _ => rfl) (fun _ => rfl) ⟨⟨Nat.zero_le _, hr, hw, rfl⟩, ⟨⟨rfl, rfl⟩, ⟨rfl, rfl⟩, ⟨rfl, rfl⟩, ⟨rfl, rfl⟩, trivial⟩, ⟨⟨rfl, rfl⟩, ⟨rfl, rfl⟩, trivial⟩⟩ ?_
  rintro ⟨i, u⟩ ⟨k1, k2, k3, k4⟩ next
  simp only at k1 k2 k3 k4
  refine ⟨fun hlt => go 300 ?_, fun hge => go 300 ?_⟩
  · have hi : i < l.length := by simpa using hlt
    have hx : (l.map opV)[i]? = some (opV l[i]) := by simp [hi]
    rw [List.drop_eq_getElem_cons hi, allR] at k4
    rw [List.drop_eq_getElem_cons hi, costs] at k3
    have hap := w_refApply u l[i] (by omega) (hok _ (List.getElem_mem hi))
    show Goes _ _ _ _
    refine goes_draw 300 ⟨Int.natCast_nonneg i, _, hx, _, hap, rfl, ?_⟩
    refine ⟨by kernel_rfl, ?_⟩
    refine ⟨by kernel_rfl, ?_⟩
    by_cases hv : ValidE u l[i] = 0
    · have e : applyR u l[i] = (applyT u l[i], 0) := by unfold applyR; rw [decide_eq_true hv]; rfl
      rw [decide_eq_true hv] at k4
      have hwt := applyT_weight hv
      rw [e]
      refine ⟨fun g => absurd rfl (ne_of' g), fun _ => go 300 ?_⟩
      refine ⟨by constructor <;> omega, ?_⟩
      show Goes _ _ _ _
      exact next (i + 1, applyT u l[i]) _ _ ⟨⟨hi, right_applyT hv, by simp only; omega, k4⟩, by simp only; omega, ⟨⟨rfl, rfl⟩, ⟨rfl, rfl⟩, ⟨rfl, rfl⟩, ⟨rfl, rfl⟩, trivial⟩, ⟨⟨rfl, rfl⟩, ⟨rfl, rfl⟩, trivial⟩⟩
    · have e : applyR u l[i] = (zeroT [], ValidE u l[i]) := by unfold applyR; rw [decide_eq_false hv]; rfl
      rw [decide_eq_false hv] at k4
      rw [e]
      refine ⟨fun _ => go 300 ?_, fun g => absurd (eq_of' g) hv⟩
      refine ⟨trivial, rfl, rfl, rfl, ?_⟩
      rw [← k4]
      exact allZ i (ValidE u l[i])
  · have hi : i = l.length := by have := not_lt_of hge; simp at this; omega
    subst hi
    rw [List.drop_length, allR] at k4
    refine ⟨trivial, rfl, rfl, rfl, ?_⟩
    rw [← k4]
    exact ⟨_, Wk.refl _, rfl, by simp [AllV]; rfl⟩

end Bow
/- W49: where nodes are behind an operation: shift.moves, of, number, land. -/
namespace Bow
open Go Go.Proofs

set_option maxRecDepth 100000 in
theorem w_moves (o : OpT) (ho : o.Ok) : Pure Tryz.prog 118 [opV o] (fun x => x = .bool (movesO o)) := by
  refine pure_wk (pure_fn 300 Tryz.func118 rfl rfl rfl fun B => ?_)
  show CallThen _ _ _ _ _ _
  refine call_pure (w_Formed o ho.lt ho.each) rfl ?_
  rintro x rfl
  have hW := w_pathWithin o.path o.to ho.lt.path
  repeat' first
    | (refine ⟨fun _ => go 300 ?_, fun _ => go 300 ?_⟩)
    | (show CallThen _ _ _ _ _ _; refine call_pure hW rfl ?_; rintro z rfl)
    | (refine ⟨trivial, rfl, rfl, rfl, leaf_tt ?_⟩)
    | (refine ⟨trivial, rfl, rfl, rfl, leaf_ff ?_⟩)
    | (refine ⟨trivial, rfl, rfl, rfl, leaf_b ?_⟩)
    | fail
  all_goals (clear hW; simp_all [movesO])

theorem moves_ne {o : OpT} (h : movesO o = true) : o.kind ≠ 1 → o.path ≠ [] := fun hk e => by
  unfold movesO at h
  rw [e, decide_eq_false hk] at h
  simp at h
theorem leaf_i {n m : Int} (h : n = m) : V.int .i64 n = V.int .i64 m := by rw [h]
def chgV (c : Chg) : V := .agg [.bool c.takes, .bool c.puts, pathV c.frm, pathV c.to, .int .i64 c.at_, .int .i64 c.gap]
set_option maxRecDepth 100000 in
theorem w_chgOf (o : OpT) (ho : o.Ok) (hne : o.kind ≠ 1 → o.path ≠ []) : Pure Tryz.prog 120 [opV o] (fun x => x = chgV (chgO o)) := by
  refine pure_wk (pure_fn 300 Tryz.func120 rfl rfl rfl fun B => ?_)
  refine ⟨fun g1 => go 300 ?_, fun g1 => go 300 ?_⟩
  · have hk : o.kind = 1 := eq_of g1
    refine ⟨fun q => absurd hk (ne_of' q), fun _ => go 300 ?_⟩
    have e : chgO o = ⟨!decide (o.kind = 1), !decide (o.kind = 2), [], o.path, 0, o.at_⟩ := by unfold chgO; simp [hk]
    rw [e]
    exact ⟨trivial, rfl, rfl, rfl, chgV ⟨!decide (o.kind = 1), !decide (o.kind = 2), [], o.path, 0, o.at_⟩, Wk.agg ⟨.refl _, .refl _, Wk.nil 1, .refl _, .refl _, .refl _, trivial⟩, rfl, rfl⟩
  · have hk : o.kind ≠ 1 := ne_of g1
    refine ⟨fun _ => go 300 ?_, fun q => absurd (eq_of' q) hk⟩
    show CallThen _ _ _ _ _ _
    refine call_pure (w_Parent o.path ho.lt.path (hne hk)) rfl ?_
    rintro x rfl
    have e : chgO o = ⟨!decide (o.kind = 1), !decide (o.kind = 2), o.path.dropLast, o.to, o.path.getLast (hne hk), o.at_⟩ := by unfold chgO; rw [lastP_eq]; simp [hk]
    rw [e]
    exact ⟨trivial, rfl, rfl, rfl, _, Wk.refl _, rfl, rfl⟩

set_option maxRecDepth 100000 in
theorem w_number (c : Chg) (p : List Int) (k : Int) (hp : p.length ≤ 1000000) (hk : -1 ≤ k ∧ k ≤ 10000000) : Pure Tryz.prog 122 [chgV c, pathV p, .int .i64 k] (fun x => x = .int .i64 (c.number p k)) := by
  refine pure_fn 300 Tryz.func122 rfl rfl rfl fun B => ?_
  have h1 := w_pathSame p c.frm hp
  have h2 := w_pathSame p c.to hp
  repeat' first
    | (refine ⟨fun _ => go 300 ?_, fun _ => go 300 ?_⟩)
    | (show CallThen _ _ _ _ _ _; refine call_pure h1 rfl ?_; rintro z rfl)
    | (show CallThen _ _ _ _ _ _; refine call_pure h2 rfl ?_; rintro z rfl)
    | (refine ⟨trivial, rfl, rfl, rfl, leaf_i ?_⟩)
    | (refine ⟨by constructor <;> omega, ?_⟩)
    | fail
  all_goals (unfold Chg.number; try simp_all)
  all_goals (first | (simp [show ¬ (c.gap ≤ k) by omega, show ¬ (c.at_ < k) by omega]; done) | (simp [show ¬ (c.gap ≤ k) by omega]; done) | (simp [show ¬ (c.at_ < k) by omega]; done))

set_option maxRecDepth 100000 in
theorem w_land (c : Chg) (hp : c.frm.length ≤ 1000000) (hk : -1 ≤ c.gap ∧ c.gap ≤ 10000000) : Pure Tryz.prog 121 [chgV c] (fun x => x = .int .i64 c.land) := by
  refine pure_fn 300 Tryz.func121 rfl rfl rfl fun B => ?_
  have h1 := w_pathSame c.frm c.to hp
  repeat' first
    | (refine ⟨fun _ => go 300 ?_, fun _ => go 300 ?_⟩)
    | (show CallThen _ _ _ _ _ _; refine call_pure h1 rfl ?_; rintro z rfl)
    | (refine ⟨trivial, rfl, rfl, rfl, leaf_i ?_⟩)
    | (refine ⟨by constructor <;> omega, ?_⟩)
    | fail
  all_goals (unfold Chg.land; try simp_all)
  all_goals (simp [show ¬ (c.at_ < c.gap) by omega]; done)
end Bow
