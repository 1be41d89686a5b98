/- The library, part 6: SP15, SP16, W39, SP17, W43a, SP19, W46, AE42, AE43, AE44, AE45, AE46, AE47, AE48, AE49, AE50. -/
import Derived.Test.YtpcjbccldpddjaaGreatMe
import Derived.Test.YtpcjbccldpddjaaGreatMd
/- SP15: a tree that was right stays right, in plain Lean. -/
namespace Bow
open Go

theorem rightN_iff (t : Tree) : rightN t = true ↔ t.label.length ≤ 64 ∧ (t.leaf = true → t.subs = []) ∧ (t.leaf = false → t.text = []) ∧ attrsOk none t.attrs = true := by
  unfold rightN headOk
  constructor
  · intro h
    rw [Bool.and_eq_true, Bool.and_eq_true, Bool.and_eq_true] at h
    obtain ⟨⟨h1, h2, h3⟩, h4⟩ := h
    refine ⟨by simp at h1; omega, fun hl => ?_, fun hl => ?_, h4⟩
    · rw [hl] at h2
      cases hs : t.subs with
      | nil => rfl
      | cons a l => rw [hs] at h2; simp at h2
    · rw [hl] at h3
      simpa using h3
  · rintro ⟨h1, h2, h3, h4⟩
    rw [h4, decide_eq_false (by omega : ¬ (64 : Int) < t.label.length)]
    cases hl : t.leaf with
    | false => rw [h3 hl]; simp
    | true => rw [h2 hl]; simp
theorem rightN_subs (t : Tree) (ss : List Tree) (h : rightN t = true) (hl : t.leaf = true → ss = []) : rightN (t.withSubs ss) = true := by
  obtain ⟨h1, h2, h3, h4⟩ := (rightN_iff t).1 h
  refine (rightN_iff _).2 ?_
  obtain ⟨i, lf, b, a, c, us⟩ := t
  exact ⟨h1, hl, h3, h4⟩
theorem rightN_leaf {t : Tree} (h : rightN t = true) (hl : t.leaf = true) : t.subs = [] := ((rightN_iff t).1 h).2.1 hl
theorem rightA_N {t : Tree} (h : t.rightA = true) : rightN t = true := by
  rw [rightA_eq, Bool.and_eq_true] at h
  exact h.1
theorem rightA_subs {t : Tree} (h : t.rightA = true) : ∀ s ∈ t.subs, s.rightA = true := by
  rw [rightA_eq, Bool.and_eq_true, rightsA_all] at h
  exact List.all_eq_true.1 h.2
theorem rightA_mk {t : Tree} (h1 : rightN t = true) (h2 : ∀ s ∈ t.subs, s.rightA = true) : t.rightA = true := by
  rw [rightA_eq, h1, rightsA_all, Bool.true_and]
  exact List.all_eq_true.2 h2
theorem change_rightA {F : Tree → Tree} {y : Tree} : ∀ {p : List Int} {t : Tree}, t.rightA = true → atT t p = some y → (F y).rightA = true → (changeT F t p).rightA = true
  | [], t, _, h, hF => by
    rw [atT] at h
    injection h with h
    subst h
    exact hF
  | i :: p, t, ht, h, hF => by
    rw [atT] at h
    cases hs : subT t i with
    | none => rw [hs] at h; cases h
    | some s =>
      rw [hs] at h
      obtain ⟨h1, h2, h3⟩ := subT_some hs
      have ih := change_rightA (F := F) (p := p) (rightA_subs ht s h3) h hF
      rw [changeT, hs]
      simp only
      refine rightA_mk (rightN_subs t _ (rightA_N ht) fun hl => ?_) fun u hu => ?_
      · rw [rightN_leaf (rightA_N ht) hl] at h3
        cases h3
      · rw [withSubs_subs] at hu
        rcases List.mem_or_eq_of_mem_set hu with hu | rfl
        · exact rightA_subs ht u hu
        · exact ih
theorem ins_rightA (n : Int) {x y : Tree} (hy : y.rightA = true) (hl : y.leaf = false) (hx : x.rightA = true) : (insT n x y).rightA = true := by
  refine rightA_mk (rightN_subs y _ (rightA_N hy) fun h => by rw [hl] at h; cases h) fun u hu => ?_
  unfold insT at hu
  rw [withSubs_subs] at hu
  rcases List.mem_append.1 hu with hu | hu
  · exact rightA_subs hy u (List.mem_of_mem_take hu)
  · rcases List.mem_cons.1 hu with rfl | hu
    · exact hx
    · exact rightA_subs hy u (List.mem_of_mem_drop hu)
theorem del_rightA (n : Int) {y : Tree} (hy : y.rightA = true) : (delT n y).rightA = true := by
  refine rightA_mk (rightN_subs y _ (rightA_N hy) fun h => by rw [rightN_leaf (rightA_N hy) h]; simp) fun u hu => ?_
  unfold delT at hu
  rw [withSubs_subs] at hu
  rcases List.mem_append.1 hu with hu | hu
  · exact rightA_subs hy u (List.mem_of_mem_take hu)
  · exact rightA_subs hy u (List.mem_of_mem_drop hu)
theorem less_ord {k s : List UInt8} (h : Op.bytesLess k s = true) : ordOk (some k) s = true := by
  show (!leS s k) = true
  unfold leS
  rw [less_asymm h, decide_eq_false fun e => less_ne h e.symm]
  rfl
theorem ord_trans {k0 : Option (List UInt8)} {k s : List UInt8} (h1 : ordOk k0 k = true) (h2 : Op.bytesLess k s = true) : ordOk k0 s = true := by
  cases k0 with
  | none => rfl
  | some q => exact less_ord (less_trans (ordOk_less h1) h2)
theorem attrOk_mk {k0 : Option (List UInt8)} {a : List UInt8 × List UInt8} (h1 : keyOk a.1 = true) (h2 : a.2.length ≤ 256) (h3 : ordOk k0 a.1 = true) : attrOk k0 a = true := by
  unfold attrOk
  rw [h1, h3, decide_eq_true (by omega)]
  rfl
theorem attrOk_parts {k0 : Option (List UInt8)} {a : List UInt8 × List UInt8} (h : attrOk k0 a = true) : keyOk a.1 = true ∧ a.2.length ≤ 256 ∧ ordOk k0 a.1 = true := by
  unfold attrOk at h
  simp only [Bool.and_eq_true, decide_eq_true_eq] at h
  exact ⟨h.1, by omega, h.2.2⟩
theorem attrsOk_weak {k0 : Option (List UInt8)} {k : List UInt8} (h : ordOk k0 k = true) : ∀ {l : AttrL}, attrsOk (some k) l = true → attrsOk k0 l = true
  | [], _ => rfl
  | a :: l, hl => by
    rw [attrsOk, Bool.and_eq_true] at hl ⊢
    obtain ⟨h1, h2, h3⟩ := attrOk_parts hl.1
    exact ⟨attrOk_mk h1 h2 (ord_trans h (ordOk_less h3)), hl.2⟩
theorem refA_true_ok (o : OpT) : ∀ {l : AttrL} {k0 : Option (List UInt8)}, attrsOk k0 l = true → attrsOk k0 (refA o true l) = true
  | [], _, _ => rfl
  | a :: l, k0, h => by
    have ih := refA_true_ok o (attrsOk_tail h)
    rw [attrsOk, Bool.and_eq_true] at h
    obtain ⟨h1, h2, h3⟩ := attrOk_parts h.1
    rw [refA]
    simp only [Bool.not_true, Bool.false_and, cond_false, List.nil_append, Bool.true_or]
    cases decide (a.1 = o.key) with
    | true => exact attrsOk_weak h3 ih
    | false =>
      show attrsOk k0 (a :: refA o true l) = true
      rw [attrsOk, h.1, ih]
      rfl
theorem refA_false_ok (o : OpT) (hk : keyOk o.key = true) (hv : o.value.length ≤ 256) : ∀ {l : AttrL} {k0 : Option (List UInt8)}, attrsOk k0 l = true → ordOk k0 o.key = true → attrsOk k0 (refA o false l) = true
  | [], k0, _, ho => by
    show attrsOk k0 [(o.key, o.value)] = true
    rw [attrsOk, attrOk_mk hk hv ho]
    rfl
  | a :: l, k0, h, ho => by
    have ht := attrsOk_tail h
    rw [attrsOk, Bool.and_eq_true] at h
    obtain ⟨h1, h2, h3⟩ := attrOk_parts h.1
    rw [refA]
    cases ha : Op.bytesLess a.1 o.key with
    | true =>
      rw [decide_eq_false (less_ne ha)]
      show attrsOk k0 (a :: refA o false l) = true
      rw [attrsOk, h.1, refA_false_ok o hk hv ht (less_ord ha)]
      rfl
    | false =>
      by_cases he : a.1 = o.key
      · rw [decide_eq_true he]
        show attrsOk k0 ((o.key, o.value) :: refA o true l) = true
        rw [attrsOk, attrOk_mk hk hv ho]
        show attrsOk (some o.key) (refA o true l) = true
        rw [← he]
        exact refA_true_ok o ht
      · rw [decide_eq_false he]
        show attrsOk k0 ((o.key, o.value) :: a :: refA o true l) = true
        have hka : Op.bytesLess o.key a.1 = true := by
          cases hk' : Op.bytesLess o.key a.1 with
          | true => rfl
          | false => exact absurd (less_tri ha hk') he
        rw [attrsOk, attrOk_mk hk hv ho, attrsOk, attrOk_mk h1 h2 (less_ord hka)]
        exact refA_true_ok o ht
theorem withAttrs_rightA {y : Tree} {a : AttrL} (hy : y.rightA = true) (ha : attrsOk none a = true) : (y.withAttrs a).rightA = true := by
  have h1 := rightA_N hy
  have h2 := rightA_subs hy
  obtain ⟨q1, q2, q3, q4⟩ := (rightN_iff y).1 h1
  obtain ⟨i, lf, b, a', c, us⟩ := y
  exact rightA_mk ((rightN_iff _).2 ⟨q1, q2, q3, ha⟩) h2
theorem setAT_rightA {o : OpT} {y : Tree} (hy : y.rightA = true) (hk : keyOk o.key = true) (hv : o.gone = true ∨ o.value.length ≤ 256) : (setAT o y).rightA = true := by
  unfold setAT
  refine withAttrs_rightA hy ?_
  rw [← attr_law o (right_attrs hy)]
  cases hg : o.gone with
  | true => exact refA_true_ok o (right_attrs hy)
  | false => exact refA_false_ok o hk (hv.resolve_left (by rw [hg]; simp)) (right_attrs hy) rfl
theorem relabel_rightA {s : List UInt8} {y : Tree} (hy : y.rightA = true) (hs : s.length ≤ 64) : (relabelT s y).rightA = true := by
  have h1 := rightA_N hy
  have h2 := rightA_subs hy
  obtain ⟨q1, q2, q3, q4⟩ := (rightN_iff y).1 h1
  obtain ⟨i, lf, b, a', c, us⟩ := y
  exact rightA_mk ((rightN_iff _).2 ⟨hs, q2, q3, q4⟩) h2
theorem retext_rightA {l : List PieceT} {y : Tree} (hy : y.rightA = true) (hl : y.leaf = true) : (retextT l y).rightA = true := by
  have h1 := rightA_N hy
  have h2 := rightA_subs hy
  obtain ⟨q1, q2, q3, q4⟩ := (rightN_iff y).1 h1
  obtain ⟨i, lf, b, a', c, us⟩ := y
  exact rightA_mk ((rightN_iff _).2 ⟨q1, q2, fun h => absurd (h.symm.trans hl) (by simp), q4⟩) h2
theorem fresh_rightA {o : OpT} (h : o.label.length ≤ 64) : (freshT o).rightA = true := by
  exact rightA_mk ((rightN_iff _).2 ⟨h, fun _ => rfl, fun _ => rfl, rfl⟩) (fun s hs => by cases hs)
/-- Where a moved node lands. -/
theorem land_of {t x z : Tree} {fr to : List Int} {at_ : Int} (hne : fr ≠ []) (hx : atT t fr = some x) (hw : within fr to = false) (hz : atT t to = some z) (h0 : 0 ≤ at_) (h1 : at_ ≤ z.subs.length) :
    ∃ z', atT (withoutT t fr) (landT fr.dropLast (lastP fr) to at_).1 = some z' ∧ 0 ≤ (landT fr.dropLast (lastP fr) to at_).2 ∧ (landT fr.dropLast (lastP fr) to at_).2 ≤ z'.subs.length ∧ z'.leaf = z.leaf ∧ z'.id = z.id := by
  obtain ⟨y, y1, y2, y3, y4⟩ := at_parent hne hx
  have hlast := lastP_eq hne
  rw [hlast] at y2 y3 y4
  have hw' : within (fr.dropLast ++ [lastP fr]) to = false := by rw [← hlast, List.dropLast_concat_getLast]; exact hw
  exact land_at2 y2 h0 fr.dropLast to t y z y1 y3 hw' hz h1
theorem without_rightA {t x : Tree} {fr : List Int} (hne : fr ≠ []) (hx : atT t fr = some x) (ht : t.rightA = true) : (withoutT t fr).rightA = true := by
  obtain ⟨y, y1, y2, y3, y4⟩ := at_parent hne hx
  exact change_rightA ht y1 (del_rightA _ (right_at ht y1))
theorem change_leaf {F : Tree → Tree} (hF : ∀ y, (F y).leaf = y.leaf) : ∀ (p : List Int) (t : Tree), (changeT F t p).leaf = t.leaf
  | [], t => hF t
  | i :: p, t => by
    rw [changeT]
    cases subT t i with
    | none => rfl
    | some s => exact withSubs_leaf _ _
theorem rightT_parts {t : Tree} (h : rightT t = true) : t.leaf = false ∧ t.rightA = true := by
  unfold rightT at h
  simpa using h
theorem right_applyT {t : Tree} {o : OpT} (h : ValidE t o = 0) : rightT (applyT t o) = true := by
  obtain ⟨hr, hf, _⟩ := valid_right h
  obtain ⟨hl, hA⟩ := rightT_parts hr
  have hins : ∀ n x, ∀ y, (insT n x y).leaf = y.leaf := fun n x y => withSubs_leaf _ _
  have hdel : ∀ n, ∀ y, (delT n y).leaf = y.leaf := fun n y => withSubs_leaf _ _
  have key : (applyT t o).leaf = t.leaf ∧ (applyT t o).rightA = true := by
    cases good_of h with
    | ins y hk hy hl h0 h1 h2 =>
      have e : applyT t o = changeT (insT o.at_ (freshT o)) t o.path := by unfold applyT; rw [hk]; rfl
      rw [e]
      exact ⟨change_leaf (hins _ _) _ _, change_rightA hA hy (ins_rightA _ (right_at hA hy) hl (fresh_rightA h2))⟩
    | del x hk hne hx =>
      have e : applyT t o = withoutT t o.path := by unfold applyT; rw [hk]; rfl
      rw [e]
      exact ⟨change_leaf (hdel _) _ _, without_rightA hne hx hA⟩
    | mov x z hk hne hx hw hz hl h0 h1 =>
      have e : applyT t o = moveT x t o := by unfold applyT; rw [hk, hx]; rfl
      obtain ⟨z', k1, k2, k3, k4, k5⟩ := land_of hne hx hw hz h0 h1
      rw [e, moveT_eq]
      have hwA := without_rightA hne hx hA
      refine ⟨(change_leaf (hins _ _) _ _).trans (change_leaf (hdel _) _ _), change_rightA hwA k1 (ins_rightA _ (right_at hwA k1) (k4.trans hl) (right_at hA hx))⟩
    | att y hk hy h1 h2 =>
      have e : applyT t o = changeT (setAT o) t o.path := by unfold applyT; rw [hk]; rfl
      rw [e]
      exact ⟨change_leaf (fun y => by cases y; rfl) _ _, change_rightA hA hy (setAT_rightA (right_at hA hy) h1 h2)⟩
    | lab y hk hy h2 =>
      have e : applyT t o = changeT (relabelT o.label) t o.path := by unfold applyT; rw [hk]; rfl
      rw [e]
      exact ⟨change_leaf (fun y => by cases y; rfl) _ _, change_rightA hA hy (relabel_rightA (right_at hA hy) h2)⟩
    | edt y hk hy hl he =>
      have e : applyT t o = changeT (retextT o.pieces) t o.path := by unfold applyT; rw [hk]; rfl
      rw [e]
      exact ⟨change_leaf (fun y => by cases y; rfl) _ _, change_rightA hA hy (retext_rightA (right_at hA hy) hl)⟩
  unfold rightT
  rw [key.1, key.2, hl]
  rfl
end Bow
/- SP16: the identities of a tree, counted, in plain Lean. -/
namespace Bow
open Go

mutual
def idsT : Tree → List Int
  | .mk i _ _ _ _ ss => i :: idsTs ss
def idsTs : List Tree → List Int
  | [] => []
  | s :: ss => idsT s ++ idsTs ss
end
theorem idsT_eq (t : Tree) : idsT t = t.id :: idsTs t.subs := by cases t; rw [idsT]; rfl
mutual
theorem idsT_len : ∀ t : Tree, (idsT t).length = t.size
  | .mk i l a b c ss => by rw [idsT, Tree.size, List.length_cons, idsTs_len ss]; omega
theorem idsTs_len : ∀ ss : List Tree, (idsTs ss).length = sizes ss
  | [] => rfl
  | s :: ss => by rw [idsTs, sizes, List.length_append, idsT_len s, idsTs_len ss]
end
theorem idsTs_append : ∀ a b : List Tree, idsTs (a ++ b) = idsTs a ++ idsTs b
  | [], b => by rw [idsTs]; rfl
  | x :: a, b => by rw [List.cons_append, idsTs, idsTs, idsTs_append a b, List.append_assoc]
/-- A measure of rows that adds up. -/
def Adds (m : List Int → Nat) : Prop := ∀ a b, m (a ++ b) = m a + m b
theorem adds_len : Adds List.length := fun _ _ => List.length_append
theorem adds_count (i : Int) : Adds (List.count i) := fun _ _ => List.count_append
section
variable {m : List Int → Nat}
theorem Adds.nil (h : Adds m) : m [] = 0 := by have := h [] []; simp at this; omega
theorem Adds.tree (h : Adds m) (t : Tree) : m (idsT t) = m [t.id] + m (idsTs t.subs) := by rw [idsT_eq, ← h]; rfl
theorem Adds.subs (h : Adds m) (t : Tree) (ss : List Tree) : m (idsT (t.withSubs ss)) + m (idsTs t.subs) = m (idsT t) + m (idsTs ss) := by
  rw [h.tree, h.tree t, withSubs_id, withSubs_subs]
  omega
theorem Adds.set (h : Adds m) {s u : Tree} : ∀ {l : List Tree} {i : Nat}, l[i]? = some s → m (idsTs (l.set i u)) + m (idsT s) = m (idsTs l) + m (idsT u)
  | [], i, q => by simp at q
  | x :: l, 0, q => by
    simp at q
    subst q
    rw [List.set_cons_zero, idsTs, idsTs, h, h]
    omega
  | x :: l, i + 1, q => by
    simp at q
    have := h.set (u := u) (l := l) q
    rw [List.set_cons_succ, idsTs, idsTs, h, h]
    omega
theorem Adds.change (h : Adds m) {F : Tree → Tree} {y : Tree} : ∀ {p : List Int} {t : Tree}, atT t p = some y → m (idsT (changeT F t p)) + m (idsT y) = m (idsT t) + m (idsT (F y))
  | [], t, q => by
    rw [atT] at q
    injection q with q
    subst q
    rw [changeT]
    omega
  | i :: p, t, q => by
    rw [atT] at q
    cases hs : subT t i with
    | none => rw [hs] at q; cases q
    | some s =>
      rw [hs] at q
      have ih := h.change (F := F) (p := p) q
      rw [changeT, hs]
      simp only
      have h1 := h.set (u := changeT F s p) (subT_some hs).2.1
      have h2 := h.subs t (t.subs.set i.toNat (changeT F s p))
      omega
theorem Adds.ins (h : Adds m) (n : Int) (x y : Tree) : m (idsT (insT n x y)) = m (idsT y) + m (idsT x) := by
  have h1 := h.subs y (y.subs.take n.toNat ++ x :: y.subs.drop n.toNat)
  have h2 : m (idsTs (y.subs.take n.toNat ++ x :: y.subs.drop n.toNat)) = m (idsTs y.subs) + m (idsT x) := by
    conv => rhs; rw [← List.take_append_drop n.toNat y.subs]
    rw [idsTs_append, idsTs_append, idsTs, h, h, h]
    omega
  unfold insT
  omega
theorem Adds.del (h : Adds m) {y x : Tree} {i : Int} (q : y.subs[i.toNat]? = some x) : m (idsT (delT i y)) + m (idsT x) = m (idsT y) := by
  have h1 := h.subs y (y.subs.take i.toNat ++ y.subs.drop (i.toNat + 1))
  have h2 : m (idsTs (y.subs.take i.toNat ++ y.subs.drop (i.toNat + 1))) + m (idsT x) = m (idsTs y.subs) := by
    have hl := lt_of_get q
    conv => rhs; rw [← List.take_append_drop i.toNat y.subs]
    rw [idsTs_append, idsTs_append, List.drop_eq_getElem_cons hl, idsTs, h, h, h]
    have : y.subs[i.toNat] = x := by rw [List.getElem?_eq_getElem hl] at q; injection q
    rw [this]
    omega
  unfold delT
  omega
theorem Adds.without (h : Adds m) {t x : Tree} {p : List Int} (hne : p ≠ []) (hx : atT t p = some x) : m (idsT (withoutT t p)) + m (idsT x) = m (idsT t) := by
  obtain ⟨y, y1, y2, y3, y4⟩ := at_parent hne hx
  rw [lastP_eq hne] at y4
  have h1 := h.change (F := delT (lastP p)) y1
  have h2 := h.del y4
  unfold withoutT
  omega
theorem Adds.same (h : Adds m) {F : Tree → Tree} {y t : Tree} {p : List Int} (hF : ∀ y, idsT (F y) = idsT y) (hy : atT t p = some y) : m (idsT (changeT F t p)) = m (idsT t) := by
  have := h.change (F := F) hy
  rw [hF] at this
  omega
theorem ids_fresh (o : OpT) : idsT (freshT o) = [o.id] := by rw [idsT_eq]; rfl
/-- What an operation takes away. -/
def goneT (t : Tree) (o : OpT) : List Int := bif decide (o.kind = 2) then (match atT t o.path with | some x => idsT x | none => []) else []
def moreT (o : OpT) : List Int := bif decide (o.kind = 1) then [o.id] else []
theorem Adds.apply (h : Adds m) {t : Tree} {o : OpT} (hv : ValidE t o = 0) : m (idsT (applyT t o)) + m (goneT t o) = m (idsT t) + m (moreT o) := by
  have h0 := h.nil
  cases good_of hv with
  | ins y hk hy hl h0 h1 h2 =>
    have e : applyT t o = changeT (insT o.at_ (freshT o)) t o.path := by unfold applyT; rw [hk]; rfl
    have e1 : goneT t o = [] := by unfold goneT; rw [hk]; rfl
    have e2 : moreT o = [o.id] := by unfold moreT; rw [hk]; rfl
    have q1 := h.change (F := insT o.at_ (freshT o)) hy
    have q2 := h.ins o.at_ (freshT o) y
    rw [ids_fresh] at q2
    rw [e, e1, e2]
    omega
  | del x hk hne hx =>
    have e : applyT t o = withoutT t o.path := by unfold applyT; rw [hk]; rfl
    have e1 : goneT t o = idsT x := by unfold goneT; rw [hk, hx]; rfl
    have e2 : moreT o = [] := by unfold moreT; rw [hk]; rfl
    have q1 := h.without hne hx
    rw [e, e1, e2]
    omega
  | mov x z hk hne hx hw hz hl h0 h1 =>
    have e : applyT t o = moveT x t o := by unfold applyT; rw [hk, hx]; rfl
    have e1 : goneT t o = [] := by unfold goneT; rw [hk]; rfl
    have e2 : moreT o = [] := by unfold moreT; rw [hk]; rfl
    obtain ⟨z', k1, k2, k3, k4, k5⟩ := land_of hne hx hw hz h0 h1
    have q1 := h.without hne hx
    have q2 := h.change (F := insT (landT o.path.dropLast (lastP o.path) o.to o.at_).2 x) k1
    have q3 := h.ins (landT o.path.dropLast (lastP o.path) o.to o.at_).2 x z'
    rw [e, e1, e2, moveT_eq]
    omega
  | att y hk hy h1 h2 =>
    have e : applyT t o = changeT (setAT o) t o.path := by unfold applyT; rw [hk]; rfl
    have e1 : goneT t o = [] := by unfold goneT; rw [hk]; rfl
    have e2 : moreT o = [] := by unfold moreT; rw [hk]; rfl
    rw [e, e1, e2, h.same (fun y => by cases y; rfl) hy]
  | lab y hk hy h2 =>
    have e : applyT t o = changeT (relabelT o.label) t o.path := by unfold applyT; rw [hk]; rfl
    have e1 : goneT t o = [] := by unfold goneT; rw [hk]; rfl
    have e2 : moreT o = [] := by unfold moreT; rw [hk]; rfl
    rw [e, e1, e2, h.same (fun y => by cases y; rfl) hy]
  | edt y hk hy hl he =>
    have e : applyT t o = changeT (retextT o.pieces) t o.path := by unfold applyT; rw [hk]; rfl
    have e1 : goneT t o = [] := by unfold goneT; rw [hk]; rfl
    have e2 : moreT o = [] := by unfold moreT; rw [hk]; rfl
    rw [e, e1, e2, h.same (fun y => by cases y; rfl) hy]
end
end Bow
/- W39: the reference's Same, IDs. -/
namespace Bow
open Go Go.Proofs

theorem attrs_take {α : Type} {xs ys : List α} {i : Nat} (h1 : i < xs.length) (h2 : i < ys.length) : (xs.drop i = ys.drop i) = (xs[i] = ys[i] ∧ xs.drop (i + 1) = ys.drop (i + 1)) := by
  rw [List.drop_eq_getElem_cons h1, List.drop_eq_getElem_cons h2, List.cons.injEq]

set_option maxRecDepth 100000 in
theorem w_refSameAttrs (xs ys : AttrL) (hl : xs.length ≤ 1000000) : Pure Tryz.prog 32 [.sl 2 (xs.map attrV), .sl 2 (ys.map attrV)] (fun x => x = .bool (decide (xs = ys))) := by
  refine pure_wk (pure_fn 300 Tryz.func32 rfl rfl rfl fun B => ?_)
  refine ⟨fun g1 => go 300 ?_, fun g1 => go 300 ?_⟩
  · have g1 := ne_of' g1
    exact ⟨trivial, rfl, rfl, rfl, leaf_ff (decide_eq_false fun e => g1 (by rw [e]))⟩
  have g1 : xs.length = ys.length := by have := eq_of' g1; simp at this; omega
  show Goes _ _ _ _
  refine goes_iter (ι := Nat) (fun i => i ≤ xs.length ∧ (xs.drop i = ys.drop i ↔ xs = ys)) (fun i => xs.length - i) (fun i => [(5, .int .i64 i), (0, .sl 2 (xs.map attrV)), (1, .sl 2 (ys.map attrV))]) (fun _ => []) 0 300 (fun _ => rfl) (fun _ => rfl) ⟨⟨Nat.zero_le _, by simp⟩, ⟨⟨rfl, rfl⟩, ⟨rfl, rfl⟩, ⟨rfl, rfl⟩, trivial⟩, trivial⟩ ?_
  rintro i ⟨k1, k2⟩ next
  refine ⟨fun hlt => go 300 ?_, fun hge => go 300 ?_⟩
  · have hi : i < xs.length := by simpa using hlt
    have hi' : i < ys.length := by omega
    have hx : (xs.map attrV)[i]? = some (attrV xs[i]) := by simp [hi]
    have hy : (ys.map attrV)[i]? = some (attrV ys[i]) := by simp [hi']
    rw [attrs_take hi hi'] at k2
    show Goes _ _ _ _
    refine goes_draw 300 ⟨Int.natCast_nonneg i, _, hx, Int.natCast_nonneg i, _, hy, ?_⟩
    refine ⟨by kernel_rfl, ?_⟩
    refine ⟨by kernel_rfl, ?_⟩
    refine ⟨fun g2 => go 300 ?_, fun g2 => go 300 ?_⟩
    · refine ⟨trivial, rfl, rfl, rfl, leaf_ff (decide_eq_false fun e => ?_)⟩
      have := (k2.2 e).1
      rw [this] at g2
      simp at g2
    · refine ⟨by constructor <;> omega, ?_⟩
      have he : xs[i] = ys[i] := by
        simp at g2
        exact Prod.ext g2.1 g2.2
      exact next (i + 1) _ _ ⟨⟨hi, by rw [← k2]; exact ⟨fun h => ⟨he, h⟩, fun h => h.2⟩⟩, by omega, ⟨⟨rfl, rfl⟩, ⟨rfl, rfl⟩, ⟨rfl, rfl⟩, trivial⟩, trivial⟩
  · have hi : i = xs.length := by have : xs.length ≤ i := by simpa using hge
                                  omega
    subst hi
    refine ⟨trivial, rfl, rfl, rfl, leaf_tt (decide_eq_true (k2.1 ?_))⟩
    rw [List.drop_eq_nil_of_le (Nat.le_refl _), List.drop_eq_nil_of_le (by omega)]

set_option maxHeartbeats 1000000 in
set_option maxRecDepth 100000 in
theorem w_refSameT (t : Tree) : ∀ u : Tree, t.weight ≤ 1000000 → Pure Tryz.prog 21 [nodeV t, nodeV u] (fun x => x = .bool (sameT true t u)) := by
  induction t using Tree.ind with
  | _ t ih =>
  intro u ht
  have hsl := subs_le_weight t
  have hal := attrs_le_weight t
  have hA := w_refSameAttrs t.attrs u.attrs (by omega)
  have e := sameT_eq true t u
  refine pure_wk (pure_fn 300 Tryz.func21 rfl rfl rfl fun B => ?_)
  repeat' first
    | (refine ⟨fun _ => go 300 ?_, fun _ => go 300 ?_⟩)
    | (show CallThen _ _ _ _ _ _; refine call_pure hA rfl ?_; rintro z rfl)
    | (refine ⟨trivial, rfl, rfl, rfl, leaf_ff ?_⟩)
    | fail
  case h.refine_2.refine_2.refine_2.refine_2.refine_2.refine_2 g1 g2 g3 g4 g5 g6 =>
    have hlen : t.subs.length = u.subs.length := by have := eq_of' g6; rw [subV_len, subV_len] at this; omega
    have e' : sameT true t u = sameTs true t.subs u.subs := by
      rw [e]
      have g1 := eq_of' g1
      simp at g2 g3 g4 g5
      simp [g1, g2, g3, g4, g5]
    show Goes _ _ _ _
    refine goes_iter (ι := Nat) (fun i => i ≤ t.subs.length ∧ sameTs true (t.subs.drop i) (u.subs.drop i) = sameTs true t.subs u.subs) (fun i => t.subs.length - i) (fun i => [(5, .int .i64 i), (2, .ptr (.loc 0) 0), (3, .ptr (.loc 1) 0)]) (fun _ => [some (.box (nodeV t).cells), some (.box (nodeV u).cells)]) 0 300 (fun _ => rfl) (fun _ => rfl) ⟨⟨Nat.zero_le _, rfl⟩, ⟨⟨rfl, rfl⟩, ⟨rfl, rfl⟩, ⟨rfl, rfl⟩, trivial⟩, ⟨⟨rfl, rfl⟩, ⟨rfl, rfl⟩, trivial⟩⟩ ?_
    rintro i ⟨k1, k2⟩ next
    refine ⟨fun hlt => go 300 ?_, fun hge => go 300 ?_⟩
    · have hi : i < t.subs.length := by simpa [subV_eq] using hlt
      have hi' : i < u.subs.length := by omega
      have hx : t.subV[i]? = some (nodeV t.subs[i]) := by simp [subV_eq, hi]
      have hy : u.subV[i]? = some (nodeV u.subs[i]) := by simp [subV_eq, hi']
      have hws := weight_sub (List.getElem_mem hi)
      rw [sameTs_at hi hi'] at k2
      show Goes _ _ _ _
      refine goes_draw 300 ⟨Int.natCast_nonneg i, _, hx, Int.natCast_nonneg i, _, hy, _, ih _ (List.getElem_mem hi) u.subs[i] (by omega), rfl, ?_⟩
      refine ⟨by kernel_rfl, ?_⟩
      refine ⟨fun g => go 300 ?_, fun g => go 300 ?_⟩
      · have g : sameT true t.subs[i] u.subs[i] = false := by simpa using g
        exact ⟨trivial, rfl, rfl, rfl, leaf_ff (by rw [e', ← k2, g]; rfl)⟩
      · have g : sameT true t.subs[i] u.subs[i] = true := by simpa using g
        rw [g, Bool.true_and] at k2
        refine ⟨by constructor <;> omega, ?_⟩
        exact next (i + 1) _ _ ⟨⟨hi, k2⟩, by omega, ⟨⟨rfl, rfl⟩, ⟨rfl, rfl⟩, ⟨rfl, rfl⟩, trivial⟩, ⟨⟨rfl, rfl⟩, ⟨rfl, rfl⟩, trivial⟩⟩
    · have hi : t.subs.length ≤ i := by simpa [subV_eq] using hge
      rw [List.drop_eq_nil_of_le hi, List.drop_eq_nil_of_le (by omega), sameTs] at k2
      exact ⟨trivial, rfl, rfl, rfl, leaf_tt (by rw [e', ← k2])⟩
  case h.refine_2.refine_2.refine_2.refine_2.refine_2.refine_1 g1 g2 g3 g4 g5 g6 =>
    have g6 := ne_of' g6
    rw [subV_len, subV_len] at g6
    cases h : sameT true t u with
    | false => rfl
    | true =>
      rw [e] at h
      simp only [Bool.and_eq_true] at h
      exact absurd (congrArg Nat.cast (sameTs_len h.2.2.2.2.2)) g6
  all_goals (rw [e]; simp_all)

theorem idsTs_drop {ss : List Tree} {i : Nat} (h : i < ss.length) : idsTs (ss.drop i) = idsT ss[i] ++ idsTs (ss.drop (i + 1)) := by
  rw [List.drop_eq_getElem_cons h, idsTs]
def idV (i : Int) : V := .int .u64 i
def idsV (l : List Int) : V := .sl 1 (l.map idV)
end Bow
/- SP17: a list of operations, in plain Lean. -/
namespace Bow
open Go

def zeroT0 : Tree := .mk 0 false [] [] [] []
def allR : Tree → List OpT → Nat → Tree × Nat × Int
  | t, [], i => (t, i, 0)
  | t, o :: l, i => bif decide (ValidE t o = 0) then allR (applyT t o) l (i + 1) else (zeroT0, i, ValidE t o)
def AllR (t : Tree) (l : List OpT) : Tree × Nat × Int := bif rightT t then allR t l 0 else (zeroT0, 0, 2)
def costs : List OpT → Nat
  | [] => 0
  | o :: l => costO o + costs l
theorem zero_weight : zeroT0.weight = 1 := by
  have := weight_eq zeroT0
  simp [attrLen, weights, Tree.label, Tree.text, Tree.attrs, Tree.subs, zeroT0] at this
  exact this
theorem weight_pos (t : Tree) : 1 ≤ t.weight := by rw [weight_eq]; omega
theorem allR_weight : ∀ (l : List OpT) (t : Tree) (i : Nat), (allR t l i).1.weight ≤ t.weight + costs l
  | [], t, i => by rw [allR, costs]; simp
  | o :: l, t, i => by
    rw [allR, costs]
    by_cases h : ValidE t o = 0
    · rw [decide_eq_true h]
      have := allR_weight l (applyT t o) (i + 1)
      have := applyT_weight h
      simp only [cond_true]
      omega
    · rw [decide_eq_false h]
      have := zero_weight
      have := weight_pos t
      simp only [cond_false]
      omega
theorem AllR_weight (t : Tree) (l : List OpT) : (AllR t l).1.weight ≤ t.weight + costs l := by
  unfold AllR
  cases rightT t with
  | true => exact allR_weight l t 0
  | false =>
    have := zero_weight
    have := weight_pos t
    simp only [cond_false]
    omega
theorem valid_of_right {t : Tree} (h : rightT t = true) (o : OpT) : ValidE t o = bif !formedB o then 80 else validE t o := by
  unfold ValidE
  rw [h]
  rfl
theorem costs_le {n k : Nat} : ∀ {l : List OpT}, l.length ≤ k → (∀ o ∈ l, costO o ≤ n) → costs l ≤ k * n
  | [], _, _ => Nat.zero_le _
  | o :: l, hk, h => by
    obtain ⟨k', rfl⟩ : ∃ k', k = k' + 1 := ⟨k - 1, by simp at hk; omega⟩
    have := costs_le (n := n) (k := k') (l := l) (by simpa using hk) fun o' ho => h o' (List.mem_cons_of_mem _ ho)
    have := h o List.mem_cons_self
    rw [costs, Nat.succ_mul]
    omega
end Bow
/- W43a: ApplyAll, the program's and the reference's. -/
namespace Bow
open Go Go.Proofs

def AllV (r : Tree × Nat × Int) : V := .tup [nodeV r.1, .int .i64 r.2.1, .int .i64 r.2.2]
theorem allZ (i : Nat) (e : Int) : ∃ y, Wk (.tup [zeroV .nilsl, .int .i64 i, .int .i64 e]) y ∧ y.pureB = true ∧ y = AllV (zeroT0, i, e) :=
  ⟨_, Wk.tup (ys := [nodeV zeroT0, .int .i64 i, .int .i64 e]) ⟨wk_zero (ss := []) (Wk.nil 6), .refl _, .refl _, trivial⟩, rfl, rfl⟩

set_option maxHeartbeats 1000000 in
set_option maxRecDepth 100000 in
theorem w_refApplyAll (t : Tree) (l : List OpT) (hw : t.weight + costs l ≤ 400000) (hl : l.length ≤ 1000000) (hok : ∀ o ∈ l, o.Ok) : Pure Tryz.prog 22 [nodeV t, opsV l] (fun x => x = AllV (AllR t l)) := by
  refine pure_wk (pure_fn 300 Tryz.func22 rfl rfl rfl fun B => ?_)
  show CallThen _ _ _ _ _ _
  refine call_pure (w_refRightT t (by omega)) rfl ?_
  rintro x rfl
  refine ⟨fun g => go 300 ?_, fun g => go 300 ?_⟩
  · have hr : rightT t = false := by simpa using g
    refine ⟨trivial, rfl, rfl, rfl, ?_⟩
    have e : AllR t l = (zeroT0, 0, 2) := by unfold AllR; rw [hr]; rfl
    rw [e]
    exact allZ 0 2
  have hr : rightT t = true := by simpa using g
  have e : AllR t l = allR t l 0 := by unfold AllR; rw [hr]; rfl
  rw [e]
  show Goes _ _ _ _
  refine goes_iter (ι := Nat × Tree) (fun i => i.1 ≤ l.length ∧ rightT i.2 = true ∧ i.2.weight + costs (l.drop i.1) ≤ 400000 ∧ allR i.2 (l.drop i.1) i.1 = allR t l 0) (fun i => l.length - i.1)
    (fun i => [(7, .int .i64 i.1), (1, opsV l), (2, .ptr (.loc 0) 0), (4, .ptr (.loc 1) 0)]) (fun i => [some (.box (nodeV i.2).cells), some (.box (zeroV .nilsl).cells)]) (0, t) 300 (fun _ => rfl) (fun _ => rfl) ⟨⟨Nat.zero_le _, hr, hw, rfl⟩, ⟨⟨rfl, rfl⟩, ⟨rfl, rfl⟩, ⟨rfl, rfl⟩, ⟨rfl, rfl⟩, trivial⟩, ⟨⟨rfl, rfl⟩, ⟨rfl, rfl⟩, trivial⟩⟩ ?_
  rintro ⟨i, u⟩ ⟨k1, k2, k3, k4⟩ next
  simp only at k1 k2 k3 k4
  refine ⟨fun hlt => go 300 ?_, fun hge => go 300 ?_⟩
  · have hi : i < l.length := by simpa using hlt
    have hx : (l.map opV)[i]? = some (opV l[i]) := by simp [hi]
    rw [List.drop_eq_getElem_cons hi, allR] at k4
    rw [List.drop_eq_getElem_cons hi, costs] at k3
    have hap := w_refApply u l[i] (by omega) (hok _ (List.getElem_mem hi))
    show Goes _ _ _ _
    refine goes_draw 300 ⟨Int.natCast_nonneg i, _, hx, _, hap, rfl, ?_⟩
    refine ⟨by kernel_rfl, ?_⟩
    refine ⟨by kernel_rfl, ?_⟩
    by_cases hv : ValidE u l[i] = 0
    · have e : applyR u l[i] = (applyT u l[i], 0) := by unfold applyR; rw [decide_eq_true hv]; rfl
      rw [decide_eq_true hv] at k4
      have hwt := applyT_weight hv
      rw [e]
      refine ⟨fun g => absurd rfl (ne_of' g), fun _ => go 300 ?_⟩
      refine ⟨by constructor <;> omega, ?_⟩
      show Goes _ _ _ _
      exact next (i + 1, applyT u l[i]) _ _ ⟨⟨hi, right_applyT hv, by simp only; omega, k4⟩, by simp only; omega, ⟨⟨rfl, rfl⟩, ⟨rfl, rfl⟩, ⟨rfl, rfl⟩, ⟨rfl, rfl⟩, trivial⟩, ⟨⟨rfl, rfl⟩, ⟨rfl, rfl⟩, trivial⟩⟩
    · have e : applyR u l[i] = (zeroT [], ValidE u l[i]) := by unfold applyR; rw [decide_eq_false hv]; rfl
      rw [decide_eq_false hv] at k4
      rw [e]
      refine ⟨fun _ => go 300 ?_, fun g => absurd (eq_of' g) hv⟩
      refine ⟨trivial, rfl, rfl, rfl, ?_⟩
      rw [← k4]
      exact allZ i (ValidE u l[i])
  · have hi : i = l.length := by have := not_lt_of hge; simp at this; omega
    subst hi
    rw [List.drop_length, allR] at k4
    refine ⟨trivial, rfl, rfl, rfl, ?_⟩
    rw [← k4]
    exact ⟨_, Wk.refl _, rfl, by simp [AllV]; rfl⟩

set_option maxHeartbeats 1000000 in
set_option maxRecDepth 100000 in
theorem w_ApplyAll (t : Tree) (l : List OpT) (hw : t.weight + costs l ≤ 400000) (hl : l.length ≤ 1000000) (hok : ∀ o ∈ l, o.Ok) : Pure Tryz.prog 31 [nodeV t, opsV l] (fun x => x = AllV (AllR t l)) := by
  refine pure_wk (pure_fn 300 Tryz.func31 rfl rfl rfl fun B => ?_)
  show CallThen _ _ _ _ _ _
  refine call_pure (w_RightT t (by omega)) rfl ?_
  rintro x rfl
  refine ⟨fun g => go 300 ?_, fun g => go 300 ?_⟩
  · have hr : rightT t = false := by simpa using g
    refine ⟨trivial, rfl, rfl, rfl, ?_⟩
    have e : AllR t l = (zeroT0, 0, 2) := by unfold AllR; rw [hr]; rfl
    rw [e]
    exact allZ 0 2
  have hr : rightT t = true := by simpa using g
  have e : AllR t l = allR t l 0 := by unfold AllR; rw [hr]; rfl
  rw [e]
  show Goes _ _ _ _
  refine goes_iter (ι := Nat × Tree) (fun i => i.1 ≤ l.length ∧ rightT i.2 = true ∧ i.2.weight + costs (l.drop i.1) ≤ 400000 ∧ allR i.2 (l.drop i.1) i.1 = allR t l 0) (fun i => l.length - i.1)
    (fun i => [(16, .int .i64 i.1), (15, .int .i64 (l.map opV).length), (14, opsV l), (1, opsV l), (2, .ptr (.loc 0) 0), (4, .ptr (.loc 1) 0)]) (fun i => [some (.box (nodeV i.2).cells), some (.box (zeroV .nilsl).cells)]) (0, t) 300 (fun _ => rfl) (fun _ => rfl) ⟨⟨Nat.zero_le _, hr, hw, rfl⟩, ⟨⟨rfl, rfl⟩, ⟨rfl, rfl⟩, ⟨rfl, rfl⟩, ⟨rfl, rfl⟩, ⟨rfl, rfl⟩, ⟨rfl, rfl⟩, trivial⟩, ⟨⟨rfl, rfl⟩, ⟨rfl, rfl⟩, trivial⟩⟩ ?_
  rintro ⟨i, u⟩ ⟨k1, k2, k3, k4⟩ next
  simp only at k1 k2 k3 k4
  refine ⟨fun hlt => go 300 ?_, fun hge => go 300 ?_⟩
  · have hi : i < l.length := by simpa using hlt
    have hx : (l.map opV)[i]? = some (opV l[i]) := by simp [hi]
    have ho := hok _ (List.getElem_mem hi)
    have hvr := valid_of_right k2 l[i]
    rw [List.drop_eq_getElem_cons hi, allR] at k4
    rw [List.drop_eq_getElem_cons hi, costs] at k3
    refine ⟨Int.natCast_nonneg i, _, hx, ?_⟩
    show CallThen _ _ _ _ _ _
    refine call_pure (w_Formed l[i] ho.lt ho.each) rfl ?_
    rintro x rfl
    refine ⟨fun g => go 300 ?_, fun g => go 300 ?_⟩
    · rw [g] at hvr
      have hvr : ValidE u l[i] = validE u l[i] := hvr
      show CallThen _ _ _ _ _ _
      refine call_pure (w_valid u l[i] (by omega) ho) rfl ?_
      rintro x rfl
      rw [← hvr]
      by_cases hv : ValidE u l[i] = 0
      · rw [decide_eq_true hv] at k4
        have hwt := applyT_weight hv
        refine ⟨fun g => absurd hv (ne_of' g), fun _ => go 300 ?_⟩
        show CallThen _ _ _ _ _ _
        refine call_pure (w_applyT u l[i] (by omega) ho hv) rfl ?_
        rintro x rfl
        refine ⟨by constructor <;> omega, ?_⟩
        show Goes _ _ _ _
        exact next (i + 1, applyT u l[i]) _ _ ⟨⟨hi, right_applyT hv, by simp only; omega, k4⟩, by simp only; omega, ⟨⟨rfl, rfl⟩, ⟨rfl, rfl⟩, ⟨rfl, rfl⟩, ⟨rfl, rfl⟩, ⟨rfl, rfl⟩, ⟨rfl, rfl⟩, trivial⟩, ⟨⟨rfl, rfl⟩, ⟨rfl, rfl⟩, trivial⟩⟩
      · rw [decide_eq_false hv] at k4
        refine ⟨fun _ => go 300 ?_, fun g => absurd (eq_of' g) hv⟩
        refine ⟨trivial, rfl, rfl, rfl, ?_⟩
        rw [← k4]
        exact allZ i (ValidE u l[i])
    · rw [g] at hvr
      have hvr : ValidE u l[i] = 80 := hvr
      rw [hvr] at k4
      refine ⟨fun _ => go 300 ?_, fun g => absurd (eq_of' g) (by decide)⟩
      refine ⟨trivial, rfl, rfl, rfl, ?_⟩
      rw [← k4]
      exact allZ i 80
  · have hi : i = l.length := by have := not_lt_of hge; simp at this; omega
    subst hi
    rw [List.drop_length, allR] at k4
    refine ⟨trivial, rfl, rfl, rfl, ?_⟩
    rw [← k4]
    exact ⟨_, Wk.refl _, rfl, by simp [AllV]; rfl⟩

end Bow
/- SP19: what takes nothing in leaves a tree within the limits, in plain Lean. -/
namespace Bow
open Go

theorem depths_le_iff {n : Nat} : ∀ {ss : List Tree}, depths ss ≤ n ↔ ∀ s ∈ ss, 1 + s.depth ≤ n
  | [] => by rw [depths]; simp
  | s :: ss => by
    rw [depths, List.forall_mem_cons, ← depths_le_iff]
    omega
theorem longs_le_iff {n : Nat} : ∀ {ss : List Tree}, longs ss ≤ n ↔ ∀ s ∈ ss, s.long ≤ n
  | [] => by rw [longs]; simp
  | s :: ss => by
    rw [longs, List.forall_mem_cons, ← longs_le_iff]
    omega
theorem withSubs_len (t : Tree) (ss : List Tree) : (t.withSubs ss).len = t.len := by cases t; rfl
theorem change_depth {F : Tree → Tree} (hF : ∀ y, (F y).depth ≤ y.depth) : ∀ (p : List Int) (t : Tree), (changeT F t p).depth ≤ t.depth
  | [], t => hF t
  | i :: p, t => by
    rw [changeT]
    cases hs : subT t i with
    | none => exact Nat.le_refl _
    | some s =>
      have ih := change_depth hF p s
      simp only
      rw [depth_eq, depth_eq t, withSubs_subs, depths_le_iff]
      have ht := (depths_le_iff (n := depths t.subs)).1 (Nat.le_refl _)
      intro u hu
      rcases List.mem_or_eq_of_mem_set hu with hu | rfl
      · exact ht u hu
      · have := ht s (subT_some hs).2.2
        omega
theorem change_long {F : Tree → Tree} (hF : ∀ y, (F y).long ≤ y.long) : ∀ (p : List Int) (t : Tree), (changeT F t p).long ≤ t.long
  | [], t => hF t
  | i :: p, t => by
    rw [changeT]
    cases hs : subT t i with
    | none => exact Nat.le_refl _
    | some s =>
      have ih := change_long hF p s
      simp only
      rw [long_eq, long_eq t, withSubs_subs, withSubs_len]
      have ht := (longs_le_iff (n := longs t.subs)).1 (Nat.le_refl _)
      have : longs (t.subs.set i.toNat (changeT F s p)) ≤ longs t.subs := longs_le_iff.2 fun u hu => by
        rcases List.mem_or_eq_of_mem_set hu with hu | rfl
        · exact ht u hu
        · have := ht s (subT_some hs).2.2
          omega
      omega
theorem del_mem {n : Int} {y u : Tree} (h : u ∈ (delT n y).subs) : u ∈ y.subs := by
  unfold delT at h
  rw [withSubs_subs] at h
  rcases List.mem_append.1 h with h | h
  · exact List.mem_of_mem_take h
  · exact List.mem_of_mem_drop h
theorem del_depth (n : Int) (y : Tree) : (delT n y).depth ≤ y.depth := by
  rw [depth_eq, depth_eq y, depths_le_iff]
  exact fun u hu => (depths_le_iff (n := depths y.subs)).1 (Nat.le_refl _) u (del_mem hu)
theorem del_long (n : Int) (y : Tree) : (delT n y).long ≤ y.long := by
  rw [long_eq, long_eq y]
  have h1 : (delT n y).len = y.len := withSubs_len _ _
  have h2 : longs (delT n y).subs ≤ longs y.subs := longs_le_iff.2 fun u hu => (longs_le_iff (n := longs y.subs)).1 (Nat.le_refl _) u (del_mem hu)
  omega
theorem setA_gone_len (o : OpT) (hg : o.gone = true) (l : AttrL) : attrLen (setA o l) ≤ attrLen l := by
  unfold setA midA
  rw [hg]
  show attrLen (l.take (posK o.key l) ++ ([] ++ l.drop (posK o.key l + (bif hasK o.key l then 1 else 0)))) ≤ attrLen l
  rw [List.nil_append, attrLen_append]
  have e : attrLen l = attrLen (l.take (posK o.key l)) + attrLen (l.drop (posK o.key l)) := by rw [← attrLen_append, List.take_append_drop]
  have e2 : attrLen (l.drop (posK o.key l + (bif hasK o.key l then 1 else 0))) ≤ attrLen (l.drop (posK o.key l)) := by
    rw [← List.drop_drop]
    cases hasK o.key l with
    | false => simp
    | true =>
      cases l.drop (posK o.key l) with
      | nil => simp
      | cons a l => rw [attrLen_cons]; simp only [cond_true, List.drop_succ_cons, List.drop_zero]; omega
  omega
/-- What takes nothing in. -/
def lessO (o : OpT) : Bool := decide (o.kind = 2) || (decide (o.kind = 5) || (decide (o.kind = 4) && o.gone))
structure LessT (m t : Tree) : Prop where
  size : m.size ≤ t.size
  depth : m.depth ≤ t.depth
  long : m.long ≤ t.long
theorem LessT.refl (t : Tree) : LessT t t := ⟨Nat.le_refl _, Nat.le_refl _, Nat.le_refl _⟩
theorem LessT.trans {a b c : Tree} (h : LessT a b) (k : LessT b c) : LessT a c := ⟨Nat.le_trans h.size k.size, Nat.le_trans h.depth k.depth, Nat.le_trans h.long k.long⟩
theorem less_apply {t : Tree} {o : OpT} (h : ValidE t o = 0) (hl : lessO o = true) : LessT (applyT t o) t := by
  have hs := adds_len.apply h
  have hm : o.kind ≠ 1 → (applyT t o).size ≤ t.size := fun hk => by
    have e : moreT o = [] := by unfold moreT; rw [decide_eq_false hk]; rfl
    have hs : (idsT (applyT t o)).length + (goneT t o).length = (idsT t).length + (moreT o).length := hs
    rw [e, idsT_len, idsT_len] at hs
    simp at hs
    omega
  cases good_of h with
  | ins y hk => unfold lessO at hl; rw [hk] at hl; cases hl
  | mov x z hk => unfold lessO at hl; rw [hk] at hl; cases hl
  | edt y hk => unfold lessO at hl; rw [hk] at hl; cases hl
  | del x hk hne hx =>
    have e : applyT t o = withoutT t o.path := by unfold applyT; rw [hk]; rfl
    have h1 := hm (by rw [hk]; decide)
    rw [e] at h1 ⊢
    exact ⟨h1, change_depth (del_depth _) _ _, change_long (del_long _) _ _⟩
  | att y hk hy h1 h2 =>
    have hg : o.gone = true := by
      unfold lessO at hl
      rw [hk] at hl
      exact hl
    have e : applyT t o = changeT (setAT o) t o.path := by unfold applyT; rw [hk]; rfl
    have h1 := hm (by rw [hk]; decide)
    rw [e] at h1 ⊢
    refine ⟨h1, change_depth (fun y => ?_) _ _, change_long (fun y => ?_) _ _⟩
    · have : (setAT o y).subs = y.subs := by cases y; rfl
      rw [depth_eq, depth_eq y, this]
      exact Nat.le_refl _
    · have q1 : (setAT o y).subs = y.subs := by cases y; rfl
      have q2 := setA_gone_len o hg y.attrs
      have q3 : (setAT o y).len = y.text.length + attrLen (setA o y.attrs) := by cases y; rfl
      have q4 : y.len = y.text.length + attrLen y.attrs := by cases y; rfl
      rw [long_eq, long_eq y, q1]
      omega
  | lab y hk hy h2 =>
    have e : applyT t o = changeT (relabelT o.label) t o.path := by unfold applyT; rw [hk]; rfl
    have h1 := hm (by rw [hk]; decide)
    rw [e] at h1 ⊢
    refine ⟨h1, change_depth (fun y => ?_) _ _, change_long (fun y => ?_) _ _⟩
    · have : (relabelT o.label y).subs = y.subs := by cases y; rfl
      rw [depth_eq, depth_eq y, this]
      exact Nat.le_refl _
    · have q1 : (relabelT o.label y).subs = y.subs := by cases y; rfl
      have q3 : (relabelT o.label y).len = y.len := by cases y; rfl
      rw [long_eq, long_eq y, q1, q3]
      exact Nat.le_refl _
theorem less_all : ∀ {l : List OpT} {t : Tree} {i : Nat}, (∀ o ∈ l, lessO o = true) → (allR t l i).2.2 = 0 → LessT (allR t l i).1 t
  | [], t, i, _, _ => LessT.refl t
  | o :: l, t, i, hl, h => by
    rw [allR] at h ⊢
    by_cases hv : ValidE t o = 0
    · rw [decide_eq_true hv] at h ⊢
      exact (less_all (fun o' ho => hl o' (List.mem_cons_of_mem _ ho)) h).trans (less_apply hv (hl o List.mem_cons_self))
    · rw [decide_eq_false hv] at h
      exact absurd h hv
theorem less_AllR {l : List OpT} {t : Tree} (hl : ∀ o ∈ l, lessO o = true) (h : (AllR t l).2.2 = 0) : LessT (AllR t l).1 t := by
  unfold AllR at h ⊢
  cases hr : rightT t with
  | false => rw [hr] at h; cases h
  | true => rw [hr] at h; exact less_all hl h
end Bow
/- W46: After, the program's and the reference's; the laws' functions LimitsAfter, LimitsLess. -/
namespace Bow
open Go Go.Proofs

theorem check_less {m t : Tree} (h : LessT m t) (hc : checkE t = 0) : checkE m = 0 := by
  have h1 := h.size
  have h2 := h.depth
  have h3 := h.long
  unfold checkE at hc ⊢
  split at hc
  · cases hc
  · split at hc
    · cases hc
    · split at hc
      · cases hc
      · rw [if_neg (by omega), if_neg (by omega), if_neg (by omega)]
def AfterR (t : Tree) (l : List OpT) : Tree × Int := bif decide ((AllR t l).2.2 = 0) then (bif decide (checkE (AllR t l).1 = 0) then ((AllR t l).1, 0) else (zeroT0, checkE (AllR t l).1)) else (zeroT0, (AllR t l).2.2)
theorem afterZ (e : Int) : ∃ y, Wk (.tup [zeroV .nilsl, .int .i64 e]) y ∧ y.pureB = true ∧ y = ApplyV (zeroT0, e) :=
  ⟨_, Wk.tup (ys := [nodeV zeroT0, .int .i64 e]) ⟨wk_zero (ss := []) (Wk.nil 6), .refl _, trivial⟩, rfl, rfl⟩

set_option maxRecDepth 100000 in
theorem w_After (t : Tree) (l : List OpT) (hw : t.weight + costs l ≤ 400000) (hl : l.length ≤ 1000000) (hok : ∀ o ∈ l, o.Ok) : Pure Tryz.prog 19 [nodeV t, opsV l] (fun x => x = ApplyV (AfterR t l)) := by
  have hrw := AllR_weight t l
  refine pure_wk (pure_fn 300 Tryz.func19 rfl rfl rfl fun B => ?_)
  show CallThen _ _ _ _ _ _
  refine call_pure (w_ApplyAll t l hw hl hok) rfl ?_
  rintro x rfl
  refine ⟨fun g => go 300 ?_, fun g => go 300 ?_⟩
  · have g : (AllR t l).2.2 = 0 := eq_of g
    show CallThen _ _ _ _ _ _
    refine call_pure (w_Check (AllR t l).1 (by omega)) rfl ?_
    rintro x rfl
    refine ⟨fun g2 => go 300 ?_, fun g2 => go 300 ?_⟩
    · have g2 : checkE (AllR t l).1 ≠ 0 := ne_of' g2
      refine ⟨trivial, rfl, rfl, rfl, ?_⟩
      have e : AfterR t l = (zeroT0, checkE (AllR t l).1) := by unfold AfterR; rw [decide_eq_true g, decide_eq_false g2]; rfl
      rw [e]
      exact afterZ _
    · have g2 : checkE (AllR t l).1 = 0 := eq_of' g2
      refine ⟨trivial, rfl, rfl, rfl, ?_⟩
      have e : AfterR t l = ((AllR t l).1, 0) := by unfold AfterR; rw [decide_eq_true g, decide_eq_true g2]; rfl
      rw [e]
      exact ⟨_, Wk.refl _, rfl, rfl⟩
  · have g : (AllR t l).2.2 ≠ 0 := ne_of g
    refine ⟨fun g2 => go 300 ?_, fun g2 => absurd (eq_of' g2) g⟩
    refine ⟨trivial, rfl, rfl, rfl, ?_⟩
    have e : AfterR t l = (zeroT0, (AllR t l).2.2) := by unfold AfterR; rw [decide_eq_false g]; rfl
    rw [e]
    exact afterZ _

set_option maxRecDepth 100000 in
theorem w_refAfter (t : Tree) (l : List OpT) (hw : t.weight + costs l ≤ 400000) (hl : l.length ≤ 1000000) (hok : ∀ o ∈ l, o.Ok) : Pure Tryz.prog 20 [nodeV t, opsV l] (fun x => x = ApplyV (AfterR t l)) := by
  have hrw := AllR_weight t l
  refine pure_wk (pure_fn 300 Tryz.func20 rfl rfl rfl fun B => ?_)
  show CallThen _ _ _ _ _ _
  refine call_pure (w_refApplyAll t l hw hl hok) rfl ?_
  rintro x rfl
  refine ⟨fun g => go 300 ?_, fun g => go 300 ?_⟩
  · have g : (AllR t l).2.2 = 0 := eq_of g
    show CallThen _ _ _ _ _ _
    refine call_pure (w_refCheck (AllR t l).1 (by omega)) rfl ?_
    rintro x rfl
    refine ⟨fun g2 => go 300 ?_, fun g2 => go 300 ?_⟩
    · have g2 : checkE (AllR t l).1 ≠ 0 := ne_of' g2
      refine ⟨trivial, rfl, rfl, rfl, ?_⟩
      have e : AfterR t l = (zeroT0, checkE (AllR t l).1) := by unfold AfterR; rw [decide_eq_true g, decide_eq_false g2]; rfl
      rw [e]
      exact afterZ _
    · have g2 : checkE (AllR t l).1 = 0 := eq_of' g2
      refine ⟨trivial, rfl, rfl, rfl, ?_⟩
      have e : AfterR t l = ((AllR t l).1, 0) := by unfold AfterR; rw [decide_eq_true g, decide_eq_true g2]; rfl
      rw [e]
      exact ⟨_, Wk.refl _, rfl, rfl⟩
  · have g : (AllR t l).2.2 ≠ 0 := ne_of g
    refine ⟨fun g2 => go 300 ?_, fun g2 => absurd (eq_of' g2) g⟩
    refine ⟨trivial, rfl, rfl, rfl, ?_⟩
    have e : AfterR t l = (zeroT0, (AllR t l).2.2) := by unfold AfterR; rw [decide_eq_false g]; rfl
    rw [e]
    exact afterZ _

theorem after_weight (t : Tree) (l : List OpT) : (AfterR t l).1.weight ≤ t.weight + costs l := by
  have h := AllR_weight t l
  have h1 := zero_weight
  have h2 := weight_pos t
  unfold AfterR
  cases decide ((AllR t l).2.2 = 0) with
  | false => simp only [cond_false]; omega
  | true =>
    cases decide (checkE (AllR t l).1 = 0) with
    | false => simp only [cond_true, cond_false]; omega
    | true => exact h
theorem light_list_ok {l : List OpT} {n m : Nat} (hL : LightL l n m) (hm : m ≤ 1000) : (∀ o ∈ l, o.Ok) ∧ costs l ≤ n * (2 + 4 * m) :=
  ⟨fun o ho => by
    obtain ⟨h1, h2⟩ := hL.ops o ho
    exact ⟨Lt_mono h1 (by omega), by omega⟩,
  costs_le hL.len fun o ho => by
    obtain ⟨h1, h2⟩ := hL.ops o ho
    have := h1.label
    have := h1.key
    have := h1.value
    unfold costO
    omega⟩

set_option maxRecDepth 100000 in
theorem w_LimitsAfter (t : Tree) (l : List OpT) (_hlen : l.length ≤ maxLen) : Pure Tryz.prog 8 [nodeV t, opsV l] (fun x => x = .bool true) := by
  refine pure_wk (pure_fn 300 Tryz.func8 rfl rfl rfl fun B => ?_)
  show CallThen _ _ _ _ _ _
  refine call_pure (w_Weight t 1500 (by decide)) rfl ?_
  rintro x ⟨w, rfl, w1, w2, w3⟩
  refine ⟨fun g => go 300 ?_, fun g => go 300 ?_⟩
  · show CallThen _ _ _ _ _ _
    refine call_pure w_works16 rfl ?_
    rintro x rfl
    exact ⟨trivial, rfl, rfl, rfl, leaf_b rfl⟩
  have g : (w : Int) ≤ 1500 := not_lt_of g
  have hw : t.weight ≤ 1500 := by have := w3 (by omega); omega
  show CallThen _ _ _ _ _ _
  refine call_pure (w_LightList l 20 300 (by decide) (by decide)) rfl ?_
  rintro x ⟨b, rfl, hb⟩
  refine ⟨fun g => go 300 ?_, fun g => go 300 ?_⟩
  · show CallThen _ _ _ _ _ _
    refine call_pure w_works16 rfl ?_
    rintro x rfl
    exact ⟨trivial, rfl, rfl, rfl, leaf_b rfl⟩
  have g : b = true := by simpa using g
  have hL := hb g
  have hn := hL.len
  obtain ⟨hok, hcost⟩ := light_list_ok hL (by decide)
  have hrw := after_weight t l
  show CallThen _ _ _ _ _ _
  refine call_pure (w_After t l (by omega) (by omega) hok) rfl ?_
  rintro x rfl
  show CallThen _ _ _ _ _ _
  refine call_pure (w_refAfter t l (by omega) (by omega) hok) rfl ?_
  rintro x rfl
  refine ⟨fun _ => go 300 ?_, fun g => absurd rfl (ne_of g)⟩
  show CallThen _ _ _ _ _ _
  refine call_pure (w_refSameT (AfterR t l).1 (AfterR t l).1 (by omega)) rfl ?_
  rintro x rfl
  refine ⟨fun _ => go 300 ?_, fun g => absurd ((sameT_refl true (AfterR t l).1).symm.trans g) (by decide)⟩
  show CallThen _ _ _ _ _ _
  refine call_pure w_works16 rfl ?_
  rintro x rfl
  exact ⟨trivial, rfl, rfl, rfl, leaf_b rfl⟩

theorem less_after {t : Tree} {l : List OpT} (hl : ∀ o ∈ l, lessO o = true) (hc : checkE t = 0) : (AllR t l).2.2 = (AfterR t l).2 := by
  unfold AfterR
  by_cases h : (AllR t l).2.2 = 0
  · have := check_less (less_AllR hl h) hc
    rw [decide_eq_true h, decide_eq_true this]
    exact h
  · rw [decide_eq_false h]
    rfl

set_option maxHeartbeats 1000000 in
set_option maxRecDepth 100000 in
theorem w_LimitsLess (t : Tree) (l : List OpT) (_hlen : l.length ≤ maxLen) : Pure Tryz.prog 9 [nodeV t, opsV l] (fun x => x = .bool true) := by
  refine pure_wk (pure_fn 300 Tryz.func9 rfl rfl rfl fun B => ?_)
  show CallThen _ _ _ _ _ _
  refine call_pure (w_Weight t 1500 (by decide)) rfl ?_
  rintro x ⟨w, rfl, w1, w2, w3⟩
  refine ⟨fun g => go 300 ?_, fun g => go 300 ?_⟩
  · show CallThen _ _ _ _ _ _
    refine call_pure w_works16 rfl ?_
    rintro x rfl
    exact ⟨trivial, rfl, rfl, rfl, leaf_b rfl⟩
  have g : (w : Int) ≤ 1500 := not_lt_of g
  have hw : t.weight ≤ 1500 := by have := w3 (by omega); omega
  show CallThen _ _ _ _ _ _
  refine call_pure (w_LightList l 20 300 (by decide) (by decide)) rfl ?_
  rintro x ⟨b, rfl, hb⟩
  refine ⟨fun g => go 300 ?_, fun g => go 300 ?_⟩
  · show CallThen _ _ _ _ _ _
    refine call_pure w_works16 rfl ?_
    rintro x rfl
    exact ⟨trivial, rfl, rfl, rfl, leaf_b rfl⟩
  have g : b = true := by simpa using g
  have hL := hb g
  have hn := hL.len
  obtain ⟨hok, hcost⟩ := light_list_ok hL (by decide)
  show CallThen _ _ _ _ _ _
  refine call_pure (w_Check t (by omega)) rfl ?_
  rintro x rfl
  refine ⟨fun g => go 300 ?_, fun g => go 300 ?_⟩
  · show CallThen _ _ _ _ _ _
    refine call_pure w_works16 rfl ?_
    rintro x rfl
    exact ⟨trivial, rfl, rfl, rfl, leaf_b rfl⟩
  have hc : checkE t = 0 := eq_of' g
  show Goes _ _ _ _
  refine goes_iter (ι := Nat) (fun i => i ≤ l.length ∧ ∀ o ∈ l.take i, lessO o = true) (fun i => l.length - i) (fun i => [(5, .int .i64 i), (1, opsV l), (2, .ptr (.loc 0) 0)]) (fun _ => [some (.box (nodeV t).cells)]) 0 300 (fun _ => rfl) (fun _ => rfl) ⟨⟨Nat.zero_le _, by simp⟩, ⟨⟨rfl, rfl⟩, ⟨rfl, rfl⟩, ⟨rfl, rfl⟩, trivial⟩, ⟨⟨rfl, rfl⟩, trivial⟩⟩ ?_
  rintro i ⟨k1, k2⟩ next
  refine ⟨fun hlt => go 300 ?_, fun hge => go 300 ?_⟩
  · have hi : i < l.length := by simpa using hlt
    have hx : (l.map opV)[i]? = some (opV l[i]) := by simp [hi]
    have step : lessO l[i] = true → ∀ o ∈ l.take (i + 1), lessO o = true := fun h o ho => by
      rw [List.take_succ_eq_append_getElem hi] at ho
      rcases List.mem_append.1 ho with ho | ho
      · exact k2 o ho
      · rw [List.mem_singleton] at ho
        rw [ho]
        exact h
    refine ⟨Int.natCast_nonneg i, _, hx, ?_⟩
    refine ⟨fun g1 => go 300 ?_, fun g1 => go 300 ?_⟩
    case refine_2 =>
      have g1 : l[i].kind = 2 := eq_of' g1
      refine ⟨by constructor <;> omega, ?_⟩
      show Goes _ _ _ _
      exact next (i + 1) _ _ ⟨⟨hi, step (by unfold lessO; rw [g1]; rfl)⟩, by omega, ⟨⟨rfl, rfl⟩, ⟨rfl, rfl⟩, ⟨rfl, rfl⟩, trivial⟩, ⟨⟨rfl, rfl⟩, trivial⟩⟩
    refine ⟨fun g2 => go 300 ?_, fun g2 => go 300 ?_⟩
    case refine_2 =>
      have g2 : l[i].kind = 5 := eq_of' g2
      refine ⟨by constructor <;> omega, ?_⟩
      show Goes _ _ _ _
      exact next (i + 1) _ _ ⟨⟨hi, step (by unfold lessO; rw [g2]; rfl)⟩, by omega, ⟨⟨rfl, rfl⟩, ⟨rfl, rfl⟩, ⟨rfl, rfl⟩, trivial⟩, ⟨⟨rfl, rfl⟩, trivial⟩⟩
    refine ⟨fun g3 => go 300 ?_, fun g3 => go 300 ?_⟩
    · show CallThen _ _ _ _ _ _
      refine call_pure w_works16 rfl ?_
      rintro x rfl
      exact ⟨trivial, rfl, rfl, rfl, leaf_b rfl⟩
    have g3 : l[i].kind = 4 := eq_of' g3
    refine ⟨Int.natCast_nonneg i, _, hx, ?_⟩
    refine ⟨fun g4 => go 300 ?_, fun g4 => go 300 ?_⟩
    · show CallThen _ _ _ _ _ _
      refine call_pure w_works16 rfl ?_
      rintro x rfl
      exact ⟨trivial, rfl, rfl, rfl, leaf_b rfl⟩
    · have g4 : l[i].gone = true := by simpa using g4
      refine ⟨by constructor <;> omega, ?_⟩
      show Goes _ _ _ _
      exact next (i + 1) _ _ ⟨⟨hi, step (by unfold lessO; rw [g3, g4]; rfl)⟩, by omega, ⟨⟨rfl, rfl⟩, ⟨rfl, rfl⟩, ⟨rfl, rfl⟩, trivial⟩, ⟨⟨rfl, rfl⟩, trivial⟩⟩
  · have hi : i = l.length := by have := not_lt_of hge; simp at this; omega
    subst hi
    rw [List.take_length] at k2
    show CallThen _ _ _ _ _ _
    refine call_pure (w_refApplyAll t l (by omega) (by omega) hok) rfl ?_
    rintro x rfl
    show CallThen _ _ _ _ _ _
    refine call_pure (w_After t l (by omega) (by omega) hok) rfl ?_
    rintro x rfl
    refine ⟨fun _ => go 300 ?_, fun g => absurd (less_after k2 hc) (ne_of g)⟩
    show CallThen _ _ _ _ _ _
    refine call_pure w_works16 rfl ?_
    rintro x rfl
    exact ⟨trivial, rfl, rfl, rfl, leaf_b rfl⟩
end Bow
/- AE42: nil in a row of cells as own memory; own slices cut ahead; a pointer into own memory is not nil. -/
namespace Bow
open Go

section
variable {c : Cx} {E : Env} {T : Heap} {ops : Array Oper} {i : Nat} {rest : List Nat} {k : List Item} {o : Oper}
theorem convL_get (m : List Nat) (cs : List V) (j : Nat) : (V.convL m cs)[j]? = cs[j]?.map (V.conv m) := by
  rw [V.convL_eq, List.getElem?_map]
theorem convL_set (m : List Nat) (cs : List V) (j : Nat) (x : V) : V.convL m (cs.set j x) = (V.convL m cs).set j (x.conv m) := by
  rw [V.convL_eq, V.convL_eq, List.map_set]

/-- A nil slice in a box, as own memory. -/
theorem goes_ownCell {todo : List Item} {cs : List V} (kb j sz : Nat) (hk : lget T kb = some (some (.box cs))) (hj : cs[j]? = some .nilsl) (h : Goes c todo E (List.set (T ++ [some (HObj.vec 0 sz [])]) kb (some (HObj.box (cs.set j (.osl (.loc T.length) 0 0 0)))))) : Goes c todo E T := by
  rw [lget_eq] at hk
  refine goes_step fun w β H m a b cs0 hs _ _ _ => ?_
  obtain ⟨β', H', k1, k2, k3⟩ := hs.newNil 0 sz none
  have hk2 : (T ++ [some (HObj.vec 0 sz [])])[kb]? = some (some (.box cs)) := by rw [List.getElem?_append_left (lt_of_get hk)]; exact hk
  obtain ⟨r, hr, hH⟩ := k1.at hk2
  have hob := k1.hrel.obj r _ hH
  have hfr : Fr w β' H' w β' (H'.set r (some ((HObj.box (cs.set j (.osl (.loc T.length) 0 0 0))).conv (m ++ [H.length])))) := Fr.swap hH trivial
  have hrel : HRel w β' (H'.set r (some ((HObj.box (cs.set j (.osl (.loc T.length) 0 0 0))).conv (m ++ [H.length])))) := by
    refine k1.hrel.swap hH trivial ?_
    simp only [HObj.conv]
    cases hβ : β' r with
    | none => trivial
    | nil => rw [hβ] at hob; exact hob
    | blk bb N =>
      rw [hβ] at hob
      obtain ⟨vs, e, q1, q2, q3, q4⟩ := hob
      refine ⟨vs, e, q1, q2, by rw [convL_set, List.length_set]; exact q3, fun i x v hi hv => ?_⟩
      rw [convL_set, List.getElem?_set] at hi
      split at hi
      · rename_i hji
        subst hji
        split at hi
        · injection hi with hi
          subst hi
          have h0 := q4 j .nilsl v (by rw [convL_get, hj]; rfl) hv
          cases h0
          exact k3.mono hfr
        · cases hi
      · exact (q4 i x v hi hv).mono hfr
  have hset := k1.setAt (o' := some (.box (cs.set j (.osl (.loc T.length) 0 0 0)))) (w' := w) hr (fun o1 e1 => by
      injection e1 with e1
      subst e1
      have hm : m.length = T.length := hs.mlen
      have hsc := hs.scT kb _ hk
      show V.scL _ _
      rw [V.scL_iff]
      have hsc' := (V.scL_iff _ _).1 hsc
      intro v hv
      rcases List.mem_or_eq_of_mem_set hv with hv | hv
      · exact V.sc_mono (by simp; omega) v (hsc' v hv)
      · subst hv
        show T.length < (m ++ [H.length]).length
        simp only [List.length_append, List.length_singleton]
        omega)
    (fun hm => absurd hm (k1.notD hk2 (by simp))) hfr hrel
  exact ⟨w, β', _, m ++ [H.length], a, todo, ⟨E, _, c.B, c.D⟩, .refl _ _, hset, k2.trans hfr, h⟩

/-- An own slice, cut ahead of its elements from the h-th on. -/
theorem goes_cutlo {t e : TypeId} {x lo : Operand} {kk : IntKind} {ti : TypeInfo} {kn g off l sz h : Nat} {xs : List V} (n : Nat) (ho : lget ops.toList i = some o) (hg : o.guard = none) (hop : o.op = .slice t x (some lo) none none) (hx : opd E x = .osl (.loc kn) g off l) (hh : opd E lo = .int kk h) (ht : tyU c.P t = some (.slice e)) (hi' : tyI c.P e = some ti) (hsz : ti.size = sz)
    (hk : lget T kn = some (some (.vec g sz xs))) (hle : h ≤ l)
    (hn : putE c.nt o.dst (.osl (.loc kn) g (off + h) (l - h)) E False fun E' => evp c n (.inRegion ops rest :: k) E' T) : Goes c (.inRegion ops (i :: rest) :: k) E T := by
  rw [lget_eq] at hk
  refine goes_opTo n ho hg hop (fun o hop w β H m a hs => ?_) (fun cl h => by cases h) hn
  have hv := opd_rep hs x
  obtain ⟨r, hr, hH⟩ := hs.at hk
  simp only [hx, V.conv, Ref.conv, hr] at hv
  simp only [HObj.conv] at hH
  have e2 := rep_int (m := m) (by have := opd_rep hs lo; rwa [hh] at this)
  have hvec2 : ∀ sz2 xs2, H[r]? = some (some (.vec g sz2 xs2)) → sz2 = sz ∧ xs2 = xs := fun sz2 xs2 h2 => by
    rw [hH] at h2
    injection h2 with h2
    injection h2 with h2
    injection h2 with _ e1 e2
    exact ⟨e1.symm, e2.symm⟩
  generalize hq : a.eval x = q at hv
  have hrun : ∀ (ad : Option Addr) (cap : Nat), q = .slice ad l cap → l ≤ cap → (execOp a.eval o).run c.P w = .ok (.value (.slice (if cap - h = 0 then ad else Option.map (fun x => x.add (h * sz)) ad) (l - h) (cap - h))) w := by
    intro ad cap hqe hlc
    subst hqe
    have hhc : h ≤ cap := by omega
    simp [execOp, hop, hq, e2, Instr.sliceAt, Instr.slice, Instr.sliceBounds, Instr.sliceBound, asIntOf, run_underlying (tyU_sound ht), run_sizeOf' (tyI_sound hi'), hsz, hle]
    by_cases hch : cap = h
    · simp [hch]
    · rw [if_neg hch, if_neg (by omega)]
  cases hv with
  | oslNil _ _ sz2 xs2 ad hH' hβ =>
    obtain ⟨rfl, rfl⟩ := hvec2 _ _ hH'
    obtain rfl : h = 0 := by omega
    refine ⟨_, _, w, β, H, m, hrun ad 0 rfl (Nat.le_refl _), .inl rfl, hs, Fr.refl w β H, ?_, List.prefix_refl _⟩
    simp only [V.conv, Ref.conv, hr]
    exact .oslNil r g sz2 xs2 _ hH hβ
  | oslBlk _ _ _ _ sz2 xs2 b N ad cap hH' hβ hl hN hcap ha hlen =>
    obtain ⟨rfl, rfl⟩ := hvec2 _ _ hH'
    refine ⟨_, _, w, β, H, m, hrun ad cap rfl hl, .inl rfl, hs, Fr.refl w β H, ?_, List.prefix_refl _⟩
    simp only [V.conv, Ref.conv, hr]
    refine .oslBlk r g (off + h) (l - h) sz2 xs2 b N _ _ hH hβ (by omega) (by rw [show off + h + (cap - h) = off + cap by omega]; exact hN) (by omega) (fun hc => ?_) (by omega)
    rw [if_neg (by omega), ha (by omega)]
    simp [Addr.add, Nat.add_mul]
  | oslStale _ _ _ _ g' sz' xs' _ hH' hg =>
    rw [hH] at hH'
    injection hH' with hH'
    injection hH' with hH'
    injection hH' with e0 _ _
    omega
  | oslDead _ _ _ _ _ hd => rw [hH] at hd; cases hd

/-- A pointer into own memory is not nil. -/
theorem goes_nilE {x : Operand} {kn g sz ix off : Nat} {xs : List V} (n : Nat) (ho : lget ops.toList i = some o) (hg : o.guard = none) (hop : o.op = .nilCheck x) (hx : opd E x = .eptr (.loc kn) g ix off) (hk : lget T kn = some (some (.vec g sz xs)))
    (hn : putE c.nt o.dst (.eptr (.loc kn) g ix off) E False fun E' => evp c n (.inRegion ops rest :: k) E' T) : Goes c (.inRegion ops (i :: rest) :: k) E T := by
  rw [lget_eq] at hk
  refine goes_opTo n ho hg hop (fun o hop w β H m a hs => ?_) (fun cl h => by cases h) hn
  have hv := opd_rep hs x
  obtain ⟨r, hr, hH⟩ := hs.at hk
  simp only [hx, V.conv, Ref.conv, hr] at hv
  simp only [HObj.conv] at hH
  generalize hq : a.eval x = q at hv
  cases hv with
  | eptrLive _ _ _ _ sz2 xs2 b N hH' hβ hi =>
    refine ⟨_, _, w, β, H, m, by simp [execOp, hop, hq]; rfl, .inl rfl, hs, Fr.refl w β H, ?_, List.prefix_refl _⟩
    simp only [V.conv, Ref.conv, hr]
    exact .eptrLive r g ix off sz2 xs2 b N hH' hβ hi
  | eptrStale _ _ _ _ g' sz' xs' _ hH' hg =>
    rw [hH] at hH'
    injection hH' with hH'
    injection hH' with hH'
    injection hH' with e0 _ _
    omega
  | eptrDead _ _ _ _ _ hd => rw [hH] at hd; cases hd
end

/-- A function's contract, its pure result said less closely. -/
theorem fun_wk {P : Program} {f : FuncId} {T : Heap} {args : List V} {Q : V → Heap → Prop} (h : Fun P f T args fun x T' => ∃ y, Wk x y ∧ x.pureB = true ∧ y.pureB = true ∧ Q y T') : Fun P f T args Q := by
  unfold Fun at *
  refine ⟨h.1, fun w β H m B vals cs hs hl hr => ?_⟩
  obtain ⟨x, T', v, w', β', H', m', fr, ⟨y, q1, q2, q3, q4⟩, k1, k2, k3, k4⟩ := h.2 w β H m B vals cs hs hl hr
  rw [pure_conv _ _ q2] at k3
  exact ⟨y, T', v, w', β', H', m', fr, q4, k1, k2, by rw [pure_conv _ _ q3]; exact q1 _ _ _ _ k3, k4⟩
end Bow
/- AE43: own memory that stands elsewhere, read: its length, an element's place, what lies there; pointers held against nil; a range over a function that holds own objects. -/
namespace Bow
open Go

section
variable {c : Cx} {E : Env} {T : Heap} {ops : Array Oper} {i : Nat} {rest : List Nat} {k : List Item} {o : Oper}

theorem goes_lenA {t e : TypeId} {x : Operand} {r g off l sz : Nat} {xs : List V} (n : Nat) (ho : lget ops.toList i = some o) (hg : o.guard = none) (hop : o.op = .call { callee := .builtin .len, args := #[x], argTypes := #[t] }) (hx : opd E x = .osl (.abs r) g off l)
    (ht : tyU c.P t = some (.slice e)) (hi : r ∉ c.imps) (hB : c.B r = some (.vec g sz xs)) (h : putE c.nt o.dst (.int .i64 l) E False fun E' => evp c n (.inRegion ops rest :: k) E' T) : Goes c (.inRegion ops (i :: rest) :: k) E T := by
  refine goes_opTo n ho hg hop (OpTo.still fun o hop w β H m a hs => ⟨.int .i64 l, ?_, .int _ _⟩) (fun cl h => by cases h) h
  have hr := opd_rep hs x
  have hH : H[r]? = some (some (.vec g sz xs)) := hs.baseAt hi hB
  simp only [hx, V.conv, Ref.conv] at hr
  generalize hq : a.eval x = q at hr
  cases hr with
  | oslNil => simp [execOp, hop, resolve, invoke, builtin, Builtin.len_, hq, run_underlying (tyU_sound ht), goInt]
  | oslBlk => simp [execOp, hop, resolve, invoke, builtin, Builtin.len_, hq, run_underlying (tyU_sound ht), goInt]
  | oslStale _ _ _ _ g' sz' xs' _ hH' hg =>
    rw [hH] at hH'
    injection hH' with hH'
    injection hH' with hH'
    injection hH' with e0 _ _
    omega
  | oslDead _ _ _ _ _ hd => rw [hH] at hd; cases hd

theorem goes_indexA {t e : TypeId} {x ix : Operand} {r g off l sz : Nat} {xs : List V} {kk : IntKind} {j : Int} {ti : TypeInfo} (n : Nat) (ho : lget ops.toList i = some o) (hg : o.guard = none) (hop : o.op = .indexAddr t x ix) (hx : opd E x = .osl (.abs r) g off l) (hix : opd E ix = .int kk j)
    (ht : tyU c.P t = some (.slice e)) (hti : tyI c.P e = some ti) (hsz : (Nat.beq sz ti.size && Nat.ble 1 sz) = true) (hi : r ∉ c.imps) (hB : c.B r = some (.vec g sz xs)) (h0 : 0 ≤ j) (hl : j < l)
    (h : putE c.nt o.dst (.eptr (.abs r) g (off + j.toNat) 0) E False fun E' => evp c n (.inRegion ops rest :: k) E' T) : Goes c (.inRegion ops (i :: rest) :: k) E T := by
  simp only [Bool.and_eq_true] at hsz
  have hsz := Nat.eq_of_beq_eq_true hsz.1
  refine goes_opTo n ho hg hop (OpTo.still fun o hop w β H m a hs => ?_) (fun cl h => by cases h) h
  have h1 := opd_rep hs x
  have h2 := opd_rep hs ix
  have hH : H[r]? = some (some (.vec g sz xs)) := hs.baseAt hi hB
  simp only [hx, V.conv, Ref.conv] at h1
  simp only [hix] at h2
  have e2 := rep_int h2
  generalize hq : a.eval x = q at h1
  cases h1 with
  | oslNil _ _ _ _ _ hH' hβ => omega
  | oslBlk _ _ _ _ sz' xs' b N ad cap hH' hβ hl' hN hcap ha hlen =>
    rw [hH] at hH'
    injection hH' with hH'
    injection hH' with hH'
    injection hH' with _ e3 e4
    subst e3 e4
    have := ha (by omega)
    subst this
    refine ⟨.pointer (some ⟨b, (off + j.toNat) * sz, none⟩), ?_, ?_⟩
    · have : (⟨b, off * sz, none⟩ : Addr).add (j.toNat * sz) = ⟨b, (off + j.toNat) * sz, none⟩ := by rw [add_none, Nat.add_mul]
      simp [execOp, hop, hq, e2, Instr.indexAt, asIntOf, run_underlying (tyU_sound ht), h0, hl, run_sizeOf' (tyI_sound hti), ← hsz, this]
    · simp only [V.conv, Ref.conv]
      exact .eptrLive r g _ 0 sz xs b N hH hβ (by omega)
  | oslStale _ _ _ _ g' sz' xs' _ hH' hg =>
    rw [hH] at hH'
    injection hH' with hH'
    injection hH' with hH'
    injection hH' with e0 _ _
    omega
  | oslDead _ _ _ _ _ hd => rw [hH] at hd; cases hd

theorem goes_loadA {t : TypeId} {x : Operand} {r g ix off sz : Nat} {xs : List V} {y : V} (n : Nat) (ho : lget ops.toList i = some o) (hg : o.guard = none) (hop : o.op = .load t x) (hx : opd E x = .eptr (.abs r) g ix off)
    (hi : r ∉ c.imps) (hB : c.B r = some (.vec g sz xs)) (hy : xs[ix]? = some y) (h : partK c.P t y.cells off False fun u => putE c.nt o.dst u E False fun E' => evp c n (.inRegion ops rest :: k) E' T) : Goes c (.inRegion ops (i :: rest) :: k) E T := by
  rcases partK_sound h with h | ⟨u, hu, hrun⟩
  · exact h.elim
  refine goes_opTo n ho hg hop (OpTo.still fun o hop w β H m a hs => ?_) (fun cl h => by cases h) hu
  have hp := opd_rep hs x
  have hH : H[r]? = some (some (.vec g sz xs)) := hs.baseAt hi hB
  simp only [hx, V.conv, Ref.conv] at hp
  generalize hq : a.eval x = q at hp
  cases hp with
  | eptrLive _ _ _ _ sz' xs' b N hH' hβ hi =>
    rw [hH] at hH'
    injection hH' with hH'
    injection hH' with hH'
    injection hH' with _ e1 e2
    subst e1 e2
    have := hs.hrel.obj r _ hH
    rw [hβ] at this
    obtain ⟨vs, e, _, h1, h2, h3, h4, h5, h6⟩ := this
    have hyl : y.cells.length = sz := (h5 y (List.mem_of_getElem? hy)).1
    have hbd : ∀ j, j < sz → ix * sz + j < vs.size := fun j hj => by
      have : (ix + 1) * sz ≤ xs.length * sz := Nat.mul_le_mul_right _ hi
      rw [Nat.add_mul] at this
      omega
    have hcell : ∀ j, j < y.cells.length → w.cell? ((⟨b, ix * sz, none⟩ : Addr).add j) = some (vs.getD (ix * sz + j) Go.undef) := fun j hj => by
      have e1 : (⟨b, ix * sz, none⟩ : Addr).add j = ⟨b, ix * sz + j, none⟩ := by unfold Addr.add; split <;> simp_all
      rw [e1, cell_of_row w b _ vs e (0, 0) h1]
      have := hbd j (by omega)
      simp [this]
    obtain ⟨v, k1, k2⟩ := hrun w ⟨b, ix * sz, none⟩ (fun j => vs.getD (ix * sz + j) Go.undef) hcell
    refine ⟨v, ?_, k2 w β H m fun j x' hj => ?_⟩
    · have e1 : (⟨b, ix * sz, none⟩ : Addr).add off = ⟨b, ix * sz + off, none⟩ := by unfold Addr.add; split <;> simp_all
      rw [e1] at k1
      simp [execOp, hop, Instr.loadAt, Instr.sureAddr, hq, k1]
    · have hjl := lt_of_get hj
      have hjv := hbd j (by omega)
      have := h6 ix y j x' vs[ix * sz + j] hy hj (Array.getElem?_eq_getElem hjv)
      rw [conv_of_rep m _ this]
      simpa [hjv] using this
  | eptrStale _ _ _ _ g' sz' xs' _ hH' hg =>
    rw [hH] at hH'
    injection hH' with hH'
    injection hH' with hH'
    injection hH' with e0 _ _
    omega
  | eptrDead _ _ _ _ _ hd => rw [hH] at hd; cases hd

/-! ### Pointers held against nil -/
theorem run_ptreq {P : Program} {t e : TypeId} (ht : P.underlying t = some (.pointer e)) (a : Option Addr) (w : World) : (binOp .eql t (.pointer a) (.pointer none)).run P w = .ok (.bool a.isNone) w ∧ (binOp .neq t (.pointer a) (.pointer none)).run P w = .ok (.bool (!a.isNone)) w := by
  have heq : (Op.equal t (.pointer a) (.pointer none)).run P w = .ok a.isNone w := by
    unfold Op.equal Op.maxDepth Op.equalIn
    cases a <;> simp [Sem.run_bind, run_underlying ht]
  constructor
  · unfold binOp
    simp only [Sem.run_bind, heq]
    simp
  · unfold binOp
    simp only [Sem.run_bind, heq]
    simp
theorem goes_nileqP {t t' e : TypeId} {x : Operand} (n : Nat) (ho : lget ops.toList i = some o) (hg : o.guard = none) (hop : o.op = .binOp .eql t x (.const (.pointer none)) t') (hx : opd E x = .nilp) (ht : tyU c.P t = some (.pointer e))
    (h : putE c.nt o.dst .tt E False fun E' => evp c n (.inRegion ops rest :: k) E' T) : Goes c (.inRegion ops (i :: rest) :: k) E T := by
  refine goes_opTo n ho hg hop (OpTo.still fun o hop w β H m a hs => ⟨.bool true, ?_, .tt⟩) (fun cl h => by cases h) h
  have hr := opd_rep hs x
  simp only [hx, V.conv] at hr
  generalize hq : a.eval x = q at hr
  cases hr
  have e2 : a.eval (.const (.pointer none)) = .pointer none := rfl
  have hgd : (eqGuard .eql t x (.const (.pointer none)) (.pointer none) (.pointer none)).run c.P w = .ok () w := by simp [eqGuard]
  simp only [execOp, hop, hq, e2, Sem.run_bind, hgd, Result.andThen_ok, (run_ptreq (tyU_sound ht) none w).1]
  rfl
theorem goes_nilneP {t t' e : TypeId} {x : Operand} (n : Nat) (ho : lget ops.toList i = some o) (hg : o.guard = none) (hop : o.op = .binOp .neq t x (.const (.pointer none)) t') (hx : opd E x = .nilp) (ht : tyU c.P t = some (.pointer e))
    (h : putE c.nt o.dst .ff E False fun E' => evp c n (.inRegion ops rest :: k) E' T) : Goes c (.inRegion ops (i :: rest) :: k) E T := by
  refine goes_opTo n ho hg hop (OpTo.still fun o hop w β H m a hs => ⟨.bool false, ?_, .ff⟩) (fun cl h => by cases h) h
  have hr := opd_rep hs x
  simp only [hx, V.conv] at hr
  generalize hq : a.eval x = q at hr
  cases hr
  have e2 : a.eval (.const (.pointer none)) = .pointer none := rfl
  have hgd : (eqGuard .neq t x (.const (.pointer none)) (.pointer none) (.pointer none)).run c.P w = .ok () w := by simp [eqGuard]
  simp only [execOp, hop, hq, e2, Sem.run_bind, hgd, Result.andThen_ok, (run_ptreq (tyU_sound ht) none w).2]
  rfl
theorem goes_ptrP {t t' e : TypeId} {x : Operand} {kb off : Nat} {cs : List V} (n : Nat) (ho : lget ops.toList i = some o) (hg : o.guard = none) (hop : o.op = .binOp .eql t x (.const (.pointer none)) t') (hx : opd E x = .ptr (.loc kb) off) (hk : lget T kb = some (some (.box cs))) (ht : tyU c.P t = some (.pointer e))
    (h : putE c.nt o.dst .ff E False fun E' => evp c n (.inRegion ops rest :: k) E' T) : Goes c (.inRegion ops (i :: rest) :: k) E T := by
  rw [lget_eq] at hk
  refine goes_opTo n ho hg hop (OpTo.still fun o hop w β H m a hs => ⟨.bool false, ?_, .ff⟩) (fun cl h => by cases h) h
  have hr := opd_rep hs x
  obtain ⟨r, hrm, hH⟩ := hs.at hk
  simp only [hx, V.conv, Ref.conv, hrm] at hr
  generalize hq : a.eval x = q at hr
  cases hr with
  | ptrLive _ _ b N cs' hH' hβ =>
    have e2 : a.eval (.const (.pointer none)) = .pointer none := rfl
    have hgd : (eqGuard .eql t x (.const (.pointer none)) (.pointer (some ⟨b, off, none⟩)) (.pointer none)).run c.P w = .ok () w := by simp [eqGuard]
    simp only [execOp, hop, hq, e2, Sem.run_bind, hgd, Result.andThen_ok, (run_ptreq (tyU_sound ht) (some ⟨b, off, none⟩) w).1]
    rfl
  | ptrDead _ _ _ hd => rw [hH] at hd; cases hd
end
end Bow
/- AE44: regions that draw their order and hold a call that hands back own memory. -/
namespace Bow
open Go

/-- A call that hands back a slice of own memory, into a reserved name. -/
theorem fact_call_make {c : Cx} {ops : Array Oper} {i : Nat} {o : Oper} {E : Env} {T : Heap} {gs : List Tmp} {f : Operand} {args : Array Operand} {ts : Array TypeId} {g : FuncId} {first cap : List V} {p sz : Nat} {xs : List V} (ho : ops[i]? = some o) (hg : Guarded ops o E gs true)
    (hop : o.op = .call { callee := .value f, args := args, argTypes := ts }) (hf : opd E f = .fn (.func g) first cap) (ha : V.pureL (first ++ args.toList.map (opd E) ++ cap) = true) (hd : T[p]? = some (some (.vec 0 0 [])))
    (h : Fun c.P g [] (first ++ args.toList.map (opd E) ++ cap) fun x T' => ∃ g0, x = .osl (.loc 0) g0 0 xs.length ∧ T' = [some (.vec g0 sz xs)]) :
    Fact c ops i E T ⟨o.dst, gs ++ tmpsOf o.op.operands.toList, [], .osl (.loc p) 2 0 xs.length, [(p, some (.vec 2 sz xs))], some p⟩ := by
  intro E' T' e1 e2 e3 w β H m a b cs rest k hs b1 b2 b4
  obtain ⟨q, q1, q2, q3⟩ := b4 p rfl
  have hag := opd_agree (E := E) (E' := E') (xs := o.op.operands.toList) fun t ht => e2 t (List.mem_append_right _ ht)
  rw [hop] at hag
  have hf' : opd E' f = .fn (.func g) first cap := by rw [hag f (by simp [Op.operands, Call.operands])]; exact hf
  have ha' : args.toList.map (opd E') = args.toList.map (opd E) := List.map_congr_left fun z hz => hag z (by simp [Op.operands, Call.operands]; exact .inr (by simpa using hz))
  obtain ⟨va, vc, hq, hl, hr⟩ := fn_rep hs hf' args
  rw [ha'] at hl hr
  unfold Fun at h
  obtain ⟨hen, h⟩ := h
  have hs0 : SRel [] 0 w β H [] ⟨[], [], fun r => (H[r]?).getD none, []⟩ bare := by
    refine ⟨hs.hrel, rfl, fun k => by simp [lk, V.conv]; exact .undef _, rfl, List.nodup_nil, by simp, rfl, fun r h _ => ?_, fun r h1 => ?_, by simp, by simp, by simp, rfl, by simp⟩
    · simp [h]
    · simp [List.getElem?_eq_none h1]
  obtain ⟨x, T1, v, w', β', H', m', fr, ⟨g0, rfl, rfl⟩, k1, k2, k3, k4, k5, k6⟩ := h w β H [] _ _ (b.atR a (.inRegion ops (i :: rest) :: k) :: cs) hs0 hl (fun j x v hj hv => by
    have h1 := hr j x v hj hv
    have hx := pureL_mem' _ ha x (List.mem_of_getElem? hj)
    rw [pure_conv _ _ hx] at h1 ⊢
    exact h1)
  have hm1 : m'.length = 1 := k1.mlen
  obtain ⟨r', rfl⟩ : ∃ r', m' = [r'] := by
    match m', hm1 with
    | [r'], _ => exact ⟨r', rfl⟩
  have hr' : H'[r']? = some (some (.vec g0 sz xs)) := k1.loc 0 r' _ rfl rfl
  have hr'l := lt_of_get hr'
  have hnew : H.length ≤ r' := by
    rcases Nat.lt_or_ge r' H.length with h1 | h1
    · exfalso
      obtain ⟨o1, ho1, _⟩ := k2.evo r' _ h1 hr'
      have h2 : (H[r']?).getD none = none := k1.own 0 r' (Nat.zero_le _) rfl
      rw [ho1] at h2
      cases h2
    · exact h1
  have hql := hs.lt q1
  have hqr : q ≠ r' := fun e => by omega
  have hHq : H[q]? = some (some (.vec 0 0 [])) := hs.loc p q _ q1 (q3.trans hd)
  have hlen : H.length ≤ H'.length := k2.len
  have hbase : ∀ r, r < H'.length → r ≠ r' → H'[r]? = some ((H[r]?).getD none) := fun r hr hne => k1.base r hr (by simpa using hne)
  have hold : ∀ r, r < H.length → H'[r]? = H[r]? := fun r hr => by
    rw [hbase r (Nat.lt_of_lt_of_le hr hlen) (by omega)]
    simp [hr]
  have hH'q : H'[q]? = some (some (.vec 0 0 [])) := by rw [hold q hql]; exact hHq
  have hβ'q : β' q = .none := k2.virt q hql q2
  have hob := k1.hrel.obj r' _ hr'
  obtain ⟨H2, hH2⟩ : ∃ H2 : Heap, H2 = (H'.set r' none).set q (some (.vec 2 sz xs)) := ⟨_, rfl⟩
  obtain ⟨β2, hβ2⟩ : ∃ β2 : Nat → Loc, β2 = upd β' q (β' r') := ⟨_, rfl⟩
  have hβq : β2 q = β' r' := by rw [hβ2]; exact upd_same _ _ _
  have hβn : ∀ r, r ≠ q → β2 r = β' r := fun r hr => by rw [hβ2]; exact upd_ne hr
  have hH2l : H2.length = H'.length := by rw [hH2]; simp
  have hH2q : H2[q]? = some (some (.vec 2 sz xs)) := by rw [hH2]; exact List.getElem?_set_self (by simp; omega)
  have hH2r : H2[r']? = some none := by rw [hH2, List.getElem?_set_ne hqr, List.getElem?_set_self hr'l]
  have hH2n : ∀ r, r ≠ q → r ≠ r' → H2[r]? = H'[r]? := fun r h1 h2 => by rw [hH2, List.getElem?_set_ne (fun e => h1 e.symm), List.getElem?_set_ne (fun e => h2 e.symm)]
  have hcase : ∀ (r : Nat) (o : HObj), H2[r]? = some (some o) → (r = q ∧ o = .vec 2 sz xs) ∨ (r ≠ q ∧ r ≠ r' ∧ H'[r]? = some (some o)) := fun r o hr => by
    by_cases h1 : r = q
    · subst h1
      rw [hH2q] at hr
      injection hr with hr
      injection hr with hr
      exact .inl ⟨rfl, hr.symm⟩
    · by_cases h2 : r = r'
      · subst h2
        rw [hH2r] at hr
        cases hr
      · rw [hH2n r h1 h2] at hr
        exact .inr ⟨h1, h2, hr⟩
  have f : Fr0 w' β' H' w' β2 H2 := by
    refine ⟨rfl, rfl, rfl, Nat.le_refl _, by rw [hH2l]; exact Nat.le_refl _, ?_, fun _ _ _ => rfl, ?_, fun r hr => hβn r (hr.ne hH'q (fun h => h))⟩
    · intro r o' _ ho'
      rcases hcase r o' ho' with ⟨rfl, rfl⟩ | ⟨h1, _, h3⟩
      · exact ⟨_, hH'q, ⟨Nat.zero_le _, fun e => by omega⟩, fun hn => absurd hβ'q hn⟩
      · exact ⟨o', h3, Evo.refl _, fun _ _ => hβn r h1⟩
    · rintro bb ⟨r, M, ⟨o', hl'⟩, hb⟩
      rcases hcase r o' hl' with ⟨rfl, _⟩ | ⟨h1, _, h3⟩
      · rw [hβq] at hb
        exact .inr ⟨r', M, ⟨_, hr'⟩, hb⟩
      · rw [hβn r h1] at hb
        exact .inr ⟨r, M, ⟨_, h3⟩, hb⟩
  have hrel : HRel w' β2 H2 := by
    refine k1.hrel.step0 f ?_ ?_
    · intro r o' ho'
      rcases hcase r o' ho' with ⟨rfl, rfl⟩ | ⟨h1, _, h3⟩
      · refine .inr ?_
        rw [hβq]
        cases hb : β' r' with
        | none => trivial
        | nil => rw [hb] at hob; exact hob
        | blk bb N =>
          rw [hb] at hob
          obtain ⟨vs, e, _, c2, c3, c4, c5, c6, c7⟩ := hob
          exact ⟨vs, e, tyG_two _, c2, c3, c4, c5, c6, fun i x j c v h1 h2 h3 => (c7 i x j c v h1 h2 h3).mono0 f⟩
      · exact .inl ⟨h3, hβn r h1, fun _ _ _ => rfl⟩
    · rintro r s bb M M' ⟨o1, h1⟩ ⟨o2, h2⟩ hb hb'
      rcases hcase r o1 h1 with ⟨rfl, _⟩ | ⟨n1, n2, l1⟩
      · rcases hcase s o2 h2 with ⟨rfl, _⟩ | ⟨n3, n4, l2⟩
        · rfl
        · rw [hβq] at hb
          rw [hβn s n3] at hb'
          exact absurd (k1.hrel.inj r' s bb M M' ⟨_, hr'⟩ ⟨_, l2⟩ hb hb').symm n4
      · rcases hcase s o2 h2 with ⟨rfl, _⟩ | ⟨n3, n4, l2⟩
        · rw [hβq] at hb'
          rw [hβn r n1] at hb
          exact absurd (k1.hrel.inj r r' bb M M' ⟨_, l1⟩ ⟨_, hr'⟩ hb hb') n2
        · rw [hβn r n1] at hb
          rw [hβn s n3] at hb'
          exact k1.hrel.inj r s bb M M' ⟨_, l1⟩ ⟨_, l2⟩ hb hb'
  have ft : Fr0 w β H w' β2 H2 := k2.toFr0.trans f
  have hml : m.length = T'.length := hs.mlen
  have hpT : p < T'.length := by have := lt_of_get q1; omega
  have hT'p : T'[p]? = some (some (.vec 0 0 [])) := q3.trans hd
  have hsr : SRel c.imps c.nt w' β2 H2 m ⟨E', T'.set p (some (.vec 2 sz xs)), c.B, c.D⟩ a := by
    refine ⟨hrel, hs.size, fun k => (hs.env k).mono0 ft, by simpa using hml, hs.nodup, fun j r ob hj hob' => ?_, hs.imp, fun r hr hm => ?_, fun r hr => hs.fut r (by omega), hs.own, fun p hp => by simpa using hs.scE p hp, fun j ob hob' => ?_, hs.defs, fun j n hj => ?_⟩
    · by_cases hjp : j = p
      · subst hjp
        rw [q1] at hj
        injection hj with hj
        subst hj
        simp only at hob'
        rw [List.getElem?_set_self hpT] at hob'
        injection hob' with hob'
        subst hob'
        exact hH2q
      · simp only at hob'
        rw [List.getElem?_set_ne (fun e => hjp e.symm)] at hob'
        have hrq : r ≠ q := fun e => hjp (hs.inj hj (e ▸ q1))
        have hrl := hs.lt hj
        rw [hH2n r hrq (by omega), hold r hrl]
        exact hs.loc j r ob hj hob'
    · have hrq : r ≠ q := fun e => hm (e ▸ List.mem_of_getElem? q1)
      by_cases hrr : r = r'
      · subst hrr
        have : c.B r = none := hs.fut r hnew
        simp only
        rw [hH2r, this]
      · rw [hH2n r hrq hrr]
        rcases Nat.lt_or_ge r H.length with h1 | h1
        · rw [hold r h1]
          exact hs.base r h1 hm
        · have : c.B r = none := hs.fut r h1
          simp only
          rw [hbase r (by omega) hrr, this, List.getElem?_eq_none h1]
          rfl
    · simp only [List.length_set] at hob' ⊢
      by_cases hjp : j = p
      · subst hjp
        rw [List.getElem?_set_self hpT] at hob'
        injection hob' with hob'
        injection hob' with hob'
        subst hob'
        trivial
      · rw [List.getElem?_set_ne (fun e => hjp e.symm)] at hob'
        exact hs.scT j ob hob'
    · obtain ⟨r, b', N', d1, d2, d3, d4⟩ := hs.marks j n hj
      have hnp : n ≠ p := fun e => by
        subst e
        simp only at d2
        rw [hT'p] at d2
        cases d2
      have hrq : r ≠ q := fun e => hnp (hs.inj d1 (e ▸ q1))
      refine ⟨r, b', N', d1, by simp only; rw [List.getElem?_set_ne (fun e => hnp e.symm)]; exact d2, ?_, d4⟩
      rw [hβn r hrq]
      have hH0 := hs.loc n r _ d1 d2
      exact dfr_stays k2 (by simpa [HObj.conv] using hH0) d3 (by rw [hold r (hs.lt d1), hH0]; rfl)
  refine ⟨v, w', β2, H2, call_steps ho (hg.wanted (fun t ht => e2 t (List.mem_append_left _ ht)) hs) hop hq hen k4 k6, hsr, ft, fun s hsl hn hne => ?_, ?_⟩
  · have hsq : s ≠ q := fun e => hne p rfl (e ▸ q1)
    rw [hβn s hsq]
    exact k2.virt s hsl hn
  · simp only [V.conv, Ref.conv, q1]
    simp only [V.conv, Ref.conv, List.getElem?_cons_zero] at k3
    have hv : ∀ g2 sz2 xs2, H'[r']? = some (some (.vec g2 sz2 xs2)) → g2 = g0 ∧ sz2 = sz ∧ xs2 = xs := fun g2 sz2 xs2 h2 => by
      rw [hr'] at h2
      injection h2 with h2
      injection h2 with h2
      injection h2 with e0 e1 e2
      exact ⟨e0.symm, e1.symm, e2.symm⟩
    generalize hn : xs.length = n at k3
    cases k3 with
    | oslNil _ _ sz2 xs2 ad hH' hβ =>
      exact .oslNil q 2 sz xs ad hH2q (hβq.trans hβ)
    | oslBlk _ _ _ _ sz2 xs2 bb N ad cap' hH' hβ hl' hN hcap ha hlen' =>
      obtain ⟨_, rfl, rfl⟩ := hv _ _ _ hH'
      exact .oslBlk q 2 0 n sz2 xs2 bb N ad cap' hH2q (hβq.trans hβ) hl' hN hcap ha hlen'
    | oslStale _ _ _ _ g' sz' xs' _ hH' hg' =>
      obtain ⟨e, _, _⟩ := hv _ _ _ hH'
      omega
    | oslDead _ _ _ _ _ hd' => rw [hr'] at hd'; cases hd'

/-! ### The evaluation of such a region -/
/-- A call of one of these functions. -/
def isMk (mk : List FuncId) : Op → Bool
  | .call { callee := .value (.func h), .. } => memN mk h
  | _ => false
def evdN (mk : List FuncId) (c : Cx) (ops : List Oper) (gt : List Tmp) : List Oper → Nat → Env → Heap → (Env → Heap → List Sig → Prop) → Prop
  | [], _, E, T, K => K E T []
  | o :: os, p, E, T, K =>
    let next (x : V) (T' : Heap) (g touch keys : List Nat) : Prop := bif (makesS o.op || isMk mk o.op) then putR c.nt gt o.dst x E fun E' => evdN mk c ops gt os (p + 1) E' T' fun En Tn ss => K En Tn (⟨o.dst, g, touch, keys⟩ :: ss) else putR c.nt gt o.dst x E fun E' => evdN mk c ops gt os p E' T' fun En Tn ss => K En Tn (⟨o.dst, g, touch, keys⟩ :: ss)
    gK ops o E (fun g => next (.tup []) T g [] []) fun g =>
      lfix (g ++ tmpsOf o.op.operands.toList) fun g =>
      bif makes E o.op then evMk c o.op E T p fun x ob kills tc => lfix tc fun tc => lfix (keysOf kills) fun ks => appC T (kills ++ [(p, some ob)]) fun T' => next x T' g (p :: tc) (p :: ks)
      else bif isMk mk o.op then match o.op with
        | .call { callee := .value f, args, .. } => match opd E f with
          | .fn (.func h) first cap => opds E args.toList fun vs => ∃ (sz : Nat) (xs : List V), Fun c.P h [] (first ++ vs ++ cap) (fun x T' => ∃ g0, x = .osl (.loc 0) g0 0 xs.length ∧ T' = [some (.vec g0 sz xs)]) ∧ V.pureL (first ++ vs ++ cap) = true ∧ lget T p = some (some (.vec 0 0 [])) ∧
            appC T [(p, some (.vec 2 sz xs))] fun T' => next (.osl (.loc p) 2 0 xs.length) T' g [p] [p]
          | _ => False
        | _ => False
      else match o.op with
        | .call { callee := .value f, args, .. } => match opd E f with
          | .fn (.func h) first cap => opds E args.toList fun vs => frzAll (first ++ vs ++ cap) T False fun ws _ => lfix (keysOf (killsOf (first ++ vs ++ cap))) fun ks =>
            ∃ x, Pure c.P h ws (fun y => y = x) ∧ V.pureL ws = true ∧ bif flatB x then next x T g ks [] else appC T (killsOf (first ++ vs ++ cap)) fun T' => next x T' g ks ks
          | _ => False
        | op => evOp c op E T False fun x T' => lfix (touch E op) fun tc => lfix (wr E op) fun ks => next x T' g tc ks

theorem evdN_sound {mk : List FuncId} {c : Cx} {ops : Array Oper} {gt : List Tmp} : ∀ (os : List Oper) (i p : Nat) (E : Env) (T : Heap) (K : Env → Heap → List Sig → Prop), evdN mk c ops.toList gt os p E T K → (∀ k, os[k]? = ops[i + k]?) → i + os.length = ops.size →
    ∃ rs ss En Tn, RunP c ops i p E T rs ss En Tn ∧ K En Tn ss
  | [], i, p, E, T, K, h, _, hi => ⟨[], [], E, T, ⟨by simpa using hi, rfl, rfl⟩, h⟩
  | o :: os, i, p, E, T, K, h, hos, hi => by
    unfold evdN at h
    extract_lets next at h
    have ho : ops[i]? = some o := by have := hos 0; simpa using this.symm
    have hos' : ∀ k, os[k]? = ops[i + 1 + k]? := fun k => by have := hos (k + 1); rw [List.getElem?_cons_succ] at this; rw [this, sa]
    have hi' : i + 1 + os.length = ops.size := by simp at hi; omega
    have hlt : i < ops.size := by simp at hi; omega
    -- what follows, from a fact
    have go : ∀ (r : Rec) (g tc ks : List Nat), Fact c ops i E T r → r.dst = o.dst → next r.x (app T r.eff) g tc ks → (∀ t ∈ r.reads, t ∈ g) → (∀ k ∈ r.touch, k ∈ tc) → (∀ k ∈ keysOf r.eff, k ∈ ks) →
        (∀ q, r.virt = some q → q = p ∧ p ∈ tc ∧ p < T.length ∧ (makesS o.op || isMk mk o.op) = true) → ∃ rs ss En Tn, RunP c ops i p E T rs ss En Tn ∧ K En Tn ss := by
      intro r g tc ks hf hd hn h1 h2 h3 h4
      have hn : putR c.nt gt o.dst r.x E fun E' => evdN mk c ops.toList gt os (bif (makesS o.op || isMk mk o.op) then p + 1 else p) E' (app T r.eff) fun En Tn ss => K En Tn (⟨o.dst, g, tc, ks⟩ :: ss) := by
        have h0 := hn
        simp only [next] at h0
        cases hm : (makesS o.op || isMk mk o.op) <;> (rw [hm] at h0; exact h0)
      obtain ⟨x', hk, hdst, hx⟩ := putR_sound hn
      obtain ⟨rs, ss, En, Tn, k1, k2⟩ := evdN_sound os (i + 1) _ _ _ _ hk hos' hi'
      refine ⟨{ r with x := x' } :: rs, ⟨o.dst, g, tc, ks⟩ :: ss, En, Tn, ⟨hf.put hx, by rw [hd]; exact hdst, ⟨hd.symm, h1, h2, h3, fun q hq => ?_⟩, hlt, (bif (makesS o.op || isMk mk o.op) then p + 1 else p), ?_, ?_, ?_⟩, k2⟩
      · obtain ⟨e, hp, _⟩ := h4 q hq
        rw [e]
        exact hp
      · cases (makesS o.op || isMk mk o.op) <;> simp
      · intro q hq
        obtain ⟨e, _, hp, hm⟩ := h4 q hq
        rw [hm]
        exact ⟨e, Nat.le_refl _, hp⟩
      · rw [hd]
        exact k1
    rcases gK_sound h with ⟨gs, hg, h⟩ | ⟨gs, hg, h⟩
    · exact go _ gs [] [] (fact_skip ho hg) rfl h (fun t ht => ht) (fun k hk => hk) (fun k hk => hk) (fun q hq => by cases hq)
    · rw [lfix_eq] at h
      cases hm : makes E o.op with
      | true =>
        rw [hm] at h
        simp only [cond_true] at h
        obtain ⟨x, ob, kills, tc, hk, hf, hp⟩ := fact_mk (gs := gs) ho hg h
        rw [lfix_eq, lfix_eq, appC_eq] at hk
        refine go _ _ _ _ hf rfl hk (fun t ht => ht) (fun k hk => List.mem_cons_of_mem _ hk) (fun k hk => ?_) (fun q hq => ?_)
        · rw [keysOf_append] at hk
          rcases List.mem_append.1 hk with h | h
          · exact List.mem_cons_of_mem _ h
          · simp only [keysOf, List.mem_singleton] at h
            rw [h]
            exact List.mem_cons_self
        · injection hq with hq
          subst hq
          exact ⟨rfl, List.mem_cons_self, hp, by rw [makes_S hm]; rfl⟩
      | false =>
        rw [hm] at h
        simp only [cond_false] at h
        cases hmk : isMk mk o.op with
        | true =>
          simp only [hmk, cond_true] at h
          split at h
          · rename_i f args ts hop
            split at h
            · rename_i h' first cap hfv
              rw [opds_eq] at h
              obtain ⟨sz, xs, hfu, hpl, hlp, hk⟩ := h
              rw [appC_eq] at hk
              rw [lget_eq] at hlp
              exact go _ _ _ _ (fact_call_make ho hg hop hfv hpl hlp hfu) rfl hk (fun t ht => ht) (fun k hk => by cases hk) (fun k hk => hk) (fun q hq => by
                injection hq with hq
                subst hq
                exact ⟨rfl, List.mem_singleton.2 rfl, lt_of_get hlp, by rw [hmk]; simp⟩)
            · exact h.elim
          · exact h.elim
        | false =>
        simp only [hmk, cond_false] at h
        split at h
        · rename_i f args ts hop
          split at h
          · rename_i h' first cap hfv
            rw [opds_eq] at h
            rcases frzAll_det (F := False) _ T _ h with h | ⟨ws, h, hdet⟩
            · exact h.elim
            rw [lfix_eq] at h
            obtain ⟨x, hpu, hpl, hk⟩ := h
            cases hx : flatB x with
            | true =>
              rw [hx] at hk
              exact go _ _ _ _ (fact_call_flat ho hg hop hfv hpl hx hdet hpu) rfl hk (fun t ht => ht) (fun k hk => hk) (fun k hk => by cases hk) (fun q hq => by cases hq)
            | false =>
              rw [hx] at hk
              simp only [cond_false] at hk
              rw [appC_eq] at hk
              exact go _ _ _ _ (fact_call_frz ho hg hop hfv hpl hdet hpu) rfl hk (fun t ht => ht) (fun k hk => hk) (fun k hk => hk) (fun q hq => by cases hq)
          · exact h.elim
        · rcases fact_op ho hg hm h with h | ⟨x, eff, hk, hf, hw⟩
          · exact h.elim
          rw [lfix_eq, lfix_eq] at hk
          refine go _ _ _ _ hf rfl hk (fun t ht => ht) (fun k hk => hk) (fun k hk => ?_) (fun q hq => by cases hq)
          have : ∀ (es : List (Nat × Option HObj)), k ∈ keysOf es → ∃ e ∈ es, e.1 = k := by
            intro es
            induction es with
            | nil => intro h; cases h
            | cons e es ih =>
              intro h
              rcases List.mem_cons.1 h with rfl | h
              · exact ⟨e, List.mem_cons_self, rfl⟩
              · obtain ⟨e', h1, h2⟩ := ih h
                exact ⟨e', List.mem_cons_of_mem _ h1, h2⟩
          obtain ⟨e, he, rfl⟩ := this eff hk
          exact hw e he

def dumsN (mk : List FuncId) : List Oper → Heap
  | [] => []
  | o :: os => bif (makesS o.op || isMk mk o.op) then some (dummyOf o.op) :: dumsN mk os else dumsN mk os
theorem dumsN_mem (mk : List FuncId) : ∀ (os : List Oper) (x : Option HObj), x ∈ dumsN mk os → ∃ d, x = some d ∧ (d = .box [] ∨ d = .vec 0 0 [])
  | [], x, h => by cases h
  | o :: os, x, h => by
    rw [dumsN] at h
    cases hb : (makesS o.op || isMk mk o.op) with
    | false => rw [hb] at h; exact dumsN_mem mk os x h
    | true =>
      rw [hb] at h
      rcases List.mem_cons.1 h with rfl | h
      · refine ⟨_, rfl, ?_⟩
        unfold dummyOf
        split <;> simp
      · exact dumsN_mem mk os x h
theorem goes_draw_ofN (mk : List FuncId) {c : Cx} {ops : Array Oper} {id : Nat} {k : List Item} {E : Env} {T : Heap} {rs : List Rec} {ss : List Sig} {En : Env} {Tn : Heap} (h : RunP c ops 0 T.length E (T ++ dumsN mk ops.toList) rs ss En Tn) (hc : chk ops.toList ss 0 [] [] = true) (hk : Goes c k En Tn) : Goes c (.code (.region id ops true) :: k) E T := by
  obtain ⟨hG, rfl, rfl, hp⟩ := good_of_run h
  refine goes_step fun w β H m a b cs hs h1 h2 h3 => ?_
  -- the draw
  have hsched : ∃ md t, Region.schedule (c.P.follows .mixedOrders) ops (w.tape w.drawn (.order b.fn id)) = Region.linearise md ops t := by
    unfold Region.schedule
    split
    · exact ⟨_, _, rfl⟩
    · exact ⟨_, _, rfl⟩
  obtain ⟨md, t, hmd⟩ := hsched
  have hf0 : Fr w β H { w with drawn := w.drawn + 1 } β H := Fr.of_heap rfl rfl rfl rfl
  have hs0 : SRel c.imps c.nt { w with drawn := w.drawn + 1 } β H m ⟨E, T, c.B, c.D⟩ a := hs.same hf0 (hs.hrel.of_heap rfl rfl rfl rfl)
  obtain ⟨β1, H1, m1, k1, k2, k3, k4⟩ := reserveAll (dumsN mk ops.toList) (dumsN_mem mk _) hs0
  have hml : m1.length = (T ++ dumsN mk ops.toList).length := k1.mlen
  have hzero : ∀ j, (fun _ : Nat => false) j = (Array.replicate ops.size false).getD j false := fun j => by
    by_cases hj : j < ops.size
    · simp [Array.getD, hj]
    · simp [Array.getD, hj]
  obtain ⟨w2, β2, H2, a2, g1, g2, g3, g4⟩ := run_draw md hG hc k1.scE ops.size t (Array.replicate ops.size false) (fun _ => false) { w with drawn := w.drawn + 1 } β1 H1 m1 a b cs k hzero (by simp)
    (by unfold unl; exact Nat.le_trans (List.length_filter_le _ _) (by simp)) (fun i hi => by cases hi) (by
      rw [envS_none _ _ _ fun _ _ => rfl, heapS_none _ _ _ fun _ _ => rfl]
      exact k1) (fun j r p hj _ hv => by
        obtain ⟨q, q1, q2, _⟩ := k4 p (hG.virt j r p hj hv) (by have := hp j r p hj hv; simpa using this)
        exact ⟨q, q1, q2⟩) (fun j r _ hj => by cases hj) h1 h2
  refine ⟨w2, β2, H2, m1, a2, k, ⟨_, _, c.B, c.D⟩, ?_, g2, ?_, hk⟩
  · refine .head stepR_region_draw ?_
    rw [hmd]
    exact g1.trans (.one stepR_region_end)
  · refine ⟨(hf0.toFr0.trans k2.toFr0).trans g3, fun r hr hn => ?_⟩
    have hn1 := k2.virt r hr hn
    refine g4 r (Nat.lt_of_lt_of_le hr k2.len) hn1 fun p hp hq => ?_
    by_cases hlt : p < T.length + (dumsN mk ops.toList).length
    · obtain ⟨q, q1, _, q3⟩ := k4 p hp hlt
      rw [hq] at q1
      injection q1 with q1
      omega
    · have := lt_of_get hq
      rw [hml, List.length_append] at this
      omega
theorem goes_drawN (mk : List FuncId) {c : Cx} {ops : Array Oper} {id : Nat} {k : List Item} {E : Env} {T : Heap} (n : Nat) (h : catC T (dumsN mk ops.toList) fun T0 => evdN mk c ops.toList (guardTmps ops.toList ops.toList) ops.toList T.length E T0 fun En Tn ss => chk ops.toList ss 0 [] [] = true ∧ evp c n k En Tn) :
    Goes c (.code (.region id ops true) :: k) E T := by
  rw [catC_eq] at h
  obtain ⟨rs, ss, En, Tn, h1, h2, h3⟩ := evdN_sound (mk := mk) ops.toList 0 T.length E _ _ h (fun k => by rw [Nat.zero_add, Array.getElem?_toList]) (by simp)
  exact goes_draw_ofN mk h1 h2 (evp_sound n _ _ _ _ h3)
end Bow
/- AE45: own memory under names: calls that hand back named memory, calls that write over it, calls that only read it; stores into it. -/
namespace Bow
open Go

def Ext (B B' : Base) : Prop := ∀ q o, B q = some o → B' q = some o
/-- What stands in B' and not in B. -/
def newPart (B B' : Base) : Base := fun q => match B q with | some _ => none | none => B' q
def Base.add (B N : Base) : Base := fun q => match B q with | some o => some o | none => N q
theorem Ext.refl (B : Base) : Ext B B := fun _ _ h => h
theorem Ext.trans {A B C : Base} (h : Ext A B) (k : Ext B C) : Ext A C := fun q o e => k q o (h q o e)
theorem Ext.add (B N : Base) : Ext B (B.add N) := fun q o h => by simp [Base.add, h]
theorem add_new {B N : Base} {q : Nat} {o : HObj} (h : N q = some o) (hb : B q = none) : (B.add N) q = some o := by simp [Base.add, h, hb]
theorem newPart_get {B B' : Base} {q : Nat} {o : HObj} (h : B' q = some o) (hb : B q = none) : newPart B B' q = some o := by simp [newPart, h, hb]
theorem newPart_old {B B' : Base} {q : Nat} {o : HObj} (h : newPart B B' q = some o) : B q = none ∧ B' q = some o := by
  unfold newPart at h
  split at h
  · cases h
  · rename_i hb; exact ⟨hb, h⟩
theorem newPart_ext {B B' B'' : Base} (h : Ext B' B'') : Ext (newPart B B') (newPart B B'') := fun q o e => by
  obtain ⟨h1, h2⟩ := newPart_old e
  exact newPart_get (h q o h2) h1
theorem newPart_add {B B' N : Base} (h : Ext B B') (hn : ∀ q o, N q = some o → B' q = none) : Ext N (newPart B (B'.add N)) := fun q o e => by
  refine newPart_get (add_new e (hn q o e)) ?_
  cases hb : B q with
  | none => rfl
  | some o' => have := h q o' hb; rw [hn q o e] at this; cases this
theorem Ext.eq_add {B B' : Base} (h : Ext B B') : B' = B.add (newPart B B') := by
  funext q
  unfold Base.add newPart
  cases hb : B q with
  | none => rfl
  | some o => exact h q o hb

mutual
theorem V.conv_pure (m : List Nat) : ∀ v : V, (v.conv m).pureB = true
  | .osl r _ _ _ | .ptr r _ | .eptr r _ _ _ | .yld r => by
    cases r with
    | loc k =>
      simp only [V.conv, Ref.conv]
      cases m[k]? <;> rfl
    | abs n => rfl
    | bad => rfl
  | .agg cs | .tup cs => by simp only [V.conv, V.pureB]; exact V.convL_pure m cs
  | .fn _ a c => by simp only [V.conv, V.pureB, Bool.and_eq_true]; exact ⟨V.convL_pure m a, V.convL_pure m c⟩
  | .iface _ v => by simp only [V.conv, V.pureB]; exact V.conv_pure m v
  | .int .. | .bool _ | .tt | .ff | .str _ | .sl .. | .nilsl | .iptr .. | .nilp | .nilf | .nili | .nilmap | .undef => rfl
theorem V.convL_pure (m : List Nat) : ∀ vs : List V, V.pureL (V.convL m vs) = true
  | [] => rfl
  | v :: vs => by simp only [V.convL, V.pureL, Bool.and_eq_true]; exact ⟨V.conv_pure m v, V.convL_pure m vs⟩
end

/-! ### Functions that hand back memory of their own, under names -/
@[irreducible] def FunN (P : Program) (g : FuncId) (args : List V) (Q : V → Base → Prop) : Prop :=
  Enterable P g ∧ ∀ (w : World) (β : Nat → Loc) (H : Heap) (B : Base) (vals : Array Value) (cs : List Frame), SRel [] 0 w β H [] ⟨[], [], B, []⟩ bare → args.length = vals.size →
    (∀ (j : Nat) (x : V) (v : Value), args[j]? = some x → vals[j]? = some v → Rep w β H x v) →
    ∃ (x : V) (N : Base) (v : Value) (w' : World) (β' : Nat → Loc) (H' : Heap) (fr : Frame), Q x N ∧ (∀ q o, N q = some o → B q = none) ∧ SRel [] 0 w' β' H' [] ⟨[], [], B.add N, []⟩ bare ∧ Fr w β H w' β' H' ∧ Rep w' β' H' x v ∧ x.pureB = true ∧
      Steps P (lone (Frame.enter P g vals .normal) cs w) (lone fr cs w') ∧ fr.fn = g ∧ fr.leaving P w' (.returned v)

theorem FunN.mono {P : Program} {g : FuncId} {args : List V} {Q Q' : V → Base → Prop} (h : FunN P g args Q) (hq : ∀ x N, Q x N → Q' x N) : FunN P g args Q' := by
  unfold FunN at *
  refine ⟨h.1, fun w β H B vals cs hs hl hr => ?_⟩
  obtain ⟨x, N, v, w', β', H', fr, k, r⟩ := h.2 w β H B vals cs hs hl hr
  exact ⟨x, N, v, w', β', H', fr, hq _ _ k, r⟩

/-- What a body's end has to be, there. -/
def XN (P : Program) (rs : Array ResultVar) (B : Base) (Q : V → Base → Prop) (e : Exit) (s : St) : Prop :=
  (match e with | .normal | .ret => True | _ => False) ∧ s.D = [] ∧ Ext B s.B ∧ resK P [] s.B rs.toList s.E s.T False fun xs => frz (resV xs) s.T False fun x _ => x.pureB = true ∧ ∃ y, Wk x y ∧ y.pureB = true ∧ Q y (newPart B s.B)

theorem funN_of_goes {P : Program} {g : FuncId} {fn : Func} {body : Code} {args : List V} {Q : V → Base → Prop} (n : Nat) (hf : P.funcs[g]? = some fn) (hn : (fn.name == "runtime.NumGoroutine") = false) (hb : fn.body = some body) (hnt : Nat.ble args.length fn.ntmps = true)
    (h : ∀ B : Base, evp { P := P, nt := fn.ntmps, fn := g, ro := none, imps := [], X := XN P fn.results B Q, B := B, D := [] } n [.code body] (env0 0 args) []) : FunN P g args Q := by
  unfold FunN
  refine ⟨⟨fn, hf, hn, by rw [hb]; rfl⟩, fun w β H B vals cs hs hl hr => ?_⟩
  have hnt := Nat.le_of_ble_eq_true hnt
  have gg := evp_sound _ _ _ _ _ (h B)
  unfold Goes at gg
  let b : Frame := { fn := g, tmps := #[], todo := [], defers := [], mode := .run, kind := .normal }
  let a : Act := { tmps := vals ++ Array.replicate (fn.ntmps - vals.size) Go.undef, defers := [] }
  have henter : Frame.enter P g vals .normal = b.atR a [.code body] := by
    simp [Frame.enter, Frame.atR, hf, hb, b, a]
  have hasz : a.tmps.size = fn.ntmps := by simp [a]; omega
  have hrc : ∀ (j : Nat) (x : V) (v : Value), args[j]? = some x → vals[j]? = some v → Rep w β H (x.conv []) v := fun j x v hj hv => by
    rw [conv_of_rep [] x (hr j x v hj hv)]
    exact hr j x v hj hv
  have hget : ∀ k, Rep w β H ((lk (env0 0 args) k).conv []) (a.tmps.getD k Go.undef) := by
    intro k
    rw [lk_env0]
    simp only [Nat.zero_le, if_true, Nat.sub_zero]
    cases hk : args[k]? with
    | none => exact .undef _
    | some x =>
      have hkl := lt_of_get hk
      have hkv : k < vals.size := by omega
      have e : a.tmps.getD k Go.undef = vals[k] := by
        simp only [a, Array.getD_eq_getD_getElem?]
        rw [Array.getElem?_append_left hkv]
        simp [hkv]
      rw [e]
      exact hrc k x vals[k] hk (Array.getElem?_eq_getElem hkv)
  have hs0 : SRel [] fn.ntmps w β H [] ⟨env0 0 args, [], B, []⟩ a := by
    refine ⟨hs.hrel, hasz, hget, hs.mlen, hs.nodup, hs.loc, hs.imp, hs.base, hs.fut, hs.own, fun p hp => ?_, hs.scT, rfl, by simp⟩
    obtain ⟨k, hk, hx⟩ := List.mem_iff_getElem.1 (env0_mem 0 args p hp)
    have hkv : k < vals.size := by omega
    exact sc_of_rep (m := []) p.2 (hrc k p.2 vals[k] (by rw [List.getElem?_eq_getElem hk, hx]) (Array.getElem?_eq_getElem hkv))
  obtain ⟨e, s', w', β', H', m', a', hX, hs', hfr, hend⟩ := gg w β H [] a b cs hs0 rfl rfl rfl
  obtain ⟨E', T1, B', D'⟩ := s'
  obtain ⟨he, hD, hB, hres⟩ := hX
  simp only at hD hB hres
  subst hD
  rcases resK_sound (c := { P := P, nt := fn.ntmps, fn := g, ro := none, imps := [], X := fun _ _ => True, B := B', D := [] }) _ _ _ _ hres with h | ⟨xs, hq, hx⟩
  · exact h.elim
  obtain ⟨vs, h1, h2, h3⟩ := hx w' β' H' m' a' hs'
  have hrun := run_results h1
  have hrep : Rep w' β' H' ((resV xs).conv m') (if h : vs.toArray.size = 1 then vs.toArray[0] else .tuple vs.toArray) := by
    by_cases h1 : vs.length = 1
    · rw [dif_pos (by simpa using h1)]
      match xs, h2, h3 with
      | [x], _, h3 => exact h3 0 x _ rfl (by simp [h1])
      | [], h2, _ => simp at h2; omega
      | _ :: _ :: _, h2, _ => simp at h2; omega
    · rw [dif_neg (by simpa using h1)]
      have e : resV xs = .tup xs := by
        match xs, h2 with
        | [x], h2 => simp at h2; omega
        | [], _ => rfl
        | _ :: _ :: _, _ => rfl
      rw [e]
      simp only [V.conv, V.convL_eq]
      refine .tup _ _ (by simp [h2]) fun j c v hj hv => ?_
      simp only [List.getElem?_map, Option.map_eq_some_iff] at hj
      obtain ⟨x, hj, rfl⟩ := hj
      exact h3 j x v hj (by simpa using hv)
  -- what is handed back is frozen; the rest is let go
  rcases frz_sound hq with hq | ⟨x', T2, hq, hfz⟩
  · exact hq.elim
  obtain ⟨H1, g1, g2, g3⟩ := hfz.2 _ _ _ _ _ _ _ _ _ _ hs'.bare
  obtain ⟨m2, H2, e1, e2, e3⟩ := SRel.dropTo (T := []) T2 g1 (by simp) (by simp) (by simp) (by simp)
  have hm2 : m2 = [] := List.length_eq_zero_iff.1 e1.mlen
  subst hm2
  have hrep' := (g3 0 _ x' _ rfl rfl hrep).mono e2
  obtain ⟨hp0, y, hw, hyp, hq⟩ := hq
  have hrep' := hw _ _ _ _ hrep'
  rw [hB.eq_add] at e1
  have hdef : a'.defers = [] := List.length_eq_zero_iff.1 hs'.defs
  cases e with
  | normal =>
    refine ⟨y, newPart B B', _, w', β', H2, { b.atR a' [] with mode := .returning }, hq, fun q o h => (newPart_old h).1, e1, (hfr.trans g2).trans e2, hrep', hyp, ?_, rfl, ?_⟩
    · rw [henter]
      exact Steps.trans hend (.one (stepR_end rfl))
    · exact ⟨rfl, hdef, rfl, fn, hf, hrun⟩
  | ret =>
    obtain ⟨k, hend⟩ := hend
    refine ⟨y, newPart B B', _, w', β', H2, { b.atR a' (.code .ret :: k) with mode := .returning }, hq, fun q o h => (newPart_old h).1, e1, (hfr.trans g2).trans e2, hrep', hyp, ?_, rfl, ?_⟩
    · rw [henter]
      exact Steps.trans hend (.one (stepR_ret rfl))
    · exact ⟨rfl, hdef, rfl, fn, hf, hrun⟩
  | exit id => exact he.elim
  | goto l => exact he.elim
  | panic ch => exact he.elim
  | outgrown => exact he.elim

section
variable {w w' : World} {β β' : Nat → Loc} {H H' : Heap}
/-- What a function with nothing of its own sees of a world. -/
theorem seen {imps : List Nat} {nt : Nat} {m : List Nat} {s : St} {a : Act} (hs : SRel imps nt w β H m s a) : SRel [] 0 w β H [] ⟨[], [], fun r => (H[r]?).getD none, []⟩ bare := by
  refine ⟨hs.hrel, rfl, fun k => by simp [lk, V.conv]; exact .undef _, rfl, List.nodup_nil, by simp, rfl, fun r h _ => ?_, fun r h1 => ?_, by simp, by simp, by simp, rfl, by simp⟩
  · simp [h]
  · simp [List.getElem?_eq_none h1]
end

/-- Out of a function whose objects all are there when it ends. -/
theorem funN_of_fun {P : Program} {g : FuncId} {args : List V} {Q : V → Heap → Prop} (h : Fun P g [] args Q) (ha : V.pureL args = true) (hl : ∀ x T', Q x T' → allLive T' = true) :
    FunN P g args fun x N => ∃ x' T' m', Q x' T' ∧ x = x'.conv m' ∧ m'.length = T'.length ∧ m'.Nodup ∧ ∀ (k q : Nat) (o : HObj), m'[k]? = some q → T'[k]? = some (some o) → N q = some (o.conv m') := by
  unfold Fun at h
  unfold FunN
  refine ⟨h.1, fun w β H B vals cs hs hlen hr => ?_⟩
  obtain ⟨x, T', v, w', β', H', m', fr, hq, k1, k2, k3, k4, k5, k6⟩ := h.2 w β H [] B vals cs hs hlen (fun j x v hj hv => by
    rw [pure_conv _ _ (pureL_mem _ ha x (List.mem_of_getElem? hj))]
    exact hr j x v hj hv)
  have hlive := hl x T' hq
  have hml : m'.length = T'.length := k1.mlen
  have hobj : ∀ (k q : Nat), m'[k]? = some q → ∃ o, T'[k]? = some (some o) ∧ H'[q]? = some (some (o.conv m')) := fun k q hk => by
    have hkT : k < T'.length := by have := lt_of_get hk; omega
    have e := List.getElem?_eq_getElem hkT
    obtain ⟨o, ho⟩ := allLive_get hlive k _ e
    rw [ho] at e
    exact ⟨o, e, k1.loc k q _ hk e⟩
  obtain ⟨N, hN⟩ : ∃ N : Base, N = fun q => if q ∈ m' then (H'[q]?).getD none else none := ⟨_, rfl⟩
  have hNm : ∀ (k q : Nat) (o : HObj), m'[k]? = some q → T'[k]? = some (some o) → N q = some (o.conv m') := fun k q o hk ho => by
    obtain ⟨o', e1, e2⟩ := hobj k q hk
    rw [ho] at e1
    injection e1 with e1
    injection e1 with e1
    subst e1
    rw [hN]
    simp [List.mem_of_getElem? hk, e2]
  have hNB : ∀ q o, N q = some o → q ∈ m' ∧ B q = none := fun q o h => by
    rw [hN] at h
    by_cases hm : q ∈ m'
    · obtain ⟨k, hk⟩ := List.getElem?_of_mem hm
      exact ⟨hm, k1.own k q (Nat.zero_le _) hk⟩
    · simp [hm] at h
  refine ⟨_, N, v, w', β', H', fr, ⟨x, T', m', hq, rfl, hml, k1.nodup, hNm⟩, fun q o h => (hNB q o h).2, ?_, k2, k3, V.conv_pure m' x, k4, k5, k6⟩
  refine ⟨k1.hrel, rfl, fun k => by simp [lk, V.conv]; exact .undef _, rfl, List.nodup_nil, by simp, rfl, fun r hr _ => ?_, fun r hr => ?_, by simp, by simp, by simp, rfl, by simp⟩
  · show H'[r]? = some ((B.add N) r)
    by_cases hm : r ∈ m'
    · obtain ⟨k, hk⟩ := List.getElem?_of_mem hm
      obtain ⟨o, e1, e2⟩ := hobj k r hk
      rw [e2, add_new (hNm k r o hk e1) (k1.own k r (Nat.zero_le _) hk)]
    · have h1 := k1.base r hr hm
      simp only at h1
      rw [h1]
      unfold Base.add
      cases hb : B r with
      | some o => rfl
      | none =>
        have : N r = none := by rw [hN]; simp [hm]
        rw [this]
  · show (B.add N) r = none
    have h1 : B r = none := k1.fut r hr
    unfold Base.add
    rw [h1]
    cases hn : N r with
    | none => rfl
    | some o =>
      obtain ⟨k, hk⟩ := List.getElem?_of_mem (hNB r o hn).1
      have := k1.lt hk
      omega

/-- A call of one. -/
theorem call_funN {c : Cx} {g : FuncId} {args : List V} {E : Env} {T : Heap} {K : V → St → Prop} {Q : V → Base → Prop} (hf : FunN c.P g args Q) (ha : V.pureL args = true)
    (h : ∀ x N, Q x N → x.pureB = true → (∀ q o, N q = some o → c.B q = none) → K x ⟨E, T, c.B.add N, c.D⟩) : CallThen c g args E T K := by
  unfold FunN at hf
  obtain ⟨hen, hf⟩ := hf
  unfold CallThen
  refine ⟨hen, fun w β H m a vals cs hs hl hr => ?_⟩
  obtain ⟨x, N, v, w', β', H', fr, hq, hN, k1, k2, k3, hp, k4, k5, k6⟩ := hf w β H _ vals cs (seen hs) hl (fun j x v hj hv => by
    have h1 := hr j x v hj hv
    rwa [pure_conv _ _ (pureL_mem _ ha x (List.mem_of_getElem? hj))] at h1)
  have hlen : H.length ≤ H'.length := k2.len
  have hH' : ∀ q, q < H'.length → H'[q]? = some (Base.add (fun r => (H[r]?).getD none) N q) := fun q hq => k1.base q hq (by simp)
  have hnew : ∀ q o, N q = some o → H.length ≤ q ∧ q < H'.length := fun q o h1 => by
    have h2 : (Base.add (fun r => (H[r]?).getD none) N) q = some o := add_new h1 (hN q o h1)
    have h3 : q < H'.length := by
      rcases Nat.lt_or_ge q H'.length with h3 | h3
      · exact h3
      · have h4 : (Base.add (fun r => (H[r]?).getD none) N) q = none := k1.fut q h3
        rw [h2] at h4
        cases h4
    refine ⟨?_, h3⟩
    rcases Nat.lt_or_ge q H.length with h4 | h4
    · exfalso
      have h5 := hH' q h3
      rw [h2] at h5
      obtain ⟨o1, ho1, _⟩ := k2.evo q o h4 h5
      have := hN q o h1
      simp only [ho1] at this
      cases this
    · exact h4
  have hcB : ∀ q o, N q = some o → c.B q = none := fun q o h1 => hs.fut q (hnew q o h1).1
  have hNold : ∀ q, q < H.length → N q = none := fun q h1 => by
    cases hn : N q with
    | none => rfl
    | some o => have := (hnew q o hn).1; omega
  have hold : ∀ q, q < H.length → H'[q]? = H[q]? := fun q h1 => by
    rw [hH' q (Nat.lt_of_lt_of_le h1 hlen)]
    unfold Base.add
    simp only [hNold q h1, List.getElem?_eq_getElem h1, Option.getD_some]
    cases H[q] <;> rfl
  have hadd : ∀ q, q < H.length → (c.B.add N) q = c.B q := fun q h1 => by
    unfold Base.add
    rw [hNold q h1]
    cases c.B q <;> rfl
  refine ⟨x, _, v, w', β', H', m, fr, h x N hq hp hcB, ?_, k2, by rw [pure_conv _ _ hp]; exact k3, k4, k5, k6, List.prefix_refl _⟩
  refine ⟨k1.hrel, hs.size, fun k => (hs.env k).mono k2, hs.mlen, hs.nodup, fun k r o hk ho => ?_, hs.imp, fun r hr hm => ?_, fun r hr => ?_, fun k r hk hr => ?_, hs.scE, hs.scT, hs.defs, fun j k hj => ?_⟩
  · rw [hold r (hs.lt hk)]
    exact hs.loc k r o hk ho
  · simp only
    rcases Nat.lt_or_ge r H.length with h1 | h1
    · rw [hold r h1, hadd r h1]
      exact hs.base r h1 hm
    · have h2 : c.B r = none := hs.fut r h1
      rw [hH' r hr]
      unfold Base.add
      simp only [List.getElem?_eq_none h1, h2, Option.getD_none]
  · have h1 : c.B r = none := hs.fut r (Nat.le_trans hlen hr)
    have h2 : (Base.add (fun r => (H[r]?).getD none) N) r = none := k1.fut r hr
    unfold Base.add at h2
    simp only [List.getElem?_eq_none (Nat.le_trans hlen hr), Option.getD_none] at h2
    simp only [Base.add, h1, h2]
  · simp only
    rw [hadd r (hs.lt hr)]
    exact hs.own k r hk hr
  · obtain ⟨r, b, M, h1, h2, h3, h4⟩ := hs.marks j k hj
    have hH0 := hs.loc k r _ h1 h2
    exact ⟨r, b, M, h1, h2, dfr_stays k2 (by simpa [HObj.conv] using hH0) h3 (by rw [hold r (hs.lt h1), hH0]; rfl), h4⟩

/-! ### Named memory, read by functions that leave nothing behind -/
inductive Fz (B : Base) : V → V → Prop
  | wk {x y : V} (h : Wk x y) : Fz B x y
  | row (r g sz : Nat) (xs : List V) (h : B r = some (.vec g sz xs)) : Fz B (.osl (.abs r) g 0 xs.length) (.sl sz xs)
  | agg (cs ds : List V) (hl : cs.length = ds.length) (h : ∀ (j : Nat) (c d : V), cs[j]? = some c → ds[j]? = some d → Fz B c d) : Fz B (.agg cs) (.agg ds)
  | sl (sz : Nat) (xs ys : List V) (hl : xs.length = ys.length) (hy : ∀ y ∈ ys, okE sz y) (h : ∀ (i : Nat) (x y : V) (j : Nat) (c d : V), xs[i]? = some x → ys[i]? = some y → x.cells[j]? = some c → y.cells[j]? = some d → Fz B c d) : Fz B (.sl sz xs) (.sl sz ys)

theorem Fr0.killAll {w : World} {β : Nat → Loc} {H : Heap} : Fr0 w β H w β (H.map fun _ => none) := by
  have hnone : ∀ r o, (H.map fun _ => (none : Option HObj))[r]? ≠ some (some o) := fun r o h => by rw [List.getElem?_map] at h; cases hh : H[r]? <;> rw [hh] at h <;> cases h
  have hno : ∀ b, ¬ ownB β (H.map fun _ => none) b := fun b ⟨r, N, ⟨o, h⟩, _⟩ => hnone r o h
  exact ⟨rfl, rfl, rfl, Nat.le_refl _, by simp, fun r o' _ ho => absurd ho (hnone r o'), fun _ _ _ => rfl, fun b hb => absurd hb (hno b), fun _ _ => rfl⟩
theorem killAll_no {β : Nat → Loc} {H : Heap} (b : Nat) : ¬ ownB β (H.map fun _ => none) b := by
  rintro ⟨r, N, ⟨o, h⟩, _⟩
  rw [List.getElem?_map] at h
  cases hh : H[r]? <;> rw [hh] at h <;> cases h

theorem Fz.rep {B : Base} {w : World} {β : Nat → Loc} {H : Heap} (hrel : HRel w β H) (hB : ∀ q o, B q = some o → H[q]? = some (some o)) {x y : V} (h : Fz B x y) : ∀ {v : Value}, Rep w β H x v → Rep w β (H.map fun _ => none) y v := by
  induction h with
  | wk h => exact fun {v} hv => (h w β H v hv).mono0 Fr0.killAll
  | row r g sz xs h =>
    intro v hv
    have hH := hB r _ h
    have hob := hrel.obj r _ hH
    have hvec : ∀ sz2 xs2, H[r]? = some (some (.vec g sz2 xs2)) → sz2 = sz ∧ xs2 = xs := fun sz2 xs2 h2 => by
      rw [hH] at h2
      injection h2 with h2
      injection h2 with h2
      injection h2 with _ e1 e2
      exact ⟨e1.symm, e2.symm⟩
    generalize hn : xs.length = n at hv
    cases hv with
    | oslNil _ _ sz2 xs2 ad hH' hβ =>
      rw [hβ] at hob
      have : xs = [] := hob
      subst this
      exact .sl sz [] ad 0 (fun _ => Go.undef) (Nat.le_refl _) (Nat.zero_le _) (by simp) (fun hne => absurd rfl hne) (fun i x j c hi => by simp at hi)
    | oslBlk _ _ _ _ sz2 xs2 b N ad cap hH' hβ hl hN hcap ha hlen =>
      obtain ⟨rfl, rfl⟩ := hvec _ _ hH'
      rw [hβ] at hob
      obtain ⟨vs, e, _, h1, h2, h3, h4, h5, h6⟩ := hob
      subst hn
      refine .sl sz2 xs2 ad cap (fun j => vs.getD j Go.undef) hl (by omega) h5 (fun hne => ?_) (fun i x j c hi hj => ?_)
      · have h0 : 0 < xs2.length := List.length_pos_iff.2 hne
        have := ha (by omega)
        subst this
        refine ⟨_, rfl, killAll_no _, (Array.getElem?_eq_some_iff.1 h1).1, fun j hj => ?_⟩
        have hjv : j < vs.size := by omega
        rw [Nat.zero_mul, at_add, cell_of_row w b j vs e (0, 0) h1]
        simp [hjv]
      · have hlt : i * sz2 + j < vs.size := by
          have e1 := lt_of_get hi
          have e2 := lt_of_get hj
          have e3 := (h5 x (List.mem_of_getElem? hi)).1
          have : (i + 1) * sz2 ≤ xs2.length * sz2 := Nat.mul_le_mul_right _ e1
          rw [Nat.add_mul] at this
          omega
        exact (h6 i x j c (vs.getD (i * sz2 + j) Go.undef) hi hj (by simp [hlt])).mono0 Fr0.killAll
    | oslStale _ _ _ _ g' sz' xs' _ hH' hg =>
      rw [hH] at hH'
      injection hH' with hH'
      injection hH' with hH'
      injection hH' with e0 _ _
      omega
    | oslDead _ _ _ _ _ hd => rw [hH] at hd; cases hd
  | agg cs ds hl h ih =>
    intro v hv
    cases hv with
    | agg _ vs hl' h' =>
      refine .agg ds vs (hl.symm.trans hl') fun j d u hj hu => ?_
      have hjc : j < cs.length := by have := lt_of_get hj; omega
      exact ih j _ d (List.getElem?_eq_getElem hjc) hj (h' j _ u (List.getElem?_eq_getElem hjc) hu)
  | sl sz xs ys hl hy h ih =>
    intro v hv
    generalize hn : xs.length = n at hl
    generalize hq : V.sl sz xs = q at hv
    cases hv with
    | sl sz' xs' a cap vals hcap hmax hsz ha hr =>
      injection hq with e1 e2
      subst e1 e2
      rw [hn, hl]
      refine .sl sz ys a cap vals (by omega) hmax hy (fun hne => ?_) (fun i y j d hi hj => ?_)
      · obtain ⟨ad, k1, _, k3, k4⟩ := ha (fun e => hne (by rw [e] at hn; exact List.length_eq_zero_iff.1 (by simp at hn; omega)))
        exact ⟨ad, k1, killAll_no _, k3, fun j hj => k4 j (by rw [hn, hl]; exact hj)⟩
      · have hix : i < xs.length := by have := lt_of_get hi; omega
        have hx := List.getElem?_eq_getElem hix
        have hc1 := (hsz _ (List.mem_of_getElem? hx)).1
        have hc2 := (hy _ (List.mem_of_getElem? hi)).1
        have hjx : j < (xs[i]).cells.length := by have := lt_of_get hj; omega
        exact ih i _ y j _ d hx hi (List.getElem?_eq_getElem hjx) hj (hr i _ j _ hx (List.getElem?_eq_getElem hjx))
    | _ => cases hq

/-- .. all at once. -/
def FzL (B : Base) : List V → List V → Prop
  | [], [] => True
  | x :: xs, y :: ys => Fz B x y ∧ FzL B xs ys
  | _, _ => False
theorem FzL.get {B : Base} : ∀ {xs ys : List V}, FzL B xs ys → xs.length = ys.length ∧ ∀ (j : Nat) (y : V), ys[j]? = some y → ∃ x, xs[j]? = some x ∧ Fz B x y
  | [], [], _ => ⟨rfl, fun j y h => by simp at h⟩
  | x :: xs, y :: ys, h => by
    obtain ⟨h1, h2⟩ := FzL.get h.2
    refine ⟨by simp [h1], fun j z hz => ?_⟩
    cases j with
    | zero => simp at hz; subst hz; exact ⟨x, rfl, h.1⟩
    | succ j => simpa using h2 j z (by simpa using hz)
  | [], _ :: _, h => h.elim
  | _ :: _, [], h => h.elim

/-- A call that is handed named memory, and hands back a number, a truth value or a text. -/
theorem call_flatN {c : Cx} {g : FuncId} {args args' : List V} {E : Env} {T : Heap} {K : V → St → Prop} {x : V} (hf : Pure c.P g args' (fun y => y = x)) (hz : FzL c.B args args') (hi : c.imps = []) (ha : V.pureL args = true) (ha' : V.pureL args' = true) (hx : flatB x = true) (h : K x ⟨E, T, c.B, c.D⟩) : CallThen c g args E T K := by
  have hen : Enterable c.P g := by
    unfold Pure Fun at hf
    exact hf.1
  unfold CallThen
  refine ⟨hen, fun w β H m a vals cs hs hl hr => ?_⟩
  obtain ⟨hzl, hzg⟩ := hz.get
  obtain ⟨y, v, w', β', H', fr, rfl, hp, g3, hb, g4, g5, g6⟩ := pure_still (β := β) (H := H.map fun _ => none) hf ha' cs (hzl.symm.trans hl) (fun j y v hj hv => by
    obtain ⟨x0, h1, h2⟩ := hzg j y hj
    have h3 := hr j x0 v h1 hv
    rw [pure_conv _ _ (pureL_mem _ ha x0 (List.mem_of_getElem? h1))] at h3
    exact h2.rep hs.hrel (fun q o hq => hs.baseAt (by rw [hi]; simp) hq) h3)
  have g2' : Fr w β H w' β H := Fr.of_below hb
  exact ⟨y, _, v, w', β, H, m, fr, h, hs.same g2' (hs.hrel.of_below hb), g2', by rw [pure_conv _ _ hp]; exact g3.flat hx, g4, g5, g6, List.prefix_refl _⟩

/-! ### Functions that write over named memory -/
/-- The same rows, of the same shapes. -/
def ShpEq (B B' : Base) : Prop := ∀ r g sz xs, B r = some (.vec g sz xs) → ∃ xs' : List V, B' r = some (.vec g sz xs') ∧ xs'.length = xs.length
theorem ShpEq.refl (B : Base) : ShpEq B B := fun r g sz xs h => ⟨xs, h, rfl⟩
theorem ShpEq.trans {A B C : Base} (h : ShpEq A B) (k : ShpEq B C) : ShpEq A C := fun r g sz xs e => by
  obtain ⟨xs', h1, h2⟩ := h r g sz xs e
  obtain ⟨xs'', k1, k2⟩ := k r g sz xs' h1
  exact ⟨xs'', k1, k2.trans h2⟩
@[irreducible] def FunW (P : Program) (g : FuncId) (args : List V) (m : List Nat) (I : Base → Prop) (Q : V → Prop) : Prop :=
  Enterable P g ∧ ∀ (w : World) (β : Nat → Loc) (H : Heap) (B : Base) (vals : Array Value) (cs : List Frame), SRel [] 0 w β H [] ⟨[], [], B, []⟩ bare → I B → args.length = vals.size →
    (∀ (j : Nat) (x : V) (v : Value), args[j]? = some x → vals[j]? = some v → Rep w β H x v) →
    ∃ (x : V) (v : Value) (w' : World) (β' : Nat → Loc) (H' : Heap) (B' : Base) (fr : Frame), Q x ∧ SRel [] 0 w' β' H' [] ⟨[], [], B', []⟩ bare ∧ ShpEq B B' ∧ (∀ q, q ∉ m → B' q = B q) ∧ Fr w β H w' β' H' ∧ Rep w' β' H' x v ∧ x.pureB = true ∧
      Steps P (lone (Frame.enter P g vals .normal) cs w) (lone fr cs w') ∧ fr.fn = g ∧ fr.leaving P w' (.returned v)
def XW (P : Program) (rs : Array ResultVar) (m : List Nat) (B : Base) (Q : V → Prop) (e : Exit) (s : St) : Prop :=
  (match e with | .normal | .ret => True | _ => False) ∧ s.D = [] ∧ (ShpEq B s.B ∧ ∀ q, q ∉ m → s.B q = B q) ∧ resK P [] s.B rs.toList s.E s.T False fun xs => frz (resV xs) s.T False fun x _ => x.pureB = true ∧ Q x

theorem funW_of_goes {P : Program} {g : FuncId} {fn : Func} {body : Code} {args : List V} {m : List Nat} {I : Base → Prop} {Q : V → Prop} (n : Nat) (hf : P.funcs[g]? = some fn) (hn : (fn.name == "runtime.NumGoroutine") = false) (hb : fn.body = some body) (hnt : Nat.ble args.length fn.ntmps = true)
    (h : ∀ B : Base, I B → evp { P := P, nt := fn.ntmps, fn := g, ro := none, imps := [], X := XW P fn.results m B Q, B := B, D := [] } n [.code body] (env0 0 args) []) : FunW P g args m I Q := by
  unfold FunW
  refine ⟨⟨fn, hf, hn, by rw [hb]; rfl⟩, fun w β H B vals cs hs hout hl hr => ?_⟩
  have hnt := Nat.le_of_ble_eq_true hnt
  have gg := evp_sound _ _ _ _ _ (h B hout)
  unfold Goes at gg
  let b : Frame := { fn := g, tmps := #[], todo := [], defers := [], mode := .run, kind := .normal }
  let a : Act := { tmps := vals ++ Array.replicate (fn.ntmps - vals.size) Go.undef, defers := [] }
  have henter : Frame.enter P g vals .normal = b.atR a [.code body] := by
    simp [Frame.enter, Frame.atR, hf, hb, b, a]
  have hasz : a.tmps.size = fn.ntmps := by simp [a]; omega
  have hrc : ∀ (j : Nat) (x : V) (v : Value), args[j]? = some x → vals[j]? = some v → Rep w β H (x.conv []) v := fun j x v hj hv => by
    rw [conv_of_rep [] x (hr j x v hj hv)]
    exact hr j x v hj hv
  have hget : ∀ k, Rep w β H ((lk (env0 0 args) k).conv []) (a.tmps.getD k Go.undef) := by
    intro k
    rw [lk_env0]
    simp only [Nat.zero_le, if_true, Nat.sub_zero]
    cases hk : args[k]? with
    | none => exact .undef _
    | some x =>
      have hkl := lt_of_get hk
      have hkv : k < vals.size := by omega
      have e : a.tmps.getD k Go.undef = vals[k] := by
        simp only [a, Array.getD_eq_getD_getElem?]
        rw [Array.getElem?_append_left hkv]
        simp [hkv]
      rw [e]
      exact hrc k x vals[k] hk (Array.getElem?_eq_getElem hkv)
  have hs0 : SRel [] fn.ntmps w β H [] ⟨env0 0 args, [], B, []⟩ a := by
    refine ⟨hs.hrel, hasz, hget, hs.mlen, hs.nodup, hs.loc, hs.imp, hs.base, hs.fut, hs.own, fun p hp => ?_, hs.scT, rfl, by simp⟩
    obtain ⟨k, hk, hx⟩ := List.mem_iff_getElem.1 (env0_mem 0 args p hp)
    have hkv : k < vals.size := by omega
    exact sc_of_rep (m := []) p.2 (hrc k p.2 vals[k] (by rw [List.getElem?_eq_getElem hk, hx]) (Array.getElem?_eq_getElem hkv))
  obtain ⟨e, s', w', β', H', m', a', hX, hs', hfr, hend⟩ := gg w β H [] a b cs hs0 rfl rfl rfl
  obtain ⟨E', T1, B', D'⟩ := s'
  obtain ⟨he, hD, hB, hres⟩ := hX
  simp only at hD hB hres
  subst hD
  rcases resK_sound (c := { P := P, nt := fn.ntmps, fn := g, ro := none, imps := [], X := fun _ _ => True, B := B', D := [] }) _ _ _ _ hres with h | ⟨xs, hq, hx⟩
  · exact h.elim
  obtain ⟨vs, h1, h2, h3⟩ := hx w' β' H' m' a' hs'
  have hrun := run_results h1
  have hrep : Rep w' β' H' ((resV xs).conv m') (if h : vs.toArray.size = 1 then vs.toArray[0] else .tuple vs.toArray) := by
    by_cases h1 : vs.length = 1
    · rw [dif_pos (by simpa using h1)]
      match xs, h2, h3 with
      | [x], _, h3 => exact h3 0 x _ rfl (by simp [h1])
      | [], h2, _ => simp at h2; omega
      | _ :: _ :: _, h2, _ => simp at h2; omega
    · rw [dif_neg (by simpa using h1)]
      have e : resV xs = .tup xs := by
        match xs, h2 with
        | [x], h2 => simp at h2; omega
        | [], _ => rfl
        | _ :: _ :: _, _ => rfl
      rw [e]
      simp only [V.conv, V.convL_eq]
      refine .tup _ _ (by simp [h2]) fun j c v hj hv => ?_
      simp only [List.getElem?_map, Option.map_eq_some_iff] at hj
      obtain ⟨x, hj, rfl⟩ := hj
      exact h3 j x v hj (by simpa using hv)
  -- what is handed back is frozen; the rest is let go
  rcases frz_sound hq with hq | ⟨x', T2, hq, hfz⟩
  · exact hq.elim
  obtain ⟨H1, g1, g2, g3⟩ := hfz.2 _ _ _ _ _ _ _ _ _ _ hs'.bare
  obtain ⟨m2, H2, e1, e2, e3⟩ := SRel.dropTo (T := []) T2 g1 (by simp) (by simp) (by simp) (by simp)
  have hm2 : m2 = [] := List.length_eq_zero_iff.1 e1.mlen
  subst hm2
  have hrep' := (g3 0 _ x' _ rfl rfl hrep).mono e2
  have hdef : a'.defers = [] := List.length_eq_zero_iff.1 hs'.defs
  cases e with
  | normal =>
    refine ⟨x', _, w', β', H2, B', { b.atR a' [] with mode := .returning }, hq.2, e1, hB.1, hB.2, (hfr.trans g2).trans e2, hrep', hq.1, ?_, rfl, ?_⟩
    · rw [henter]
      exact Steps.trans hend (.one (stepR_end rfl))
    · exact ⟨rfl, hdef, rfl, fn, hf, hrun⟩
  | ret =>
    obtain ⟨k, hend⟩ := hend
    refine ⟨x', _, w', β', H2, B', { b.atR a' (.code .ret :: k) with mode := .returning }, hq.2, e1, hB.1, hB.2, (hfr.trans g2).trans e2, hrep', hq.1, ?_, rfl, ?_⟩
    · rw [henter]
      exact Steps.trans hend (.one (stepR_ret rfl))
    · exact ⟨rfl, hdef, rfl, fn, hf, hrun⟩
  | exit id => exact he.elim
  | goto l => exact he.elim
  | panic ch => exact he.elim
  | outgrown => exact he.elim
/-- A call of one. -/
theorem call_funW {c : Cx} {g : FuncId} {args : List V} {E : Env} {Tw : Heap} {m : List Nat} {I : Base → Prop} {K : V → St → Prop} {Q : V → Prop} (hf : FunW c.P g args m I Q) (himp : c.imps = []) (hin : ∀ B, Ext c.B B → I B) (hm : ∀ q ∈ m, ∃ o, c.B q = some o) (ha : V.pureL args = true)
    (h : ∀ x B', Q x → x.pureB = true → ShpEq c.B B' → (∀ q, q ∉ m → B' q = c.B q) → K x ⟨E, Tw, B', c.D⟩) : CallThen c g args E Tw K := by
  unfold FunW at hf
  obtain ⟨hen, hf⟩ := hf
  unfold CallThen
  refine ⟨hen, fun w β H mw a vals cs hs hl hr => ?_⟩
  rw [himp] at hs
  have hHr : ∀ (q : Nat) (ob : HObj), c.B q = some ob → H[q]? = some (some ob) := fun q ob hq => hs.baseAt (by simp) hq
  have hnot : ∀ q, q ∈ m → q ∉ mw := fun q hq => by
    obtain ⟨o, e2⟩ := hm q hq
    exact hs.notIn e2 (by simp)
  have hs0 : SRel [] 0 w β H [] ⟨[], [], fun r => (H[r]?).getD none, []⟩ bare := by
    refine ⟨hs.hrel, rfl, fun k => by simp [lk, V.conv]; exact .undef _, rfl, List.nodup_nil, by simp, rfl, fun r h _ => ?_, fun r h1 => ?_, by simp, by simp, by simp, rfl, by simp⟩
    · simp [h]
    · simp [List.getElem?_eq_none h1]
  obtain ⟨x, v, w', β', H', B', fr, hq, k1, k2, k3, k4, k5, k6, k7, k8, k9⟩ := hf w β H _ vals cs hs0 (hin _ fun q o hq => by simp [hHr q o hq]) hl (fun j x v hj hv => by
    have h1 := hr j x v hj hv
    rwa [pure_conv _ _ (pureL_mem _ ha x (List.mem_of_getElem? hj))] at h1)
  have hH' : ∀ q, q < H'.length → H'[q]? = some (B' q) := fun q hq => k1.base q hq (by simp)
  have hlen := k4.len
  have hold : ∀ q, q < H.length → q ∉ m → H'[q]? = H[q]? := fun q hq hm => by
    rw [hH' q (Nat.lt_of_lt_of_le hq hlen), k3 q hm]
    simp [hq]
  obtain ⟨B1, hB1⟩ : ∃ B1 : Base, B1 = fun q => if q ∈ m then B' q else c.B q := ⟨_, rfl⟩
  have hBm : ∀ q, q ∈ m → B1 q = B' q := fun q hq => by rw [hB1]; simp [hq]
  have hBn : ∀ q, q ∉ m → B1 q = c.B q := fun q hq => by rw [hB1]; simp [hq]
  have hout1 : ShpEq c.B B1 := fun r g sz xs hr => by
    by_cases hrm : r ∈ m
    · rw [hBm r hrm]
      exact k2 r g sz xs (by simp [hHr r _ hr])
    · rw [hBn r hrm]
      exact ⟨xs, hr, rfl⟩
  refine ⟨x, _, v, w', β', H', mw, fr, h x B1 hq k6 hout1 hBn, ?_, k4, by rw [pure_conv _ _ k6]; exact k5, k7, k8, k9, List.prefix_refl _⟩
  rw [himp]
  have hmlt : ∀ q, q ∈ m → q < H.length := fun q hq => by
    obtain ⟨o, e2⟩ := hm q hq
    exact lt_of_get (hHr q _ e2)
  refine ⟨k1.hrel, hs.size, fun k => (hs.env k).mono k4, hs.mlen, hs.nodup, fun j q ob hj hob => ?_, rfl, fun q hq hqm => ?_, fun q hq => ?_, fun j q hj hq => ?_, hs.scE, hs.scT, hs.defs, ?_⟩
  · have hqm : q ∉ m := fun hm => hnot q hm (List.mem_of_getElem? hj)
    rw [hold q (hs.lt hj) hqm]
    exact hs.loc j q ob hj hob
  · by_cases hm : q ∈ m
    · simp only
      rw [hBm q hm]
      exact hH' q hq
    · simp only
      rw [hBn q hm]
      rcases Nat.lt_or_ge q H.length with h1 | h1
      · rw [hold q h1 hm]
        exact hs.base q h1 hqm
      · have e0 : c.B q = none := hs.fut q h1
        rw [hH' q hq, k3 q hm, e0, List.getElem?_eq_none h1]
        rfl
  · have hm : q ∉ m := fun hm => by have := hmlt q hm; omega
    simp only
    rw [hBn q hm]
    exact hs.fut q (Nat.le_trans hlen hq)
  · have hqm : q ∉ m := fun hm => hnot q hm (List.mem_of_getElem? hq)
    simp only
    rw [hBn q hqm]
    exact hs.own j q hj hq
  · intro j q hj
    obtain ⟨r', b', N', e1, e2, e3, e4⟩ := hs.marks j q hj
    refine ⟨r', b', N', e1, e2, ?_, e4⟩
    have hqm : r' ∉ m := fun hm => hnot r' hm (List.mem_of_getElem? e1)
    have hH0 := hs.loc q r' _ e1 e2
    exact dfr_stays k4 (by simpa [HObj.conv] using hH0) e3 (by rw [hold r' (hs.lt e1) hqm, hH0]; rfl)


/-! ### Stores into named memory -/
section
variable {c : Cx} {E : Env} {T : Heap} {ops : Array Oper} {i : Nat} {rest : List Nat} {k : List Item} {o : Oper}

theorem goes_fieldA {t : TypeId} {x : Operand} {f r g ix off sz : Nat} {xs : List V} {fs : Array Field} {fd : Field} {ti : TypeInfo} (n : Nat) (ho : lget ops.toList i = some o) (hg : o.guard = none) (hop : o.op = .fieldAddr t x f) (hx : opd E x = .eptr (.abs r) g ix off)
    (ht : tyU c.P t = some (.struct fs)) (hfd : lget fs.toList f = some fd) (hti : tyI c.P fd.type = some ti) (hsz : Nat.ble 1 ti.size = true) (hi : r ∉ c.imps) (hB : c.B r = some (.vec g sz xs))
    (h : putE c.nt o.dst (.eptr (.abs r) g ix (off + fd.offset)) E False fun E' => evp c n (.inRegion ops rest :: k) E' T) : Goes c (.inRegion ops (i :: rest) :: k) E T := by
  refine goes_opTo n ho hg hop (OpTo.still fun o hop w β H m a hs => ?_) (fun cl h => by cases h) h
  have hp := opd_rep hs x
  have hH : H[r]? = some (some (.vec g sz xs)) := hs.baseAt hi hB
  rw [lget_eq] at hfd
  have hf : fs[f]? = some fd := by simpa using hfd
  simp only [hx, V.conv, Ref.conv] at hp
  generalize hq : a.eval x = q at hp
  cases hp with
  | eptrLive _ _ _ _ sz' xs' b N hH' hβ hi =>
    refine ⟨.pointer (some ((⟨b, ix * sz' + off, none⟩ : Addr).add fd.offset)), by simp [execOp, hop, hq, run_fieldAt (tyU_sound ht) hf (tyI_sound hti) (Nat.le_of_ble_eq_true hsz)], ?_⟩
    rw [add_none, Nat.add_assoc]
    exact .eptrLive r g ix _ sz' xs' b N hH' hβ hi
  | eptrStale _ _ _ _ g' sz' xs' _ hH' hg =>
    rw [hH] at hH'
    injection hH' with hH'
    injection hH' with hH'
    injection hH' with e0 _ _
    omega
  | eptrDead _ _ _ _ _ hd => rw [hH] at hd; cases hd

theorem over_has {α : Type} (xs cs : List α) (n : Nat) (h : n + cs.length ≤ xs.length) : ∃ ys, over xs n cs ys := by
  refine ⟨xs.take n ++ cs ++ xs.drop (n + cs.length), h, by simp; omega, fun j => ?_⟩
  rcases Nat.lt_or_ge j n with h1 | h1
  · rw [if_neg (by omega), List.append_assoc, List.getElem?_append_left (by simp; omega), List.getElem?_take, if_pos h1]
  · rcases Nat.lt_or_ge j (n + cs.length) with h2 | h2
    · rw [if_pos ⟨h1, h2⟩, List.getElem?_append_left (by simp; omega), List.getElem?_append_right (by simp; omega)]
      have : min n xs.length = n := by omega
      simp [this]
    · rw [if_neg (by omega), List.getElem?_append_right (by simp; omega)]
      have e1 : min n xs.length = n := by omega
      simp only [List.length_append, List.length_take, e1, List.getElem?_drop]
      rw [Nat.add_sub_cancel' h2]

theorem goes_storeA {t : TypeId} {x y : Operand} {r g ix off sz : Nat} {xs : List V} {ti : TypeInfo} (n : Nat) (ho : lget ops.toList i = some o) (hg : o.guard = none) (hop : o.op = .store t x y) (hx : opd E x = .eptr (.abs r) g ix off)
    (hb : (Nat.beq (lcount (opd E y).cells 0) ti.size && onesB (opd E y).cells && V.pureL (opd E y).cells) = true) (ht : tyI c.P t = some ti) (hi : r ∉ c.imps) (hB : c.B r = some (.vec g sz xs)) (hl : ix < xs.length) (hoff : off + ti.size ≤ sz)
    (h : ∀ B' xs', xs'.length = xs.length → B' r = some (.vec g sz xs') → (∀ q, q ≠ r → B' q = c.B q) → putE c.nt o.dst (.tup []) E False fun E' => evp { c with B := B' } n (.inRegion ops rest :: k) E' T) :
    Goes c (.inRegion ops (i :: rest) :: k) E T := by
  rw [lget_eq, Array.getElem?_toList] at ho
  rw [lcount_eq] at hb
  simp only [Bool.and_eq_true, Nat.add_zero] at hb
  have hsz := Nat.eq_of_beq_eq_true hb.1.1
  refine goes_step fun w β H m a fb cs hs _ _ _ => ?_
  have hp := opd_rep hs x
  have hH : H[r]? = some (some (.vec g sz xs)) := hs.baseAt hi hB
  have hrm : r ∉ m := hs.notIn hB hi
  simp only [hx, V.conv, Ref.conv] at hp
  have hob := hs.hrel.obj r _ hH
  generalize hv : a.eval x = q at hp
  cases hp with
  | eptrStale _ _ _ _ g' sz' xs' _ hH' hg =>
    rw [hH] at hH'
    injection hH' with hH'
    injection hH' with hH'
    injection hH' with e0 _ _
    omega
  | eptrDead _ _ _ _ _ hd => rw [hH] at hd; cases hd
  | eptrLive _ _ _ _ sz' xs' b N hH' hβ hi' =>
  rw [hH] at hH'
  injection hH' with hH'
  injection hH' with hH'
  injection hH' with _ e1 e2
  subst e1 e2
  obtain ⟨x0, hx0⟩ : ∃ x0, xs[ix]? = some x0 := ⟨_, List.getElem?_eq_getElem hl⟩
  rw [hβ] at hob
  obtain ⟨vs, e, hty, hbk, hN, hle, hpos, hok, hc⟩ := hob
  have hy : Rep w β H ((opd E y).conv m) (a.eval y) := opd_rep hs y
  obtain ⟨hyl, hyc, hy1⟩ := rep_cells hy (by rw [cells_conv, onesB_conv]; exact hb.1.2)
  rw [cells_conv, pureL_conv _ _ hb.2] at hyl hyc
  obtain ⟨hx0l, hx0o⟩ := hok x0 (List.mem_of_getElem? hx0)
  obtain ⟨cs', ho'⟩ := over_has x0.cells (opd E y).cells off (by omega)
  have hixl := hl
  have hrow : ix * sz + sz ≤ vs.size := by
    have : (ix + 1) * sz ≤ xs.length * sz := Nat.mul_le_mul_right _ hixl
    rw [Nat.add_mul] at this
    omega
  have hofit : off + (opd E y).cells.length ≤ x0.cells.length := ho'.1
  have hfit : ix * sz + off + (a.eval y).cells.size ≤ vs.size := by omega
  have hrun := run_storeCells_at c.P b (ix * sz + off) e (a.eval y).cells.toList 0 vs w hbk (by simpa using hfit) hy1
  have hI := tyI_sound ht
  obtain ⟨vs', hvs'⟩ : ∃ vs', vs' = (vs.toList.take (ix * sz + off + 0) ++ (a.eval y).cells.toList ++ vs.toList.drop (ix * sz + off + 0 + (a.eval y).cells.toList.length)).toArray := ⟨_, rfl⟩
  rw [← hvs'] at hrun
  have hheap : (w.setRow b vs').heap[b]? = some (.cells vs' e (0, 0)) := setRow_heap w b vs _ e _ hbk
  have hother : ∀ q, q ≠ b → (w.setRow b vs').heap[q]? = w.heap[q]? := fun q hq => setRow_other w b q _ hq
  have hvsz : vs'.size = vs.size := by rw [hvs']; simp; omega
  have hget : ∀ j, vs'[j]? = if ix * sz + off ≤ j ∧ j < ix * sz + off + (a.eval y).cells.size then (a.eval y).cells[j - (ix * sz + off)]? else vs[j]? := by
    intro j
    rw [hvs']
    simp only [Nat.add_zero, Array.length_toList, List.getElem?_toArray]
    rcases Nat.lt_or_ge j (ix * sz + off) with h1 | h1
    · rw [if_neg (by omega), List.getElem?_append_left (by simp; omega), List.getElem?_append_left (by simp; omega), List.getElem?_take, if_pos h1]
      simp
    · rcases Nat.lt_or_ge j (ix * sz + off + (a.eval y).cells.size) with h2 | h2
      · rw [if_pos ⟨h1, h2⟩, List.getElem?_append_left (by simp; omega), List.getElem?_append_right (by simp; omega)]
        have : min (ix * sz + off) vs.size = ix * sz + off := by omega
        simp [this]
      · rw [if_neg (by omega), List.getElem?_append_right (by simp; omega)]
        have e1 : min (ix * sz + off) vs.size = ix * sz + off := by omega
        simp only [List.length_append, List.length_take, Array.length_toList, e1, List.getElem?_drop]
        rw [Nat.add_sub_cancel' h2]
        simp
  have hones : onesB cs' = true := by
    rw [onesB_iff]
    intro z hz
    obtain ⟨j, hj, rfl⟩ := List.mem_iff_getElem.1 hz
    have := ho'.2.2 j
    rw [List.getElem?_eq_getElem hj] at this
    split at this
    · exact (onesB_iff _).1 hb.1.2 _ (List.mem_of_getElem? this.symm)
    · exact (onesB_iff _).1 hx0o _ (List.mem_of_getElem? this.symm)
  have hcs' : cs'.length = sz := ho'.2.1.trans hx0l
  have hmk : (mkE x0 cs').cells = cs' := mkE_cells x0 cs' hones
  obtain ⟨xs', hxs'⟩ : ∃ xs', xs' = xs.set ix (mkE x0 cs') := ⟨_, rfl⟩
  have hxl : xs'.length = xs.length := by rw [hxs']; simp
  have hfr : Fr w β H (w.setRow b vs') β (H.set r (some (.vec g sz xs'))) := Fr.turn hH hβ ⟨Nat.le_refl _, fun _ => ⟨rfl, hxl.symm⟩⟩ rfl rfl rfl (by simp [World.setRow]) hother
  have hok' : ∀ x ∈ xs', okE sz x := fun x hx => by
    rw [hxs'] at hx
    rcases List.mem_or_eq_of_mem_set hx with h1 | h1
    · exact hok x h1
    · subst h1
      exact ⟨by rw [hmk]; exact hcs', by rw [hmk]; exact hones⟩
  have hrel : HRel (w.setRow b vs') β (H.set r (some (.vec g sz xs'))) := by
    refine hs.hrel.turn hH hβ ⟨Nat.le_refl _, fun _ => ⟨rfl, hxl.symm⟩⟩ rfl rfl rfl (by simp [World.setRow]) hother ⟨vs', e, hty, hheap, by omega, by rw [hxl]; omega, hpos, hok', fun i1 z j z1 u hi1 hj hu => ?_⟩
    refine Rep.mono ?_ hfr
    rw [hget] at hu
    have hzl := (hok' z (List.mem_of_getElem? hi1)).1
    have hjl := lt_of_get hj
    rw [hxs'] at hi1
    by_cases hii : i1 = ix
    · subst hii
      rw [List.getElem?_set_self hixl] at hi1
      injection hi1 with hi1
      subst hi1
      rw [hmk, ho'.2.2 j] at hj
      split at hj
      · rename_i hjj
        rw [if_pos (by omega)] at hu
        refine hyc (j - off) z1 u hj ?_
        rw [← hu]
        congr 1
        omega
      · rename_i hjj
        rw [if_neg (by omega)] at hu
        exact hc i1 x0 j z1 u hx0 hj hu
    · rw [List.getElem?_set_ne (fun e => hii e.symm)] at hi1
      have hne : ¬ (ix * sz + off ≤ i1 * sz + j ∧ i1 * sz + j < ix * sz + off + (a.eval y).cells.size) := by
        rintro ⟨q1, q2⟩
        rcases Nat.lt_or_gt_of_ne hii with h3 | h3
        · have : (i1 + 1) * sz ≤ ix * sz := Nat.mul_le_mul_right _ h3
          rw [Nat.add_mul] at this
          omega
        · have : (ix + 1) * sz ≤ i1 * sz := Nat.mul_le_mul_right _ h3
          rw [Nat.add_mul] at this
          omega
      rw [if_neg hne] at hu
      exact hc i1 z j z1 u hi1 hj hu
  obtain ⟨B', hB'⟩ : ∃ B' : Base, B' = fun q => if q = r then some (.vec g sz xs') else c.B q := ⟨_, rfl⟩
  have hBr : B' r = some (.vec g sz xs') := by rw [hB']; simp
  have hBn : ∀ q, q ≠ r → B' q = c.B q := fun q hq => by rw [hB']; simp [hq]
  have hrl := lt_of_get hH
  have hset : SRel c.imps c.nt (w.setRow b vs') β (H.set r (some (.vec g sz xs'))) m ⟨E, T, B', c.D⟩ a := by
    refine ⟨hrel, hs.size, fun k => (hs.env k).mono hfr, hs.mlen, hs.nodup, fun j q ob hj hob => ?_, hs.imp, fun q hq hqm => ?_, fun q hq => ?_, fun j q hj hq => ?_, hs.scE, hs.scT, hs.defs, hs.marks⟩
    · have hqr : q ≠ r := fun e => hrm (e ▸ List.mem_of_getElem? hj)
      rw [List.getElem?_set_ne (fun e => hqr e.symm)]
      exact hs.loc j q ob hj hob
    · simp only
      by_cases hqr : q = r
      · subst hqr
        rw [List.getElem?_set_self hrl, hBr]
      · rw [List.getElem?_set_ne (fun e => hqr e.symm), hBn q hqr]
        exact hs.base q (by simpa using hq) hqm
    · have hqr : q ≠ r := fun e => by subst e; simp at hq; omega
      simp only
      rw [hBn q hqr]
      exact hs.fut q (by simpa using hq)
    · have hqr : q ≠ r := fun e => hrm (e ▸ List.mem_of_getElem? hq)
      simp only
      rw [hBn q hqr]
      exact hs.own j q hj hq
  obtain ⟨E', hk, hd⟩ := (putE_some (h B' xs' hxl hBr hBn)).resolve_left id
  have hput := hset.putTo (d := o.dst) (x := .tup []) (v := Go.undef) (E' := E') (.tup [] #[] rfl fun j z u h1 _ => by simp at h1) hd
  refine ⟨w.setRow b vs', β, _, m, a.put o.dst Go.undef, _, ⟨E', T, B', c.D⟩, op_step (c := c) ho (wanted_none hg _) (fun cl e => by rw [hop] at e; cases e) (nx := .skip) ?_ (.inr ⟨rfl, rfl⟩), hput, hfr, evp_sound n _ _ _ _ hk⟩
  simp [execOp, hop, Instr.storeAt, Instr.sureAddr, hv, storeVar, run_sizeOf' hI, ← hsz, ← hyl, hrun]
end
end Bow
/- AE46: a nil slice in a cell of a box, as own memory; named results that say less. -/
namespace Bow
open Go

section
variable {c : Cx} {E : Env} {T : Heap}
theorem goes_nilCell {todo : List Item} (kb j sz : Nat) {cs : List V} (hk : lget T kb = some (some (.box cs))) (hj : cs[j]? = some .nilsl) (h : Goes c todo E (List.set (T ++ [some (HObj.vec 0 sz [])]) kb (some (HObj.box (cs.set j (.osl (.loc T.length) 0 0 0)))))) : Goes c todo E T := by
  rw [lget_eq] at hk
  refine goes_step fun w β H m a b cs0 hs _ _ _ => ?_
  obtain ⟨β', H', k1, k2, k3⟩ := hs.newNil 0 sz none
  have hk2 : (T ++ [some (HObj.vec 0 sz [])])[kb]? = some (some (.box cs)) := by rw [List.getElem?_append_left (lt_of_get hk)]; exact hk
  obtain ⟨r, hr, hH⟩ := k1.at hk2
  have hob := k1.hrel.obj r _ hH
  have hfr : Fr w β' H' w β' (H'.set r (some ((HObj.box (cs.set j (.osl (.loc T.length) 0 0 0))).conv (m ++ [H.length])))) := Fr.swap hH trivial
  have hrel : HRel w β' (H'.set r (some ((HObj.box (cs.set j (.osl (.loc T.length) 0 0 0))).conv (m ++ [H.length])))) := by
    refine k1.hrel.swap hH trivial ?_
    simp only [HObj.conv]
    cases hβ : β' r with
    | none => trivial
    | nil => rw [hβ] at hob; exact hob
    | blk bb N =>
      rw [hβ] at hob
      obtain ⟨vs, e, q1, q2, q3, q4⟩ := hob
      rw [V.convL_eq, List.length_map] at q3
      refine ⟨vs, e, q1, q2, by rw [V.convL_eq]; simpa using q3, fun i x v hi hv => ?_⟩
      rw [V.convL_eq, List.getElem?_map, Option.map_eq_some_iff] at hi
      obtain ⟨y, hy, rfl⟩ := hi
      by_cases hij : i = j
      · subst hij
        rw [List.getElem?_set_self (lt_of_get hj)] at hy
        injection hy with hy
        subst hy
        have h0 := q4 i .nilsl v (by rw [V.convL_eq, List.getElem?_map, hj]; rfl) hv
        cases h0
        exact k3.mono (by rw [← HObj.conv]; exact hfr)
      · rw [List.getElem?_set_ne (fun e => hij e.symm)] at hy
        exact (q4 i _ v (by rw [V.convL_eq, List.getElem?_map, hy]; rfl) hv).mono (by rw [← HObj.conv]; exact hfr)
  have hm : m.length = T.length := hs.mlen
  have hsc0 : (HObj.box cs).sc (m ++ [H.length]).length := by
    have h1 := k1.scT kb _ hk2
    have h2 : (m ++ [H.length]).length = (T ++ [some (HObj.vec 0 sz [])]).length := k1.mlen
    rw [h2]
    exact h1
  have hset := k1.setAt (o' := some (.box (cs.set j (.osl (.loc T.length) 0 0 0)))) (w' := w) hr (fun o1 e1 => by
      injection e1 with e1
      subst e1
      show V.scL _ _
      rw [V.scL_iff]
      have hsc' := (V.scL_iff _ _).1 hsc0
      intro v hv
      rcases List.mem_or_eq_of_mem_set hv with hv | hv
      · exact hsc' v hv
      · subst hv
        show T.length < (m ++ [H.length]).length
        simp only [List.length_append, List.length_singleton]
        omega)
    (fun hm => absurd hm (k1.notD hk2 (by simp))) hfr hrel
  exact ⟨w, β', _, m ++ [H.length], a, todo, ⟨E, _, c.B, c.D⟩, .refl _ _, hset, k2.trans hfr, h⟩
end

theorem funN_wk {P : Program} {g : FuncId} {args : List V} {Q : V → Base → Prop} (h : FunN P g args fun x N => ∃ y, Wk x y ∧ y.pureB = true ∧ Q y N) : FunN P g args Q := by
  unfold FunN at *
  refine ⟨h.1, fun w β H B vals cs hs hl hr => ?_⟩
  obtain ⟨x, N, v, w', β', H', fr, ⟨y, q1, q2, q3⟩, k1, k2, k3, k4, k5, k6⟩ := h.2 w β H B vals cs hs hl hr
  exact ⟨y, N, v, w', β', H', fr, q3, k1, k2, k3, q1 _ _ _ _ k4, q2, k6⟩
/-- One that leaves nothing behind. -/
theorem funN_of_pure {P : Program} {g : FuncId} {args : List V} {Q : V → Prop} (h : Pure P g args Q) (ha : V.pureL args = true) : FunN P g args fun x _ => Q x := by
  refine (funN_of_fun h ha fun x T' hq => by rw [hq.1]; rfl).mono fun x N => ?_
  rintro ⟨x', T', m', ⟨_, hp, hq⟩, rfl, _⟩
  rw [pure_conv _ _ hp]
  exact hq
end Bow
/- AE47: a function whose named memory nobody looks at any more. -/
namespace Bow
open Go

/-- Names let go. -/
theorem letGo {w : World} {β : Nat → Loc} {H : Heap} {B N : Base} (h : SRel [] 0 w β H [] ⟨[], [], B.add N, []⟩ bare) : ∃ H2, SRel [] 0 w β H2 [] ⟨[], [], B, []⟩ bare ∧ Fr w β H w β H2 := by
  have hH : ∀ q, q < H.length → H[q]? = some ((B.add N) q) := fun q hq => h.base q hq (by simp)
  obtain ⟨H2, hH2⟩ : ∃ H2 : Heap, H2 = (List.range H.length).map B := ⟨_, rfl⟩
  have hl : H2.length = H.length := by rw [hH2]; simp
  have hg : ∀ q, q < H.length → H2[q]? = some (B q) := fun q hq => by rw [hH2]; simp [hq]
  have hsub : ∀ q o, H2[q]? = some (some o) → H[q]? = some (some o) := fun q o hq => by
    have hlt : q < H.length := by rw [← hl]; exact lt_of_get hq
    rw [hg q hlt] at hq
    injection hq with hq
    rw [hH q hlt, Ext.add B N q o hq]
  have f : Fr w β H w β H2 := by
    refine ⟨⟨rfl, rfl, rfl, Nat.le_refl _, by rw [hl]; exact Nat.le_refl _, fun r o' _ ho => ⟨o', hsub r o' ho, Evo.refl _, fun _ _ => rfl⟩, fun _ _ _ => rfl, ?_, fun _ _ => rfl⟩, fun _ _ h => h⟩
    rintro b ⟨r, M, ⟨o, ho⟩, hb⟩
    exact .inr ⟨r, M, ⟨o, hsub r o ho⟩, hb⟩
  refine ⟨H2, ⟨?_, rfl, fun k => by simp [lk, V.conv]; exact .undef _, rfl, List.nodup_nil, by simp, rfl, fun r hr _ => ?_, fun r hr => ?_, by simp, by simp, by simp, rfl, by simp⟩, f⟩
  · refine h.hrel.step f (fun r o ho => .inl ⟨hsub r o ho, rfl, fun _ _ _ => rfl⟩) ?_
    rintro r r' b M M' ⟨o, ho⟩ ⟨o', ho'⟩ hb hb'
    exact h.hrel.inj r r' b M M' ⟨o, hsub r o ho⟩ ⟨o', hsub r' o' ho'⟩ hb hb'
  · exact hg r (by rw [← hl]; exact hr)
  · have h1 : (B.add N) r = none := h.fut r (by rw [← hl]; exact hr)
    show B r = none
    cases hb : B r with
    | none => rfl
    | some o => rw [Ext.add B N r o hb] at h1; cases h1
theorem pure_of_funN {P : Program} {g : FuncId} {args : List V} {Q : V → Prop} (h : FunN P g args fun x _ => Q x) (ha : V.pureL args = true) : Pure P g args Q := by
  unfold FunN at h
  unfold Pure Fun
  refine ⟨h.1, fun w β H m B vals cs hs hl hr => ?_⟩
  have hm : m = [] := List.length_eq_zero_iff.1 hs.mlen
  subst hm
  obtain ⟨x, N, v, w', β', H', fr, hq, hN, k1, k2, k3, k4, k5⟩ := h.2 w β H B vals cs hs hl (fun j x v hj hv => by
    have h1 := hr j x v hj hv
    rwa [pure_conv _ _ (pureL_mem _ ha x (List.mem_of_getElem? hj))] at h1)
  obtain ⟨H2, e1, e2⟩ := letGo k1
  exact ⟨x, [], v, w', β', H2, [], fr, ⟨rfl, k4, hq⟩, e1, k2.trans e2, by rw [pure_conv _ _ k4]; exact k3.mono e2, k5⟩
end Bow
/- AE48: ranges over functions that hold the ranging side's objects; arguments that say less. -/
namespace Bow
open Go

/-- From the ranging side: all that it holds is turned. The function is handed the name of the loop. -/
theorem call_rangedC {c : Cx} {g : FuncId} {first cap : List V} {kl : Nat} {E : Env} {T : Heap} {K : V → St → Prop} {Q : V → Heap → Prop} (hlive : allLive T = true) (hkl : kl < T.length)
    (hf : ∀ (m : List Nat), m.length = T.length → FunB c.P g m T (V.convL m (first ++ [.yld (.loc kl)] ++ cap)) Q)
    (h : ∀ x T', Q x T' → x.pureB = true → T'.length = T.length → (∀ k ∈ c.D, T'[k]? = some (some .dfr)) ∧ K x ⟨E, T', c.B, c.D⟩) : CallThen c g (first ++ [.yld (.loc kl)] ++ cap) E T K := by
  have hen : Enterable c.P g := by
    have h0 := hf (List.replicate T.length 0) (by simp)
    unfold FunB at h0
    exact h0.1
  unfold CallThen
  refine ⟨hen, fun w β H m a vals cs hs hl hr => ?_⟩
  have hml : m.length = T.length := hs.mlen
  have hff := hf m hml
  unfold FunB at hff
  have hs0 : SRel [] 0 w β H [] ⟨[], [], fun r => (H[r]?).getD none, []⟩ bare := by
    refine ⟨hs.hrel, rfl, fun k => by simp [lk, V.conv]; exact .undef _, rfl, List.nodup_nil, by simp, rfl, fun r h _ => ?_, fun r h1 => ?_, by simp, by simp, by simp, rfl, by simp⟩
    · simp [h]
    · simp [List.getElem?_eq_none h1]
  have hout0 : Out m T (fun r => (H[r]?).getD none) := ⟨hml, hs.nodup, fun k r hk => by
    have hkT : k < T.length := by have := lt_of_get hk; omega
    have e := List.getElem?_eq_getElem hkT
    obtain ⟨ob, hob⟩ := allLive_get hlive k _ e
    rw [hob] at e
    have hH := hs.loc k r _ hk e
    refine ⟨ob, e, by simp [hH], ?_⟩
    rw [hml]
    exact hs.scT k ob e⟩
  obtain ⟨x, T', v, w', β', H', B', fr, hq, k1, k2, k3, k4, k5, k6, k7, k8, k9⟩ := hff.2 w β H _ vals cs hs0 hout0 (by rw [← hl, V.convL_eq]; simp) (fun j x v hj hv => by
    rw [V.convL_eq, List.getElem?_map, Option.map_eq_some_iff] at hj
    obtain ⟨y, hj, rfl⟩ := hj
    exact hr j y v hj hv)
  have hH' : ∀ q, q < H'.length → H'[q]? = some (B' q) := fun q hq => k1.base q hq (by simp)
  have hlen := k4.len
  have hTl : T'.length = T.length := by rw [← k2.len, hml]
  obtain ⟨hD, hk⟩ := h x T' hq k6 hTl
  have hloc' : ∀ (k r : Nat) (o : Option HObj), m[k]? = some r → T'[k]? = some o → H'[r]? = some (o.map (HObj.conv m)) := fun k r o hk ho => by
    obtain ⟨ob, e1, e2, _⟩ := k2.at_ k r hk
    rw [e1] at ho
    injection ho with ho
    subst ho
    rw [hH' r (Nat.lt_of_lt_of_le (hs.lt hk) hlen), e2]
    rfl
  refine ⟨x, _, v, w', β', H', m, fr, hk, ?_, k4, by rw [pure_conv _ _ k6]; exact k5, k7, k8, k9, List.prefix_refl _⟩
  refine ⟨k1.hrel, hs.size, fun k => (hs.env k).mono k4, by rw [hTl]; exact hml, hs.nodup, hloc', hs.imp, fun q hq hqm => ?_, fun q hq => hs.fut q (Nat.le_trans hlen hq), hs.own, fun p hp => by simp only; rw [hTl]; exact hs.scE p hp, fun k o ho => ?_, hs.defs, ?_⟩
  · rw [hH' q hq, k3 q hqm]
    rcases Nat.lt_or_ge q H.length with h1 | h1
    · have := hs.base q h1 hqm
      rw [this]
      rfl
    · have e0 : c.B q = none := hs.fut q h1
      simp only
      rw [e0, List.getElem?_eq_none h1]
      rfl
  · have hkm : k < m.length := by have := lt_of_get ho; simp only at this; omega
    obtain ⟨ob, e1, _, e3⟩ := k2.at_ k m[k] (List.getElem?_eq_getElem hkm)
    simp only at ho ⊢
    rw [e1] at ho
    injection ho with ho
    injection ho with ho
    subst ho
    rw [hTl, ← hml]
    exact e3
  · intro j q hj
    obtain ⟨r', b', N', e1, e2, e3, e4⟩ := hs.marks j q hj
    have hT' := hD q (List.mem_of_getElem? hj)
    refine ⟨r', b', N', e1, hT', ?_, e4⟩
    refine dfr_stays k4 (by simpa [HObj.conv] using hs.loc q r' _ e1 e2) e3 ?_
    simpa [HObj.conv] using hloc' q r' _ e1 hT'


/-- A range of one round, over a function that holds the ranging side's objects. -/
theorem goes_range1 {c : Cx} {f : Operand} {ps : Array Tmp} {assign body : Code} {k : List Item} {E : Env} {T pre' : Heap} {g : FuncId} {first cap y : List V} (n L : Nat)
    (hro : c.ro = none) (hf : opd E f = .fn (.func g) first cap) (hL : T.length = L) (hL' : pre'.length = L) (hlive : allLive T = true) (hlive' : allLive pre' = true)
    (hps : ps.size = y.length) (hpl : ps.toList.all (Nat.blt · c.nt) = true) (hy : V.pureL y = true) (hD : ∀ k ∈ c.D, pre'[k]? = some (some .dfr))
    (hit : ∀ m : List Nat, m.length = L + 2 → (∃ ob, (rHeap c E ps assign body T .ready none)[L + 1]? = some (some ob) ∧ isLoop ob) → YieldOk c.P (rHeap c E ps assign body T .ready none) (L + 1) y true (rHeap c E ps assign body pre' .ready none) →
      FunB c.P g m (rHeap c E ps assign body T .ready none) (V.convL m (first ++ [.yld (.loc (L + 1))] ++ cap)) (fun _ T'' => T'' = rHeap c E ps assign body pre' .ready none))
    (step : ∀ (imps : List Nat) (B : Base) (r l : Nat), imps.length = L + 2 → imps[L + 1]? = some r →
      evp (roundX c E ps assign body imps B r l L pre' none) n [.code assign, .beginRound, .code body] (psEnv ps.toList y E) (rHeap c E ps assign body T .ready none))
    (K : evp { c with D := L :: c.D } n k E (rHeap c E ps assign body pre' .exhausted none)) :
    Goes c (.code (.rangeFunc f ps assign body) :: k) E T := by
  refine goes_rangeFunc n hro hf ?_
  rw [hL]
  have hR := round_yield n hL hL' hps hpl hy hlive' step
  have hT : T ++ [some HObj.dfr] ++ [some (.loop .ready none c.fn E c.nt ps assign body)] = rHeap c E ps assign body T .ready none := rfl
  rw [hT]
  refine call_rangedC (c := { c with D := L :: c.D }) (rHeap_live hlive) (by rw [rHeap_len, hL]; omega) (fun m hm => hit m (by rw [hm, rHeap_len, hL]) ⟨_, rHeap_loop hL, trivial⟩ hR) ?_
  rintro x T' rfl _ _
  refine ⟨fun q hq => ?_, ?_⟩
  · rcases List.mem_cons.1 hq with rfl | hq
    · exact rHeap_dfr hL'
    · have h1 := hD q hq
      rw [rHeap_pre (lt_of_get h1)]
      exact h1
  · unfold loopEnd
    rw [lget_eq, rHeap_loop hL']
    simp only
    refine ⟨trivial, ?_⟩
    rw [lset_eq, rHeap_set hL']
    exact K

/-- Arguments that say less, at a call. -/
def WkA : List V → List V → Prop
  | [], [] => True
  | x :: xs, y :: ys => (x = y ∨ (x.pureB = true ∧ y.pureB = true ∧ Wk x y)) ∧ WkA xs ys
  | _, _ => False
theorem WkA.get : ∀ {xs ys : List V}, WkA xs ys → xs.length = ys.length ∧ ∀ (j : Nat) (y : V), ys[j]? = some y → ∃ x, xs[j]? = some x ∧ (x = y ∨ (x.pureB = true ∧ y.pureB = true ∧ Wk x y))
  | [], [], _ => ⟨rfl, fun j y h => by simp at h⟩
  | x :: xs, y :: ys, h => by
    obtain ⟨h1, h2⟩ := WkA.get h.2
    refine ⟨by simp [h1], fun j z hz => ?_⟩
    cases j with
    | zero => simp at hz; subst hz; exact ⟨x, rfl, h.1⟩
    | succ j => simpa using h2 j z (by simpa using hz)
  | [], _ :: _, h => h.elim
  | _ :: _, [], h => h.elim
theorem call_wk {c : Cx} {g : FuncId} {args args' : List V} {E : Env} {T : Heap} {K : V → St → Prop} (hw : WkA args args') (h : CallThen c g args' E T K) : CallThen c g args E T K := by
  unfold CallThen at *
  obtain ⟨hl, hg⟩ := hw.get
  refine ⟨h.1, fun w β H m a vals cs hs hlen hr => h.2 w β H m a vals cs hs (by omega) fun j y v hj hv => ?_⟩
  obtain ⟨x, hx, hxy⟩ := hg j y hj
  have h1 := hr j x v hx hv
  rcases hxy with rfl | ⟨p1, p2, hw⟩
  · exact h1
  · rw [pure_conv _ _ p1] at h1
    rw [pure_conv _ _ p2]
    exact hw _ _ _ _ h1
end Bow
/- AE49: the last own object becomes a name; stores into named memory, with what lies there then. -/
namespace Bow
open Go

section
variable {c : Cx} {E : Env} {T : Heap} {ops : Array Oper} {i : Nat} {rest : List Nat} {k : List Item} {o : Oper}

theorem lk_sc' {n : Nat} {E : Env} (h : ∀ p ∈ E, p.2.sc n) (k : Nat) : (lk E k).sc n := lk_sc E k h
/-- The last own object, an own slice in one slot, becomes a name; the slots and objects are what E0 and T0 say. -/
theorem goes_name {todo : List Item} {E0 : Env} {T0 : Heap} (s : Tmp) {g sz n : Nat} {xs : List V} (hT : T = T0 ++ [some (.vec g sz xs)]) (hx : lk E s = .osl (.loc T0.length) g 0 n) (hi : c.imps.length ≤ T0.length) (hD : c.D = [])
    (hE : ∀ j, lk E0 j = lk E j ∨ lk E0 j = .undef) (hsE : ∀ p ∈ E0, p.2.sc T0.length) (hsT : ∀ (k : Nat) (o : HObj), T0[k]? = some (some o) → o.sc T0.length)
    (h : ∀ r B', c.B r = none → B' r = some (.vec g sz xs) → (∀ q, q ≠ r → B' q = c.B q) → Goes { c with B := B' } todo ((s, .osl (.abs r) g 0 n) :: E0) T0) : Goes c todo E T := by
  subst hT
  refine goes_step fun w β H m a b cs hs _ _ _ => ?_
  have hml : m.length = T0.length + 1 := by have := hs.mlen; simpa using this
  obtain ⟨m', r, rfl⟩ : ∃ m' r, m = m' ++ [r] := ⟨m.dropLast, m.getLast (by intro e; rw [e] at hml; simp at hml), (List.dropLast_concat_getLast _).symm⟩
  have hml' : m'.length = T0.length := by simp at hml; exact hml
  have hnd := List.nodup_append.1 hs.nodup
  have hr : r ∉ m' := fun hm => hnd.2.2 r hm r (by simp) rfl
  have hrk : (m' ++ [r])[T0.length]? = some r := by rw [← hml']; simp
  have hrB : c.B r = none := hs.own T0.length r hi hrk
  have hrl := hs.lt hrk
  have hH : H[r]? = some (some (.vec g sz xs)) := hs.loc T0.length r (some (.vec g sz xs)) hrk (by simp)
  obtain ⟨B', hB'⟩ : ∃ B' : Base, B' = fun q => if q = r then some (.vec g sz xs) else c.B q := ⟨_, rfl⟩
  have hBr : B' r = some (.vec g sz xs) := by rw [hB']; simp
  have hBn : ∀ q, q ≠ r → B' q = c.B q := fun q hq => by rw [hB']; simp [hq]
  have hcv : ∀ v : V, v.sc T0.length → v.conv (m' ++ [r]) = v.conv m' := fun v hv => V.conv_ext (by omega) v hv
  have hscs : ∀ j, (lk E0 j).sc T0.length := lk_sc' hsE
  have hsr : SRel c.imps c.nt w β H m' ⟨(s, .osl (.abs r) g 0 n) :: E0, T0, B', c.D⟩ a := by
    refine ⟨hs.hrel, hs.size, fun j => ?_, hml', hnd.1, ?_, ?_, ?_, fun q hq => ?_, ?_, ?_, hsT, hs.defs, ?_⟩
    · simp only [lk]
      cases hb : Nat.beq s j with
      | true =>
        obtain rfl := Nat.eq_of_beq_eq_true hb
        have h1 := hs.env s
        rw [hx] at h1
        simp only [V.conv, Ref.conv, hrk] at h1
        exact h1
      | false =>
        simp only [cond_false]
        rcases hE j with e | e
        · have h1 := hs.env j
          simp only at h1
          rw [← e, hcv _ (hscs j)] at h1
          exact h1
        · rw [e]; exact .undef _
    · intro k q o hk ho
      have hkl := lt_of_get hk
      have := hs.loc k q o (by rw [List.getElem?_append_left hkl]; exact hk) (by simp only; rw [List.getElem?_append_left (by omega)]; exact ho)
      rw [this]
      cases o with
      | none => rfl
      | some o =>
        simp only [Option.map_some, Option.some.injEq]
        exact HObj.conv_ext (by omega) o (hsT k o ho)
    · have := hs.imp
      rwa [List.take_append_of_le_length (by omega)] at this
    · intro q hq hqm
      simp only
      by_cases e : q = r
      · subst e
        rw [hBr]; exact hH
      · rw [hBn q e]
        exact hs.base q hq (by simp [hqm, e])
    · have hqr : q ≠ r := fun e => by subst e; omega
      simp only
      rw [hBn q hqr]
      exact hs.fut q hq
    · intro k q hk hq
      have hqr : q ≠ r := fun e => hr (e ▸ List.mem_of_getElem? hq)
      simp only
      rw [hBn q hqr]
      exact hs.own k q hk (by rw [List.getElem?_append_left (lt_of_get hq)]; exact hq)
    · intro p hp
      rcases List.mem_cons.1 hp with rfl | hp
      · trivial
      · exact hsE p hp
    · intro j k hj
      simp only at hj
      rw [hD] at hj
      simp at hj
  exact ⟨w, β, H, m', a, todo, ⟨_, T0, B', c.D⟩, .refl _ _, hsr, Fr.refl _ _ _, h r B' hrB hBr hBn⟩

theorem goes_storeAx {t : TypeId} {x y : Operand} {r g ix off sz : Nat} {xs cs' : List V} {x0 : V} {ti : TypeInfo} (n : Nat) (ho : lget ops.toList i = some o) (hg : o.guard = none) (hop : o.op = .store t x y) (hx : opd E x = .eptr (.abs r) g ix off)
    (hb : (Nat.beq (lcount (opd E y).cells 0) ti.size && onesB (opd E y).cells && V.pureL (opd E y).cells) = true) (ht : tyI c.P t = some ti) (hi : r ∉ c.imps) (hB : c.B r = some (.vec g sz xs)) (hx0 : xs[ix]? = some x0) (ho' : over x0.cells off (opd E y).cells cs')
    (h : ∀ B', B' r = some (.vec g sz (xs.set ix (mkE x0 cs'))) → (∀ q, q ≠ r → B' q = c.B q) → putE c.nt o.dst (.tup []) E False fun E' => evp { c with B := B' } n (.inRegion ops rest :: k) E' T) :
    Goes c (.inRegion ops (i :: rest) :: k) E T := by
  rw [lget_eq, Array.getElem?_toList] at ho
  rw [lcount_eq] at hb
  simp only [Bool.and_eq_true, Nat.add_zero] at hb
  have hsz := Nat.eq_of_beq_eq_true hb.1.1
  refine goes_step fun w β H m a fb cs hs _ _ _ => ?_
  have hp := opd_rep hs x
  have hH : H[r]? = some (some (.vec g sz xs)) := hs.baseAt hi hB
  have hrm : r ∉ m := hs.notIn hB hi
  simp only [hx, V.conv, Ref.conv] at hp
  have hob := hs.hrel.obj r _ hH
  generalize hv : a.eval x = q at hp
  cases hp with
  | eptrStale _ _ _ _ g' sz' xs' _ hH' hg =>
    rw [hH] at hH'
    injection hH' with hH'
    injection hH' with hH'
    injection hH' with e0 _ _
    omega
  | eptrDead _ _ _ _ _ hd => rw [hH] at hd; cases hd
  | eptrLive _ _ _ _ sz' xs' b N hH' hβ hi' =>
  rw [hH] at hH'
  injection hH' with hH'
  injection hH' with hH'
  injection hH' with _ e1 e2
  subst e1 e2
  rw [hβ] at hob
  obtain ⟨vs, e, hty, hbk, hN, hle, hpos, hok, hc⟩ := hob
  have hy : Rep w β H ((opd E y).conv m) (a.eval y) := opd_rep hs y
  obtain ⟨hyl, hyc, hy1⟩ := rep_cells hy (by rw [cells_conv, onesB_conv]; exact hb.1.2)
  rw [cells_conv, pureL_conv _ _ hb.2] at hyl hyc
  obtain ⟨hx0l, hx0o⟩ := hok x0 (List.mem_of_getElem? hx0)
  have hixl := lt_of_get hx0
  have hrow : ix * sz + sz ≤ vs.size := by
    have : (ix + 1) * sz ≤ xs.length * sz := Nat.mul_le_mul_right _ hixl
    rw [Nat.add_mul] at this
    omega
  have hofit : off + (opd E y).cells.length ≤ x0.cells.length := ho'.1
  have hfit : ix * sz + off + (a.eval y).cells.size ≤ vs.size := by omega
  have hrun := run_storeCells_at c.P b (ix * sz + off) e (a.eval y).cells.toList 0 vs w hbk (by simpa using hfit) hy1
  have hI := tyI_sound ht
  obtain ⟨vs', hvs'⟩ : ∃ vs', vs' = (vs.toList.take (ix * sz + off + 0) ++ (a.eval y).cells.toList ++ vs.toList.drop (ix * sz + off + 0 + (a.eval y).cells.toList.length)).toArray := ⟨_, rfl⟩
  rw [← hvs'] at hrun
  have hheap : (w.setRow b vs').heap[b]? = some (.cells vs' e (0, 0)) := setRow_heap w b vs _ e _ hbk
  have hother : ∀ q, q ≠ b → (w.setRow b vs').heap[q]? = w.heap[q]? := fun q hq => setRow_other w b q _ hq
  have hvsz : vs'.size = vs.size := by rw [hvs']; simp; omega
  have hget : ∀ j, vs'[j]? = if ix * sz + off ≤ j ∧ j < ix * sz + off + (a.eval y).cells.size then (a.eval y).cells[j - (ix * sz + off)]? else vs[j]? := by
    intro j
    rw [hvs']
    simp only [Nat.add_zero, Array.length_toList, List.getElem?_toArray]
    rcases Nat.lt_or_ge j (ix * sz + off) with h1 | h1
    · rw [if_neg (by omega), List.getElem?_append_left (by simp; omega), List.getElem?_append_left (by simp; omega), List.getElem?_take, if_pos h1]
      simp
    · rcases Nat.lt_or_ge j (ix * sz + off + (a.eval y).cells.size) with h2 | h2
      · rw [if_pos ⟨h1, h2⟩, List.getElem?_append_left (by simp; omega), List.getElem?_append_right (by simp; omega)]
        have : min (ix * sz + off) vs.size = ix * sz + off := by omega
        simp [this]
      · rw [if_neg (by omega), List.getElem?_append_right (by simp; omega)]
        have e1 : min (ix * sz + off) vs.size = ix * sz + off := by omega
        simp only [List.length_append, List.length_take, Array.length_toList, e1, List.getElem?_drop]
        rw [Nat.add_sub_cancel' h2]
        simp
  have hones : onesB cs' = true := by
    rw [onesB_iff]
    intro z hz
    obtain ⟨j, hj, rfl⟩ := List.mem_iff_getElem.1 hz
    have := ho'.2.2 j
    rw [List.getElem?_eq_getElem hj] at this
    split at this
    · exact (onesB_iff _).1 hb.1.2 _ (List.mem_of_getElem? this.symm)
    · exact (onesB_iff _).1 hx0o _ (List.mem_of_getElem? this.symm)
  have hcs' : cs'.length = sz := ho'.2.1.trans hx0l
  have hmk : (mkE x0 cs').cells = cs' := mkE_cells x0 cs' hones
  obtain ⟨xs', hxs'⟩ : ∃ xs', xs' = xs.set ix (mkE x0 cs') := ⟨_, rfl⟩
  have hxl : xs'.length = xs.length := by rw [hxs']; simp
  have hfr : Fr w β H (w.setRow b vs') β (H.set r (some (.vec g sz xs'))) := Fr.turn hH hβ ⟨Nat.le_refl _, fun _ => ⟨rfl, hxl.symm⟩⟩ rfl rfl rfl (by simp [World.setRow]) hother
  have hok' : ∀ x ∈ xs', okE sz x := fun x hx => by
    rw [hxs'] at hx
    rcases List.mem_or_eq_of_mem_set hx with h1 | h1
    · exact hok x h1
    · subst h1
      exact ⟨by rw [hmk]; exact hcs', by rw [hmk]; exact hones⟩
  have hrel : HRel (w.setRow b vs') β (H.set r (some (.vec g sz xs'))) := by
    refine hs.hrel.turn hH hβ ⟨Nat.le_refl _, fun _ => ⟨rfl, hxl.symm⟩⟩ rfl rfl rfl (by simp [World.setRow]) hother ⟨vs', e, hty, hheap, by omega, by rw [hxl]; omega, hpos, hok', fun i1 z j z1 u hi1 hj hu => ?_⟩
    refine Rep.mono ?_ hfr
    rw [hget] at hu
    have hzl := (hok' z (List.mem_of_getElem? hi1)).1
    have hjl := lt_of_get hj
    rw [hxs'] at hi1
    by_cases hii : i1 = ix
    · subst hii
      rw [List.getElem?_set_self hixl] at hi1
      injection hi1 with hi1
      subst hi1
      rw [hmk, ho'.2.2 j] at hj
      split at hj
      · rename_i hjj
        rw [if_pos (by omega)] at hu
        refine hyc (j - off) z1 u hj ?_
        rw [← hu]
        congr 1
        omega
      · rename_i hjj
        rw [if_neg (by omega)] at hu
        exact hc i1 x0 j z1 u hx0 hj hu
    · rw [List.getElem?_set_ne (fun e => hii e.symm)] at hi1
      have hne : ¬ (ix * sz + off ≤ i1 * sz + j ∧ i1 * sz + j < ix * sz + off + (a.eval y).cells.size) := by
        rintro ⟨q1, q2⟩
        rcases Nat.lt_or_gt_of_ne hii with h3 | h3
        · have : (i1 + 1) * sz ≤ ix * sz := Nat.mul_le_mul_right _ h3
          rw [Nat.add_mul] at this
          omega
        · have : (ix + 1) * sz ≤ i1 * sz := Nat.mul_le_mul_right _ h3
          rw [Nat.add_mul] at this
          omega
      rw [if_neg hne] at hu
      exact hc i1 z j z1 u hi1 hj hu
  obtain ⟨B', hB'⟩ : ∃ B' : Base, B' = fun q => if q = r then some (.vec g sz xs') else c.B q := ⟨_, rfl⟩
  have hBr : B' r = some (.vec g sz xs') := by rw [hB']; simp
  have hBn : ∀ q, q ≠ r → B' q = c.B q := fun q hq => by rw [hB']; simp [hq]
  have hrl := lt_of_get hH
  have hset : SRel c.imps c.nt (w.setRow b vs') β (H.set r (some (.vec g sz xs'))) m ⟨E, T, B', c.D⟩ a := by
    refine ⟨hrel, hs.size, fun k => (hs.env k).mono hfr, hs.mlen, hs.nodup, fun j q ob hj hob => ?_, hs.imp, fun q hq hqm => ?_, fun q hq => ?_, fun j q hj hq => ?_, hs.scE, hs.scT, hs.defs, hs.marks⟩
    · have hqr : q ≠ r := fun e => hrm (e ▸ List.mem_of_getElem? hj)
      rw [List.getElem?_set_ne (fun e => hqr e.symm)]
      exact hs.loc j q ob hj hob
    · simp only
      by_cases hqr : q = r
      · subst hqr
        rw [List.getElem?_set_self hrl, hBr]
      · rw [List.getElem?_set_ne (fun e => hqr e.symm), hBn q hqr]
        exact hs.base q (by simpa using hq) hqm
    · have hqr : q ≠ r := fun e => by subst e; simp at hq; omega
      simp only
      rw [hBn q hqr]
      exact hs.fut q (by simpa using hq)
    · have hqr : q ≠ r := fun e => hrm (e ▸ List.mem_of_getElem? hq)
      simp only
      rw [hBn q hqr]
      exact hs.own j q hj hq
  obtain ⟨E', hk, hd⟩ := (putE_some (h B' (by rw [← hxs']; exact hBr) hBn)).resolve_left id
  have hput := hset.putTo (d := o.dst) (x := .tup []) (v := Go.undef) (E' := E') (.tup [] #[] rfl fun j z u h1 _ => by simp at h1) hd
  refine ⟨w.setRow b vs', β, _, m, a.put o.dst Go.undef, _, ⟨E', T, B', c.D⟩, op_step (c := c) ho (wanted_none hg _) (fun cl e => by rw [hop] at e; cases e) (nx := .skip) ?_ (.inr ⟨rfl, rfl⟩), hput, hfr, evp_sound n _ _ _ _ hk⟩
  simp [execOp, hop, Instr.storeAt, Instr.sureAddr, hv, storeVar, run_sizeOf' hI, ← hsz, ← hyl, hrun]
end
end Bow
/- AE50: regions that draw their order and make strings out of own bytes. -/
namespace Bow
open Go

theorem bytesStr_core {c : Cx} {o : Oper} {t t' e : TypeId} {x : Operand} {bs : List UInt8} (hop : o.op = .convert t t' x) (ht : tyU c.P t = some (.slice e)) (he : tyU c.P e = some (.int .u8)) (ht' : tyU c.P t' = some .string) {w : World} {β : Nat → Loc} {H : Heap} {a : Act}
    (hr : Rep w β H (.sl 1 (bs.map fun b => .int .u8 b.toNat)) (a.eval x)) : bs.length ≤ maxLen ∧ (execOp a.eval o).run c.P w = .ok (.value (.string ⟨bs.toArray⟩)) w := by
  generalize hq : a.eval x = q at hr
  generalize hy : V.sl 1 (bs.map fun b => .int .u8 b.toNat) = y at hr
  cases hr with
  | sl sz xs ad cap vals hcap hmax hok ha hc =>
    injection hy with y1 y2
    subst y1 y2
    simp only [List.length_map] at hcap ha ⊢
    have hmx : bs.length ≤ maxLen := by omega
    refine ⟨hmx, ?_⟩
    simp only [execOp, hop, hq]
    have hstr : strOfNums (bs.map fun b => (b.toNat : Int)) = ⟨bs.toArray⟩ := by
      unfold strOfNums
      congr 1
      rw [List.map_map]
      congr 1
      conv => rhs; rw [← List.map_id bs]
      refine List.map_congr_left fun b _ => ?_
      simp
    have hconv : (convert t t' (.slice ad bs.length cap)).run c.P w = .ok (.string ⟨bs.toArray⟩) w := by
      by_cases hne : bs = []
      · subst hne
        have key : (convert t t' (.slice ad 0 cap)).run c.P w = .ok (.string ⟨#[]⟩) w := by
          rw [run_convert_bytes_string w t t' e ad 0 cap (tyU_sound ht) (tyU_sound he) (tyU_sound ht')]
          cases ad with
          | none => simp [Conv.bytesToString]; rfl
          | some ad =>
            have := run_bytesToString (P := c.P) w ad 0 cap [] (by simp [loadCells, loadCellsFrom])
            rw [this]
            rfl
        exact key
      · obtain ⟨⟨b, off, spot⟩, rfl, g1, g2, g3⟩ := ha (by simpa using hne)
        rw [run_convert_bytes_string w t t' e _ _ cap (tyU_sound ht) (tyU_sound he) (tyU_sound ht')]
        have hload : (loadCells ⟨b, off, spot⟩ bs.length).run c.P w = .ok ((bs.map fun b => (b.toNat : Int)).map (Value.int .u8)).toArray w := by
          have := run_loadCells_list (P := c.P) w ⟨b, off, spot⟩ ((bs.map fun b => (b.toNat : Int)).map (Value.int .u8)) (fun j v hj => by
            have hjl : j < bs.length := by have := lt_of_get hj; simpa using this
            have h3 := g3 j (by simpa using hjl)
            rw [h3]
            have hcj := hc j (.int .u8 (bs[j]).toNat) 0 (.int .u8 (bs[j]).toNat) (by simp [hjl]) rfl
            simp only [Nat.mul_one, Nat.add_zero] at hcj
            have hv := rep_int (m := []) hcj
            rw [hv]
            simp [hjl] at hj
            rw [← hj])
          simpa using this
        rw [run_bytesToString (P := c.P) w _ _ cap _ hload, foldl_push_bytes, ← hstr]
        simp [strOfNums, ByteArray.empty, ByteArray.emptyWithCapacity]
        rfl
    simp only [List.length_map]
    rw [Sem.run_bind, hconv]
    rfl
  | _ => cases hy


section
variable {c : Cx} {ops : Array Oper} {i : Nat} {o : Oper} {E : Env} {T : Heap} {gs : List Tmp}
theorem fact_conv {t t' e : TypeId} {x : Operand} {kn g : Nat} {bs : List UInt8} (ho : ops[i]? = some o) (hg : Guarded ops o E gs true) (hop : o.op = .convert t t' x) (hx : opd E x = .osl (.loc kn) g 0 bs.length) (hT : T[kn]? = some (some (.vec g 1 (bs.map fun b => .int .u8 b.toNat))))
    (ht : tyU c.P t = some (.slice e)) (he : tyU c.P e = some (.int .u8)) (ht' : tyU c.P t' = some .string) :
    Fact c ops i E T ⟨o.dst, gs ++ tmpsOf o.op.operands.toList, [kn], .str bs, [(kn, none)], none⟩ := by
  intro E' T' e1 e2 e3 w β H m a b cs rest k hs k1 k2 _
  have hx' : opd E' x = .osl (.loc kn) g 0 bs.length := by
    rw [← hx]
    exact opd_agree (E := E) (E' := E') (xs := o.op.operands.toList) (fun t ht => e2 t (List.mem_append_right _ ht)) x (by rw [hop]; simp [Op.operands])
  have hT' : T'[kn]? = some (some (.vec g 1 (bs.map fun b => .int .u8 b.toNat))) := by rw [e3 kn (by simp)]; exact hT
  have hfz : frzAll [opd E' x] T' False fun vs T1 => vs = [.sl 1 (bs.map fun b => .int .u8 b.toNat)] ∧ T1 = T'.set kn none := by
    rw [hx']
    simp only [frzAll, fv_eq, frz, frz1, lget_eq, hT', lset_eq]
    exact ⟨trivial, by simp, trivial, trivial⟩
  rcases frzAll_sound (F := False) _ _ _ hfz with h' | ⟨vs', T1, ⟨rfl, rfl⟩, hto⟩
  · exact h'.elim
  obtain ⟨H1, q1, q2, q3⟩ := hto.2 _ _ _ _ _ _ _ _ _ _ hs
  have hr := q3 0 _ _ _ rfl rfl (opd_rep hs x)
  obtain ⟨hm, hrun⟩ := bytesStr_core (c := c) hop ht he ht' (bs := bs) (show Rep w β H1 (.sl 1 (bs.map fun b => .int .u8 b.toNat)) (a.eval x) from hr)
  exact ⟨_, w, β, H1, op_step ho (hg.wanted (fun t ht => e2 t (List.mem_append_left _ ht)) hs) (fun cl e => by rw [hop] at e; cases e) hrun (.inl rfl), q1, q2.toFr0, fun q hq hn _ => q2.virt q hq hn, .str bs hm⟩
end

def isStrConv (P : Program) : Op → Bool
  | .convert _ d _ => match tyU P d with
    | some .string => true
    | _ => false
  | _ => false
def evdS (mk : List FuncId) (c : Cx) (ops : List Oper) (gt : List Tmp) : List Oper → Nat → Env → Heap → (Env → Heap → List Sig → Prop) → Prop
  | [], _, E, T, K => K E T []
  | o :: os, p, E, T, K =>
    let next (x : V) (T' : Heap) (g touch keys : List Nat) : Prop := bif (makesS o.op || isMk mk o.op) then putR c.nt gt o.dst x E fun E' => evdS mk c ops gt os (p + 1) E' T' fun En Tn ss => K En Tn (⟨o.dst, g, touch, keys⟩ :: ss) else putR c.nt gt o.dst x E fun E' => evdS mk c ops gt os p E' T' fun En Tn ss => K En Tn (⟨o.dst, g, touch, keys⟩ :: ss)
    gK ops o E (fun g => next (.tup []) T g [] []) fun g =>
      lfix (g ++ tmpsOf o.op.operands.toList) fun g =>
      bif makes E o.op then evMk c o.op E T p fun x ob kills tc => lfix tc fun tc => lfix (keysOf kills) fun ks => appC T (kills ++ [(p, some ob)]) fun T' => next x T' g (p :: tc) (p :: ks)
      else bif isMk mk o.op then match o.op with
        | .call { callee := .value f, args, .. } => match opd E f with
          | .fn (.func h) first cap => opds E args.toList fun vs => ∃ (sz : Nat) (xs : List V), Fun c.P h [] (first ++ vs ++ cap) (fun x T' => ∃ g0, x = .osl (.loc 0) g0 0 xs.length ∧ T' = [some (.vec g0 sz xs)]) ∧ V.pureL (first ++ vs ++ cap) = true ∧ lget T p = some (some (.vec 0 0 [])) ∧
            appC T [(p, some (.vec 2 sz xs))] fun T' => next (.osl (.loc p) 2 0 xs.length) T' g [p] [p]
          | _ => False
        | _ => False
      else bif isStrConv c.P o.op then match o.op with
        | .convert t _ x => match opd E x with
          | .osl (.loc kn) g0 0 l => match tyU c.P t with
            | some (.slice e) => match tyU c.P e with
              | some (.int .u8) => ∃ bs : List UInt8, lget T kn = some (some (.vec g0 1 (bs.map fun b => .int .u8 b.toNat))) ∧ l = bs.length ∧ appC T [(kn, none)] fun T' => next (.str bs) T' g [kn] [kn]
              | _ => False
            | _ => False
          | _ => False
        | _ => False
      else match o.op with
        | .call { callee := .value f, args, .. } => match opd E f with
          | .fn (.func h) first cap => opds E args.toList fun vs => frzAll (first ++ vs ++ cap) T False fun ws _ => lfix (keysOf (killsOf (first ++ vs ++ cap))) fun ks =>
            ∃ x, Pure c.P h ws (fun y => y = x) ∧ V.pureL ws = true ∧ bif flatB x then next x T g ks [] else appC T (killsOf (first ++ vs ++ cap)) fun T' => next x T' g ks ks
          | _ => False
        | op => evOp c op E T False fun x T' => lfix (touch E op) fun tc => lfix (wr E op) fun ks => next x T' g tc ks

theorem evdS_sound {mk : List FuncId} {c : Cx} {ops : Array Oper} {gt : List Tmp} : ∀ (os : List Oper) (i p : Nat) (E : Env) (T : Heap) (K : Env → Heap → List Sig → Prop), evdS mk c ops.toList gt os p E T K → (∀ k, os[k]? = ops[i + k]?) → i + os.length = ops.size →
    ∃ rs ss En Tn, RunP c ops i p E T rs ss En Tn ∧ K En Tn ss
  | [], i, p, E, T, K, h, _, hi => ⟨[], [], E, T, ⟨by simpa using hi, rfl, rfl⟩, h⟩
  | o :: os, i, p, E, T, K, h, hos, hi => by
    unfold evdS at h
    extract_lets next at h
    have ho : ops[i]? = some o := by have := hos 0; simpa using this.symm
    have hos' : ∀ k, os[k]? = ops[i + 1 + k]? := fun k => by have := hos (k + 1); rw [List.getElem?_cons_succ] at this; rw [this, sa]
    have hi' : i + 1 + os.length = ops.size := by simp at hi; omega
    have hlt : i < ops.size := by simp at hi; omega
    -- what follows, from a fact
    have go : ∀ (r : Rec) (g tc ks : List Nat), Fact c ops i E T r → r.dst = o.dst → next r.x (app T r.eff) g tc ks → (∀ t ∈ r.reads, t ∈ g) → (∀ k ∈ r.touch, k ∈ tc) → (∀ k ∈ keysOf r.eff, k ∈ ks) →
        (∀ q, r.virt = some q → q = p ∧ p ∈ tc ∧ p < T.length ∧ (makesS o.op || isMk mk o.op) = true) → ∃ rs ss En Tn, RunP c ops i p E T rs ss En Tn ∧ K En Tn ss := by
      intro r g tc ks hf hd hn h1 h2 h3 h4
      have hn : putR c.nt gt o.dst r.x E fun E' => evdS mk c ops.toList gt os (bif (makesS o.op || isMk mk o.op) then p + 1 else p) E' (app T r.eff) fun En Tn ss => K En Tn (⟨o.dst, g, tc, ks⟩ :: ss) := by
        have h0 := hn
        simp only [next] at h0
        cases hm : (makesS o.op || isMk mk o.op) <;> (rw [hm] at h0; exact h0)
      obtain ⟨x', hk, hdst, hx⟩ := putR_sound hn
      obtain ⟨rs, ss, En, Tn, k1, k2⟩ := evdS_sound os (i + 1) _ _ _ _ hk hos' hi'
      refine ⟨{ r with x := x' } :: rs, ⟨o.dst, g, tc, ks⟩ :: ss, En, Tn, ⟨hf.put hx, by rw [hd]; exact hdst, ⟨hd.symm, h1, h2, h3, fun q hq => ?_⟩, hlt, (bif (makesS o.op || isMk mk o.op) then p + 1 else p), ?_, ?_, ?_⟩, k2⟩
      · obtain ⟨e, hp, _⟩ := h4 q hq
        rw [e]
        exact hp
      · cases (makesS o.op || isMk mk o.op) <;> simp
      · intro q hq
        obtain ⟨e, _, hp, hm⟩ := h4 q hq
        rw [hm]
        exact ⟨e, Nat.le_refl _, hp⟩
      · rw [hd]
        exact k1
    rcases gK_sound h with ⟨gs, hg, h⟩ | ⟨gs, hg, h⟩
    · exact go _ gs [] [] (fact_skip ho hg) rfl h (fun t ht => ht) (fun k hk => hk) (fun k hk => hk) (fun q hq => by cases hq)
    · rw [lfix_eq] at h
      cases hm : makes E o.op with
      | true =>
        rw [hm] at h
        simp only [cond_true] at h
        obtain ⟨x, ob, kills, tc, hk, hf, hp⟩ := fact_mk (gs := gs) ho hg h
        rw [lfix_eq, lfix_eq, appC_eq] at hk
        refine go _ _ _ _ hf rfl hk (fun t ht => ht) (fun k hk => List.mem_cons_of_mem _ hk) (fun k hk => ?_) (fun q hq => ?_)
        · rw [keysOf_append] at hk
          rcases List.mem_append.1 hk with h | h
          · exact List.mem_cons_of_mem _ h
          · simp only [keysOf, List.mem_singleton] at h
            rw [h]
            exact List.mem_cons_self
        · injection hq with hq
          subst hq
          exact ⟨rfl, List.mem_cons_self, hp, by rw [makes_S hm]; rfl⟩
      | false =>
        rw [hm] at h
        simp only [cond_false] at h
        cases hmk : isMk mk o.op with
        | true =>
          simp only [hmk, cond_true] at h
          split at h
          · rename_i f args ts hop
            split at h
            · rename_i h' first cap hfv
              rw [opds_eq] at h
              obtain ⟨sz, xs, hfu, hpl, hlp, hk⟩ := h
              rw [appC_eq] at hk
              rw [lget_eq] at hlp
              exact go _ _ _ _ (fact_call_make ho hg hop hfv hpl hlp hfu) rfl hk (fun t ht => ht) (fun k hk => by cases hk) (fun k hk => hk) (fun q hq => by
                injection hq with hq
                subst hq
                exact ⟨rfl, List.mem_singleton.2 rfl, lt_of_get hlp, by rw [hmk]; simp⟩)
            · exact h.elim
          · exact h.elim
        | false =>
        simp only [hmk, cond_false] at h
        cases hsc : isStrConv c.P o.op with
        | true =>
          simp only [hsc, cond_true] at h
          split at h
          · rename_i t t' x hop
            split at h
            · rename_i kn g0 l hx
              split at h
              · rename_i e ht
                split at h
                · rename_i he
                  obtain ⟨bs, hlk, rfl, hk⟩ := h
                  rw [appC_eq] at hk
                  rw [lget_eq] at hlk
                  have ht' : tyU c.P t' = some .string := by
                    rw [hop] at hsc
                    simp only [isStrConv] at hsc
                    split at hsc
                    · rename_i h0; exact h0
                    · cases hsc
                  exact go _ _ _ _ (fact_conv ho hg hop hx hlk ht he ht') rfl hk (fun t ht => ht) (fun k hk => hk) (fun k hk => hk) (fun q hq => by cases hq)
                · exact h.elim
              · exact h.elim
            · exact h.elim
          · exact h.elim
        | false =>
        simp only [hsc, cond_false] at h
        split at h
        · rename_i f args ts hop
          split at h
          · rename_i h' first cap hfv
            rw [opds_eq] at h
            rcases frzAll_det (F := False) _ T _ h with h | ⟨ws, h, hdet⟩
            · exact h.elim
            rw [lfix_eq] at h
            obtain ⟨x, hpu, hpl, hk⟩ := h
            cases hx : flatB x with
            | true =>
              rw [hx] at hk
              exact go _ _ _ _ (fact_call_flat ho hg hop hfv hpl hx hdet hpu) rfl hk (fun t ht => ht) (fun k hk => hk) (fun k hk => by cases hk) (fun q hq => by cases hq)
            | false =>
              rw [hx] at hk
              simp only [cond_false] at hk
              rw [appC_eq] at hk
              exact go _ _ _ _ (fact_call_frz ho hg hop hfv hpl hdet hpu) rfl hk (fun t ht => ht) (fun k hk => hk) (fun k hk => hk) (fun q hq => by cases hq)
          · exact h.elim
        · rcases fact_op ho hg hm h with h | ⟨x, eff, hk, hf, hw⟩
          · exact h.elim
          rw [lfix_eq, lfix_eq] at hk
          refine go _ _ _ _ hf rfl hk (fun t ht => ht) (fun k hk => hk) (fun k hk => ?_) (fun q hq => by cases hq)
          have : ∀ (es : List (Nat × Option HObj)), k ∈ keysOf es → ∃ e ∈ es, e.1 = k := by
            intro es
            induction es with
            | nil => intro h; cases h
            | cons e es ih =>
              intro h
              rcases List.mem_cons.1 h with rfl | h
              · exact ⟨e, List.mem_cons_self, rfl⟩
              · obtain ⟨e', h1, h2⟩ := ih h
                exact ⟨e', List.mem_cons_of_mem _ h1, h2⟩
          obtain ⟨e, he, rfl⟩ := this eff hk
          exact hw e he

theorem goes_drawS (mk : List FuncId) {c : Cx} {ops : Array Oper} {id : Nat} {k : List Item} {E : Env} {T : Heap} (n : Nat) (h : catC T (dumsN mk ops.toList) fun T0 => evdS mk c ops.toList (guardTmps ops.toList ops.toList) ops.toList T.length E T0 fun En Tn ss => chk ops.toList ss 0 [] [] = true ∧ evp c n k En Tn) :
    Goes c (.code (.region id ops true) :: k) E T := by
  rw [catC_eq] at h
  obtain ⟨rs, ss, En, Tn, h1, h2, h3⟩ := evdS_sound (mk := mk) ops.toList 0 T.length E _ _ h (fun k => by rw [Nat.zero_add, Array.getElem?_toList]) (by simp)
  exact goes_draw_ofN mk h1 h2 (evp_sound n _ _ _ _ h3)
end Bow
