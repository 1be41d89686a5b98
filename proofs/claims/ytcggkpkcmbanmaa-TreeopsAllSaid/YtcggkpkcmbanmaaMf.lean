/- The library, part 6: SP14, SP15, SP16, W39, W28, W29, W30, W40, W41, W42, SP17, W43a, W43, TD1, TD2. -/
import Derived.Test.YtcggkpkcmbanmaaMe
import Derived.Test.YtcggkpkcmbanmaaMc
import Derived.Test.YtcggkpkcmbanmaaMd
import Derived.Test.YtcggkpkcmbanmaaRows
import Derived.ChangeShapes
/- SP14: how heavy a tree becomes, in plain Lean. -/
namespace Bow
open Go

theorem weights_set_eq {s u : Tree} : ∀ {l : List Tree} {i : Nat}, l[i]? = some s → weights (l.set i u) + s.weight = weights l + u.weight
  | [], i, h => by simp at h
  | x :: l, 0, h => by
    simp at h
    subst h
    rw [List.set_cons_zero, weights, weights]
    omega
  | x :: l, i + 1, h => by
    simp at h
    have := weights_set_eq (u := u) (l := l) h
    rw [List.set_cons_succ, weights, weights]
    omega
theorem change_weight_eq {F : Tree → Tree} {y : Tree} : ∀ {p : List Int} {t : Tree}, atT t p = some y → (changeT F t p).weight + y.weight = t.weight + (F y).weight
  | [], t, h => by
    rw [atT] at h
    injection h with h
    subst h
    rw [changeT]
    omega
  | i :: p, t, h => by
    rw [atT] at h
    cases hs : subT t i with
    | none => rw [hs] at h; cases h
    | some s =>
      rw [hs] at h
      have ih := change_weight_eq (F := F) (p := p) h
      rw [changeT, hs]
      simp only
      have h1 := weights_set_eq (u := changeT F s p) (subT_some hs).2.1
      have h2 := withSubs_weight t (t.subs.set i.toNat (changeT F s p))
      omega
theorem del_weight_eq {y x : Tree} {i : Int} (h : y.subs[i.toNat]? = some x) : (delT i y).weight + x.weight = y.weight := by
  have h1 := withSubs_weight y (y.subs.take i.toNat ++ y.subs.drop (i.toNat + 1))
  have h2 : weights (y.subs.take i.toNat ++ y.subs.drop (i.toNat + 1)) + x.weight = weights y.subs := by
    have hl := lt_of_get h
    conv => rhs; rw [← List.take_append_drop i.toNat y.subs]
    rw [weights_append, weights_append, List.drop_eq_getElem_cons hl, weights]
    have : y.subs[i.toNat] = x := by rw [List.getElem?_eq_getElem hl] at h; injection h
    rw [this]
    omega
  unfold delT
  omega
theorem without_weight {t x : Tree} {p : List Int} (hne : p ≠ []) (hx : atT t p = some x) : (withoutT t p).weight + x.weight = t.weight := by
  obtain ⟨y, y1, y2, y3, y4⟩ := at_parent hne hx
  rw [lastP_eq hne] at y4
  have h1 := change_weight_eq (F := delT (lastP p)) y1
  have h2 := del_weight_eq y4
  unfold withoutT
  omega
def costO (o : OpT) : Nat := 2 + o.label.length + o.key.length + o.value.length + putsLen o.pieces
theorem attrLen_append : ∀ a b : AttrL, attrLen (a ++ b) = attrLen a + attrLen b
  | [], b => by simp [attrLen]
  | x :: a, b => by
    have := attrLen_append a b
    rw [List.cons_append, attrLen_cons, attrLen_cons]
    omega
theorem setA_weight (o : OpT) (y : Tree) : (setAT o y).weight ≤ y.weight + (1 + o.key.length + o.value.length) := by
  have h1 : (setA o y.attrs).length + attrLen (setA o y.attrs) ≤ y.attrs.length + attrLen y.attrs + (1 + o.key.length + o.value.length) := by
    unfold setA
    rw [attrLen_append, attrLen_append]
    have e : attrLen y.attrs = attrLen (y.attrs.take (posK o.key y.attrs)) + attrLen (y.attrs.drop (posK o.key y.attrs)) := by rw [← attrLen_append, List.take_append_drop]
    have e2 : attrLen (y.attrs.drop (posK o.key y.attrs + (bif hasK o.key y.attrs then 1 else 0))) ≤ attrLen (y.attrs.drop (posK o.key y.attrs)) := by
      rw [← List.drop_drop]
      cases hasK o.key y.attrs with
      | false => simp
      | true =>
        cases y.attrs.drop (posK o.key y.attrs) with
        | nil => simp
        | cons a l => rw [attrLen_cons]; simp only [cond_true, List.drop_succ_cons, List.drop_zero]; omega
    have e3 : (midA o).length + attrLen (midA o) ≤ 1 + o.key.length + o.value.length := by
      unfold midA
      cases o.gone <;> simp [attrLen]
      omega
    simp only [List.length_append, List.length_take, List.length_drop]
    omega
  have w1 := weight_eq y
  have w2 := weight_eq (setAT o y)
  have : (setAT o y).label = y.label ∧ (setAT o y).text = y.text ∧ (setAT o y).attrs = setA o y.attrs ∧ (setAT o y).subs = y.subs := by cases y; exact ⟨rfl, rfl, rfl, rfl⟩
  obtain ⟨q1, q2, q3, q4⟩ := this
  rw [q1, q2, q3, q4] at w2
  omega
theorem relabel_weight (s : List UInt8) (y : Tree) : (relabelT s y).weight ≤ y.weight + s.length := by
  have w1 := weight_eq y
  have w2 := weight_eq (relabelT s y)
  have : (relabelT s y).label = s ∧ (relabelT s y).text = y.text ∧ (relabelT s y).attrs = y.attrs ∧ (relabelT s y).subs = y.subs := by cases y; exact ⟨rfl, rfl, rfl, rfl⟩
  obtain ⟨q1, q2, q3, q4⟩ := this
  rw [q1, q2, q3, q4] at w2
  omega
theorem applyE_length (t : List UInt8) (l : List PieceT) : (applyE t l).1.length ≤ t.length + putsLen l := by
  unfold applyE
  cases hr : rightP l with
  | false => simp
  | true =>
    obtain ⟨r1, r2, r3⟩ := rightP_ok hr
    by_cases h : (t.length : Int) < extentP l
    · rw [decide_eq_true h]; simp
    · rw [decide_eq_false h]
      exact editP_len r2 (by omega)
theorem retext_weight (l : List PieceT) (y : Tree) : (retextT l y).weight ≤ y.weight + putsLen l := by
  have w1 := weight_eq y
  have w2 := weight_eq (retextT l y)
  have : (retextT l y).label = y.label ∧ (retextT l y).text = (applyE y.text l).1 ∧ (retextT l y).attrs = y.attrs ∧ (retextT l y).subs = y.subs := by cases y; exact ⟨rfl, rfl, rfl, rfl⟩
  obtain ⟨q1, q2, q3, q4⟩ := this
  rw [q1, q2, q3, q4] at w2
  have := applyE_length y.text l
  omega
theorem fresh_weight (o : OpT) : (freshT o).weight = 1 + o.label.length := by
  have := weight_eq (freshT o)
  have e : (freshT o).label = o.label ∧ (freshT o).text = [] ∧ (freshT o).attrs = [] ∧ (freshT o).subs = [] := ⟨rfl, rfl, rfl, rfl⟩
  obtain ⟨q1, q2, q3, q4⟩ := e
  rw [q1, q2, q3, q4] at this
  simp [attrLen, weights] at this
  omega
theorem applyT_weight {t : Tree} {o : OpT} (h : ValidE t o = 0) : (applyT t o).weight ≤ t.weight + costO o := by
  unfold costO
  cases good_of h with
  | ins y hk hy hl h0 h1 h2 =>
    have e : applyT t o = changeT (insT o.at_ (freshT o)) t o.path := by unfold applyT; rw [hk]; rfl
    have := change_weight_eq (F := insT o.at_ (freshT o)) hy
    have := ins_weight o.at_ (freshT o) y
    have := fresh_weight o
    rw [e]
    omega
  | del x hk hne hx =>
    have e : applyT t o = withoutT t o.path := by unfold applyT; rw [hk]; rfl
    have := without_weight hne hx
    rw [e]
    omega
  | mov x z hk hne hx hw hz hl h0 h1 =>
    have e : applyT t o = moveT x t o := by unfold applyT; rw [hk, hx]; rfl
    have := without_weight hne hx
    have := change_weight_add (F := insT (landT o.path.dropLast (lastP o.path) o.to o.at_).2 x) (n := x.weight) (ins_weight _ x) (landT o.path.dropLast (lastP o.path) o.to o.at_).1 (withoutT t o.path)
    rw [e, moveT_eq]
    omega
  | att y hk hy h1 h2 =>
    have e : applyT t o = changeT (setAT o) t o.path := by unfold applyT; rw [hk]; rfl
    have := change_weight_eq (F := setAT o) hy
    have := setA_weight o y
    rw [e]
    omega
  | lab y hk hy h2 =>
    have e : applyT t o = changeT (relabelT o.label) t o.path := by unfold applyT; rw [hk]; rfl
    have := change_weight_eq (F := relabelT o.label) hy
    have := relabel_weight o.label y
    rw [e]
    omega
  | edt y hk hy hl he =>
    have e : applyT t o = changeT (retextT o.pieces) t o.path := by unfold applyT; rw [hk]; rfl
    have := change_weight_eq (F := retextT o.pieces) hy
    have := retext_weight o.pieces y
    rw [e]
    omega
theorem applyR_weight (t : Tree) (o : OpT) : (applyR t o).1.weight ≤ t.weight + costO o := by
  unfold applyR
  by_cases h : ValidE t o = 0
  · rw [decide_eq_true h]
    exact applyT_weight h
  · rw [decide_eq_false h]
    have e : (Tree.mk 0 false [] [] [] []).weight = 1 := by
      have := weight_eq (Tree.mk 0 false [] [] [] [])
      simp [attrLen, weights, Tree.label, Tree.text, Tree.attrs, Tree.subs] at this
      exact this
    show (Tree.mk 0 false [] [] [] []).weight ≤ _
    rw [e]
    unfold costO
    omega
end Bow
/- SP15: a tree that was right stays right, in plain Lean. -/
namespace Bow
open Go

theorem rightN_iff (t : Tree) : rightN t = true ↔ t.label.length ≤ 64 ∧ (t.leaf = true → t.subs = []) ∧ (t.leaf = false → t.text = []) ∧ attrsOk none t.attrs = true := by
  unfold rightN headOk
  constructor
  · intro h
    rw [Bool.and_eq_true, Bool.and_eq_true, Bool.and_eq_true] at h
    obtain ⟨⟨h1, h2, h3⟩, h4⟩ := h
    refine ⟨by simp at h1; omega, fun hl => ?_, fun hl => ?_, h4⟩
    · rw [hl] at h2
      cases hs : t.subs with
      | nil => rfl
      | cons a l => rw [hs] at h2; simp at h2
    · rw [hl] at h3
      simpa using h3
  · rintro ⟨h1, h2, h3, h4⟩
    rw [h4, decide_eq_false (by omega : ¬ (64 : Int) < t.label.length)]
    cases hl : t.leaf with
    | false => rw [h3 hl]; simp
    | true => rw [h2 hl]; simp
theorem rightN_subs (t : Tree) (ss : List Tree) (h : rightN t = true) (hl : t.leaf = true → ss = []) : rightN (t.withSubs ss) = true := by
  obtain ⟨h1, h2, h3, h4⟩ := (rightN_iff t).1 h
  refine (rightN_iff _).2 ?_
  obtain ⟨i, lf, b, a, c, us⟩ := t
  exact ⟨h1, hl, h3, h4⟩
theorem rightN_leaf {t : Tree} (h : rightN t = true) (hl : t.leaf = true) : t.subs = [] := ((rightN_iff t).1 h).2.1 hl
theorem rightA_N {t : Tree} (h : t.rightA = true) : rightN t = true := by
  rw [rightA_eq, Bool.and_eq_true] at h
  exact h.1
theorem rightA_subs {t : Tree} (h : t.rightA = true) : ∀ s ∈ t.subs, s.rightA = true := by
  rw [rightA_eq, Bool.and_eq_true, rightsA_all] at h
  exact List.all_eq_true.1 h.2
theorem rightA_mk {t : Tree} (h1 : rightN t = true) (h2 : ∀ s ∈ t.subs, s.rightA = true) : t.rightA = true := by
  rw [rightA_eq, h1, rightsA_all, Bool.true_and]
  exact List.all_eq_true.2 h2
theorem change_rightA {F : Tree → Tree} {y : Tree} : ∀ {p : List Int} {t : Tree}, t.rightA = true → atT t p = some y → (F y).rightA = true → (changeT F t p).rightA = true
  | [], t, _, h, hF => by
    rw [atT] at h
    injection h with h
    subst h
    exact hF
  | i :: p, t, ht, h, hF => by
    rw [atT] at h
    cases hs : subT t i with
    | none => rw [hs] at h; cases h
    | some s =>
      rw [hs] at h
      obtain ⟨h1, h2, h3⟩ := subT_some hs
      have ih := change_rightA (F := F) (p := p) (rightA_subs ht s h3) h hF
      rw [changeT, hs]
      simp only
      refine rightA_mk (rightN_subs t _ (rightA_N ht) fun hl => ?_) fun u hu => ?_
      · rw [rightN_leaf (rightA_N ht) hl] at h3
        cases h3
      · rw [withSubs_subs] at hu
        rcases List.mem_or_eq_of_mem_set hu with hu | rfl
        · exact rightA_subs ht u hu
        · exact ih
theorem ins_rightA (n : Int) {x y : Tree} (hy : y.rightA = true) (hl : y.leaf = false) (hx : x.rightA = true) : (insT n x y).rightA = true := by
  refine rightA_mk (rightN_subs y _ (rightA_N hy) fun h => by rw [hl] at h; cases h) fun u hu => ?_
  unfold insT at hu
  rw [withSubs_subs] at hu
  rcases List.mem_append.1 hu with hu | hu
  · exact rightA_subs hy u (List.mem_of_mem_take hu)
  · rcases List.mem_cons.1 hu with rfl | hu
    · exact hx
    · exact rightA_subs hy u (List.mem_of_mem_drop hu)
theorem del_rightA (n : Int) {y : Tree} (hy : y.rightA = true) : (delT n y).rightA = true := by
  refine rightA_mk (rightN_subs y _ (rightA_N hy) fun h => by rw [rightN_leaf (rightA_N hy) h]; simp) fun u hu => ?_
  unfold delT at hu
  rw [withSubs_subs] at hu
  rcases List.mem_append.1 hu with hu | hu
  · exact rightA_subs hy u (List.mem_of_mem_take hu)
  · exact rightA_subs hy u (List.mem_of_mem_drop hu)
theorem less_ord {k s : List UInt8} (h : Op.bytesLess k s = true) : ordOk (some k) s = true := by
  show (!leS s k) = true
  unfold leS
  rw [less_asymm h, decide_eq_false fun e => less_ne h e.symm]
  rfl
theorem ord_trans {k0 : Option (List UInt8)} {k s : List UInt8} (h1 : ordOk k0 k = true) (h2 : Op.bytesLess k s = true) : ordOk k0 s = true := by
  cases k0 with
  | none => rfl
  | some q => exact less_ord (less_trans (ordOk_less h1) h2)
theorem attrOk_mk {k0 : Option (List UInt8)} {a : List UInt8 × List UInt8} (h1 : keyOk a.1 = true) (h2 : a.2.length ≤ 256) (h3 : ordOk k0 a.1 = true) : attrOk k0 a = true := by
  unfold attrOk
  rw [h1, h3, decide_eq_true (by omega)]
  rfl
theorem attrOk_parts {k0 : Option (List UInt8)} {a : List UInt8 × List UInt8} (h : attrOk k0 a = true) : keyOk a.1 = true ∧ a.2.length ≤ 256 ∧ ordOk k0 a.1 = true := by
  unfold attrOk at h
  simp only [Bool.and_eq_true, decide_eq_true_eq] at h
  exact ⟨h.1, by omega, h.2.2⟩
theorem attrsOk_weak {k0 : Option (List UInt8)} {k : List UInt8} (h : ordOk k0 k = true) : ∀ {l : AttrL}, attrsOk (some k) l = true → attrsOk k0 l = true
  | [], _ => rfl
  | a :: l, hl => by
    rw [attrsOk, Bool.and_eq_true] at hl ⊢
    obtain ⟨h1, h2, h3⟩ := attrOk_parts hl.1
    exact ⟨attrOk_mk h1 h2 (ord_trans h (ordOk_less h3)), hl.2⟩
theorem refA_true_ok (o : OpT) : ∀ {l : AttrL} {k0 : Option (List UInt8)}, attrsOk k0 l = true → attrsOk k0 (refA o true l) = true
  | [], _, _ => rfl
  | a :: l, k0, h => by
    have ih := refA_true_ok o (attrsOk_tail h)
    rw [attrsOk, Bool.and_eq_true] at h
    obtain ⟨h1, h2, h3⟩ := attrOk_parts h.1
    rw [refA]
    simp only [Bool.not_true, Bool.false_and, cond_false, List.nil_append, Bool.true_or]
    cases decide (a.1 = o.key) with
    | true => exact attrsOk_weak h3 ih
    | false =>
      show attrsOk k0 (a :: refA o true l) = true
      rw [attrsOk, h.1, ih]
      rfl
theorem refA_false_ok (o : OpT) (hk : keyOk o.key = true) (hv : o.value.length ≤ 256) : ∀ {l : AttrL} {k0 : Option (List UInt8)}, attrsOk k0 l = true → ordOk k0 o.key = true → attrsOk k0 (refA o false l) = true
  | [], k0, _, ho => by
    show attrsOk k0 [(o.key, o.value)] = true
    rw [attrsOk, attrOk_mk hk hv ho]
    rfl
  | a :: l, k0, h, ho => by
    have ht := attrsOk_tail h
    rw [attrsOk, Bool.and_eq_true] at h
    obtain ⟨h1, h2, h3⟩ := attrOk_parts h.1
    rw [refA]
    cases ha : Op.bytesLess a.1 o.key with
    | true =>
      rw [decide_eq_false (less_ne ha)]
      show attrsOk k0 (a :: refA o false l) = true
      rw [attrsOk, h.1, refA_false_ok o hk hv ht (less_ord ha)]
      rfl
    | false =>
      by_cases he : a.1 = o.key
      · rw [decide_eq_true he]
        show attrsOk k0 ((o.key, o.value) :: refA o true l) = true
        rw [attrsOk, attrOk_mk hk hv ho]
        show attrsOk (some o.key) (refA o true l) = true
        rw [← he]
        exact refA_true_ok o ht
      · rw [decide_eq_false he]
        show attrsOk k0 ((o.key, o.value) :: a :: refA o true l) = true
        have hka : Op.bytesLess o.key a.1 = true := by
          cases hk' : Op.bytesLess o.key a.1 with
          | true => rfl
          | false => exact absurd (less_tri ha hk') he
        rw [attrsOk, attrOk_mk hk hv ho, attrsOk, attrOk_mk h1 h2 (less_ord hka)]
        exact refA_true_ok o ht
theorem withAttrs_rightA {y : Tree} {a : AttrL} (hy : y.rightA = true) (ha : attrsOk none a = true) : (y.withAttrs a).rightA = true := by
  have h1 := rightA_N hy
  have h2 := rightA_subs hy
  obtain ⟨q1, q2, q3, q4⟩ := (rightN_iff y).1 h1
  obtain ⟨i, lf, b, a', c, us⟩ := y
  exact rightA_mk ((rightN_iff _).2 ⟨q1, q2, q3, ha⟩) h2
theorem setAT_rightA {o : OpT} {y : Tree} (hy : y.rightA = true) (hk : keyOk o.key = true) (hv : o.gone = true ∨ o.value.length ≤ 256) : (setAT o y).rightA = true := by
  unfold setAT
  refine withAttrs_rightA hy ?_
  rw [← attr_law o (right_attrs hy)]
  cases hg : o.gone with
  | true => exact refA_true_ok o (right_attrs hy)
  | false => exact refA_false_ok o hk (hv.resolve_left (by rw [hg]; simp)) (right_attrs hy) rfl
theorem relabel_rightA {s : List UInt8} {y : Tree} (hy : y.rightA = true) (hs : s.length ≤ 64) : (relabelT s y).rightA = true := by
  have h1 := rightA_N hy
  have h2 := rightA_subs hy
  obtain ⟨q1, q2, q3, q4⟩ := (rightN_iff y).1 h1
  obtain ⟨i, lf, b, a', c, us⟩ := y
  exact rightA_mk ((rightN_iff _).2 ⟨hs, q2, q3, q4⟩) h2
theorem retext_rightA {l : List PieceT} {y : Tree} (hy : y.rightA = true) (hl : y.leaf = true) : (retextT l y).rightA = true := by
  have h1 := rightA_N hy
  have h2 := rightA_subs hy
  obtain ⟨q1, q2, q3, q4⟩ := (rightN_iff y).1 h1
  obtain ⟨i, lf, b, a', c, us⟩ := y
  exact rightA_mk ((rightN_iff _).2 ⟨q1, q2, fun h => absurd (h.symm.trans hl) (by simp), q4⟩) h2
theorem fresh_rightA {o : OpT} (h : o.label.length ≤ 64) : (freshT o).rightA = true := by
  exact rightA_mk ((rightN_iff _).2 ⟨h, fun _ => rfl, fun _ => rfl, rfl⟩) (fun s hs => by cases hs)
/-- Where a moved node lands. -/
theorem land_of {t x z : Tree} {fr to : List Int} {at_ : Int} (hne : fr ≠ []) (hx : atT t fr = some x) (hw : within fr to = false) (hz : atT t to = some z) (h0 : 0 ≤ at_) (h1 : at_ ≤ z.subs.length) :
    ∃ z', atT (withoutT t fr) (landT fr.dropLast (lastP fr) to at_).1 = some z' ∧ 0 ≤ (landT fr.dropLast (lastP fr) to at_).2 ∧ (landT fr.dropLast (lastP fr) to at_).2 ≤ z'.subs.length ∧ z'.leaf = z.leaf ∧ z'.id = z.id := by
  obtain ⟨y, y1, y2, y3, y4⟩ := at_parent hne hx
  have hlast := lastP_eq hne
  rw [hlast] at y2 y3 y4
  have hw' : within (fr.dropLast ++ [lastP fr]) to = false := by rw [← hlast, List.dropLast_concat_getLast]; exact hw
  exact land_at2 y2 h0 fr.dropLast to t y z y1 y3 hw' hz h1
theorem without_rightA {t x : Tree} {fr : List Int} (hne : fr ≠ []) (hx : atT t fr = some x) (ht : t.rightA = true) : (withoutT t fr).rightA = true := by
  obtain ⟨y, y1, y2, y3, y4⟩ := at_parent hne hx
  exact change_rightA ht y1 (del_rightA _ (right_at ht y1))
theorem change_leaf {F : Tree → Tree} (hF : ∀ y, (F y).leaf = y.leaf) : ∀ (p : List Int) (t : Tree), (changeT F t p).leaf = t.leaf
  | [], t => hF t
  | i :: p, t => by
    rw [changeT]
    cases subT t i with
    | none => rfl
    | some s => exact withSubs_leaf _ _
theorem rightT_parts {t : Tree} (h : rightT t = true) : t.leaf = false ∧ t.rightA = true := by
  unfold rightT at h
  simpa using h
theorem right_applyT {t : Tree} {o : OpT} (h : ValidE t o = 0) : rightT (applyT t o) = true := by
  obtain ⟨hr, hf, _⟩ := valid_right h
  obtain ⟨hl, hA⟩ := rightT_parts hr
  have hins : ∀ n x, ∀ y, (insT n x y).leaf = y.leaf := fun n x y => withSubs_leaf _ _
  have hdel : ∀ n, ∀ y, (delT n y).leaf = y.leaf := fun n y => withSubs_leaf _ _
  have key : (applyT t o).leaf = t.leaf ∧ (applyT t o).rightA = true := by
    cases good_of h with
    | ins y hk hy hl h0 h1 h2 =>
      have e : applyT t o = changeT (insT o.at_ (freshT o)) t o.path := by unfold applyT; rw [hk]; rfl
      rw [e]
      exact ⟨change_leaf (hins _ _) _ _, change_rightA hA hy (ins_rightA _ (right_at hA hy) hl (fresh_rightA h2))⟩
    | del x hk hne hx =>
      have e : applyT t o = withoutT t o.path := by unfold applyT; rw [hk]; rfl
      rw [e]
      exact ⟨change_leaf (hdel _) _ _, without_rightA hne hx hA⟩
    | mov x z hk hne hx hw hz hl h0 h1 =>
      have e : applyT t o = moveT x t o := by unfold applyT; rw [hk, hx]; rfl
      obtain ⟨z', k1, k2, k3, k4, k5⟩ := land_of hne hx hw hz h0 h1
      rw [e, moveT_eq]
      have hwA := without_rightA hne hx hA
      refine ⟨(change_leaf (hins _ _) _ _).trans (change_leaf (hdel _) _ _), change_rightA hwA k1 (ins_rightA _ (right_at hwA k1) (k4.trans hl) (right_at hA hx))⟩
    | att y hk hy h1 h2 =>
      have e : applyT t o = changeT (setAT o) t o.path := by unfold applyT; rw [hk]; rfl
      rw [e]
      exact ⟨change_leaf (fun y => by cases y; rfl) _ _, change_rightA hA hy (setAT_rightA (right_at hA hy) h1 h2)⟩
    | lab y hk hy h2 =>
      have e : applyT t o = changeT (relabelT o.label) t o.path := by unfold applyT; rw [hk]; rfl
      rw [e]
      exact ⟨change_leaf (fun y => by cases y; rfl) _ _, change_rightA hA hy (relabel_rightA (right_at hA hy) h2)⟩
    | edt y hk hy hl he =>
      have e : applyT t o = changeT (retextT o.pieces) t o.path := by unfold applyT; rw [hk]; rfl
      rw [e]
      exact ⟨change_leaf (fun y => by cases y; rfl) _ _, change_rightA hA hy (retext_rightA (right_at hA hy) hl)⟩
  unfold rightT
  rw [key.1, key.2, hl]
  rfl
end Bow
/- SP16: the identities of a tree, counted, in plain Lean. -/
namespace Bow
open Go

mutual
def idsT : Tree → List Int
  | .mk i _ _ _ _ ss => i :: idsTs ss
def idsTs : List Tree → List Int
  | [] => []
  | s :: ss => idsT s ++ idsTs ss
end
theorem idsT_eq (t : Tree) : idsT t = t.id :: idsTs t.subs := by cases t; rw [idsT]; rfl
mutual
theorem idsT_len : ∀ t : Tree, (idsT t).length = t.size
  | .mk i l a b c ss => by rw [idsT, Tree.size, List.length_cons, idsTs_len ss]; omega
theorem idsTs_len : ∀ ss : List Tree, (idsTs ss).length = sizes ss
  | [] => rfl
  | s :: ss => by rw [idsTs, sizes, List.length_append, idsT_len s, idsTs_len ss]
end
theorem idsTs_append : ∀ a b : List Tree, idsTs (a ++ b) = idsTs a ++ idsTs b
  | [], b => by rw [idsTs]; rfl
  | x :: a, b => by rw [List.cons_append, idsTs, idsTs, idsTs_append a b, List.append_assoc]
/-- A measure of rows that adds up. -/
def Adds (m : List Int → Nat) : Prop := ∀ a b, m (a ++ b) = m a + m b
theorem adds_len : Adds List.length := fun a b => List.length_append
theorem adds_count (i : Int) : Adds (List.count i) := fun a b => List.count_append
section
variable {m : List Int → Nat}
theorem Adds.nil (h : Adds m) : m [] = 0 := by have := h [] []; simp at this; omega
theorem Adds.tree (h : Adds m) (t : Tree) : m (idsT t) = m [t.id] + m (idsTs t.subs) := by rw [idsT_eq, ← h]; rfl
theorem Adds.subs (h : Adds m) (t : Tree) (ss : List Tree) : m (idsT (t.withSubs ss)) + m (idsTs t.subs) = m (idsT t) + m (idsTs ss) := by
  rw [h.tree, h.tree t, withSubs_id, withSubs_subs]
  omega
theorem Adds.set (h : Adds m) {s u : Tree} : ∀ {l : List Tree} {i : Nat}, l[i]? = some s → m (idsTs (l.set i u)) + m (idsT s) = m (idsTs l) + m (idsT u)
  | [], i, q => by simp at q
  | x :: l, 0, q => by
    simp at q
    subst q
    rw [List.set_cons_zero, idsTs, idsTs, h, h]
    omega
  | x :: l, i + 1, q => by
    simp at q
    have := h.set (u := u) (l := l) q
    rw [List.set_cons_succ, idsTs, idsTs, h, h]
    omega
theorem Adds.change (h : Adds m) {F : Tree → Tree} {y : Tree} : ∀ {p : List Int} {t : Tree}, atT t p = some y → m (idsT (changeT F t p)) + m (idsT y) = m (idsT t) + m (idsT (F y))
  | [], t, q => by
    rw [atT] at q
    injection q with q
    subst q
    rw [changeT]
    omega
  | i :: p, t, q => by
    rw [atT] at q
    cases hs : subT t i with
    | none => rw [hs] at q; cases q
    | some s =>
      rw [hs] at q
      have ih := h.change (F := F) (p := p) q
      rw [changeT, hs]
      simp only
      have h1 := h.set (u := changeT F s p) (subT_some hs).2.1
      have h2 := h.subs t (t.subs.set i.toNat (changeT F s p))
      omega
theorem Adds.ins (h : Adds m) (n : Int) (x y : Tree) : m (idsT (insT n x y)) = m (idsT y) + m (idsT x) := by
  have h1 := h.subs y (y.subs.take n.toNat ++ x :: y.subs.drop n.toNat)
  have h2 : m (idsTs (y.subs.take n.toNat ++ x :: y.subs.drop n.toNat)) = m (idsTs y.subs) + m (idsT x) := by
    conv => rhs; rw [← List.take_append_drop n.toNat y.subs]
    rw [idsTs_append, idsTs_append, idsTs, h, h, h]
    omega
  unfold insT
  omega
theorem Adds.del (h : Adds m) {y x : Tree} {i : Int} (q : y.subs[i.toNat]? = some x) : m (idsT (delT i y)) + m (idsT x) = m (idsT y) := by
  have h1 := h.subs y (y.subs.take i.toNat ++ y.subs.drop (i.toNat + 1))
  have h2 : m (idsTs (y.subs.take i.toNat ++ y.subs.drop (i.toNat + 1))) + m (idsT x) = m (idsTs y.subs) := by
    have hl := lt_of_get q
    conv => rhs; rw [← List.take_append_drop i.toNat y.subs]
    rw [idsTs_append, idsTs_append, List.drop_eq_getElem_cons hl, idsTs, h, h, h]
    have : y.subs[i.toNat] = x := by rw [List.getElem?_eq_getElem hl] at q; injection q
    rw [this]
    omega
  unfold delT
  omega
theorem Adds.without (h : Adds m) {t x : Tree} {p : List Int} (hne : p ≠ []) (hx : atT t p = some x) : m (idsT (withoutT t p)) + m (idsT x) = m (idsT t) := by
  obtain ⟨y, y1, y2, y3, y4⟩ := at_parent hne hx
  rw [lastP_eq hne] at y4
  have h1 := h.change (F := delT (lastP p)) y1
  have h2 := h.del y4
  unfold withoutT
  omega
theorem Adds.same (h : Adds m) {F : Tree → Tree} {y t : Tree} {p : List Int} (hF : ∀ y, idsT (F y) = idsT y) (hy : atT t p = some y) : m (idsT (changeT F t p)) = m (idsT t) := by
  have := h.change (F := F) hy
  rw [hF] at this
  omega
theorem ids_fresh (o : OpT) : idsT (freshT o) = [o.id] := by rw [idsT_eq]; rfl
/-- What an operation takes away. -/
def goneT (t : Tree) (o : OpT) : List Int := bif decide (o.kind = 2) then (match atT t o.path with | some x => idsT x | none => []) else []
def moreT (o : OpT) : List Int := bif decide (o.kind = 1) then [o.id] else []
theorem Adds.apply (h : Adds m) {t : Tree} {o : OpT} (hv : ValidE t o = 0) : m (idsT (applyT t o)) + m (goneT t o) = m (idsT t) + m (moreT o) := by
  have h0 := h.nil
  cases good_of hv with
  | ins y hk hy hl h0 h1 h2 =>
    have e : applyT t o = changeT (insT o.at_ (freshT o)) t o.path := by unfold applyT; rw [hk]; rfl
    have e1 : goneT t o = [] := by unfold goneT; rw [hk]; rfl
    have e2 : moreT o = [o.id] := by unfold moreT; rw [hk]; rfl
    have q1 := h.change (F := insT o.at_ (freshT o)) hy
    have q2 := h.ins o.at_ (freshT o) y
    rw [ids_fresh] at q2
    rw [e, e1, e2]
    omega
  | del x hk hne hx =>
    have e : applyT t o = withoutT t o.path := by unfold applyT; rw [hk]; rfl
    have e1 : goneT t o = idsT x := by unfold goneT; rw [hk, hx]; rfl
    have e2 : moreT o = [] := by unfold moreT; rw [hk]; rfl
    have q1 := h.without hne hx
    rw [e, e1, e2]
    omega
  | mov x z hk hne hx hw hz hl h0 h1 =>
    have e : applyT t o = moveT x t o := by unfold applyT; rw [hk, hx]; rfl
    have e1 : goneT t o = [] := by unfold goneT; rw [hk]; rfl
    have e2 : moreT o = [] := by unfold moreT; rw [hk]; rfl
    obtain ⟨z', k1, k2, k3, k4, k5⟩ := land_of hne hx hw hz h0 h1
    have q1 := h.without hne hx
    have q2 := h.change (F := insT (landT o.path.dropLast (lastP o.path) o.to o.at_).2 x) k1
    have q3 := h.ins (landT o.path.dropLast (lastP o.path) o.to o.at_).2 x z'
    rw [e, e1, e2, moveT_eq]
    omega
  | att y hk hy h1 h2 =>
    have e : applyT t o = changeT (setAT o) t o.path := by unfold applyT; rw [hk]; rfl
    have e1 : goneT t o = [] := by unfold goneT; rw [hk]; rfl
    have e2 : moreT o = [] := by unfold moreT; rw [hk]; rfl
    rw [e, e1, e2, h.same (fun y => by cases y; rfl) hy]
  | lab y hk hy h2 =>
    have e : applyT t o = changeT (relabelT o.label) t o.path := by unfold applyT; rw [hk]; rfl
    have e1 : goneT t o = [] := by unfold goneT; rw [hk]; rfl
    have e2 : moreT o = [] := by unfold moreT; rw [hk]; rfl
    rw [e, e1, e2, h.same (fun y => by cases y; rfl) hy]
  | edt y hk hy hl he =>
    have e : applyT t o = changeT (retextT o.pieces) t o.path := by unfold applyT; rw [hk]; rfl
    have e1 : goneT t o = [] := by unfold goneT; rw [hk]; rfl
    have e2 : moreT o = [] := by unfold moreT; rw [hk]; rfl
    rw [e, e1, e2, h.same (fun y => by cases y; rfl) hy]
end
end Bow
/- W39: the reference's Same, IDs. -/
namespace Bow
open Go Go.Proofs

theorem attrs_take {α : Type} {xs ys : List α} {i : Nat} (h1 : i < xs.length) (h2 : i < ys.length) : (xs.drop i = ys.drop i) = (xs[i] = ys[i] ∧ xs.drop (i + 1) = ys.drop (i + 1)) := by
  rw [List.drop_eq_getElem_cons h1, List.drop_eq_getElem_cons h2, List.cons.injEq]

set_option maxRecDepth 100000 in
theorem w_refSameAttrs (xs ys : AttrL) (hl : xs.length ≤ 1000000) : Pure Try.prog 72 [.sl 2 (xs.map attrV), .sl 2 (ys.map attrV)] (fun x => x = .bool (decide (xs = ys))) := by
  refine pure_wk (pure_fn 300 Try.func72 rfl rfl rfl fun B => ?_)
  refine ⟨fun g1 => go 300 ?_, fun g1 => go 300 ?_⟩
  · have g1 := ne_of' g1
    exact ⟨trivial, rfl, rfl, rfl, leaf_ff (decide_eq_false fun e => g1 (by rw [e]))⟩
  have g1 : xs.length = ys.length := by have := eq_of' g1; simp at this; omega
  show Goes _ _ _ _
  refine goes_iter (ι := Nat) (fun i => i ≤ xs.length ∧ (xs.drop i = ys.drop i ↔ xs = ys)) (fun i => xs.length - i) (fun i => [(5, .int .i64 i), (0, .sl 2 (xs.map attrV)), (1, .sl 2 (ys.map attrV))]) (fun _ => []) 0 300 (fun _ => rfl) (fun _ => rfl) ⟨⟨Nat.zero_le _, by simp⟩, ⟨⟨rfl, rfl⟩, ⟨rfl, rfl⟩, ⟨rfl, rfl⟩, trivial⟩, trivial⟩ ?_
  rintro i ⟨k1, k2⟩ next
  refine ⟨fun hlt => go 300 ?_, fun hge => go 300 ?_⟩
  · have hi : i < xs.length := by simpa using hlt
    have hi' : i < ys.length := by omega
    have hx : (xs.map attrV)[i]? = some (attrV xs[i]) := by simp [hi]
    have hy : (ys.map attrV)[i]? = some (attrV ys[i]) := by simp [hi']
    rw [attrs_take hi hi'] at k2
    show Goes _ _ _ _
    refine goes_draw 300 ⟨Int.natCast_nonneg i, _, hx, Int.natCast_nonneg i, _, hy, ?_⟩
    refine ⟨by kernel_rfl, ?_⟩
    refine ⟨by kernel_rfl, ?_⟩
    refine ⟨fun g2 => go 300 ?_, fun g2 => go 300 ?_⟩
    · refine ⟨trivial, rfl, rfl, rfl, leaf_ff (decide_eq_false fun e => ?_)⟩
      have := (k2.2 e).1
      rw [this] at g2
      simp at g2
    · refine ⟨by constructor <;> omega, ?_⟩
      have he : xs[i] = ys[i] := by
        simp at g2
        exact Prod.ext g2.1 g2.2
      exact next (i + 1) _ _ ⟨⟨hi, by rw [← k2]; exact ⟨fun h => ⟨he, h⟩, fun h => h.2⟩⟩, by omega, ⟨⟨rfl, rfl⟩, ⟨rfl, rfl⟩, ⟨rfl, rfl⟩, trivial⟩, trivial⟩
  · have hi : i = xs.length := by have : xs.length ≤ i := by simpa using hge
                                  omega
    subst hi
    refine ⟨trivial, rfl, rfl, rfl, leaf_tt (decide_eq_true (k2.1 ?_))⟩
    rw [List.drop_eq_nil_of_le (Nat.le_refl _), List.drop_eq_nil_of_le (by omega)]

set_option maxHeartbeats 1000000 in
set_option maxRecDepth 100000 in
theorem w_refSameT (t : Tree) : ∀ u : Tree, t.weight ≤ 1000000 → Pure Try.prog 31 [nodeV t, nodeV u] (fun x => x = .bool (sameT true t u)) := by
  induction t using Tree.ind with
  | _ t ih =>
  intro u ht
  have hsl := subs_le_weight t
  have hal := attrs_le_weight t
  have hA := w_refSameAttrs t.attrs u.attrs (by omega)
  have e := sameT_eq true t u
  refine pure_wk (pure_fn 300 Try.func31 rfl rfl rfl fun B => ?_)
  repeat' first
    | (refine ⟨fun _ => go 300 ?_, fun _ => go 300 ?_⟩)
    | (show CallThen _ _ _ _ _ _; refine call_pure hA rfl ?_; rintro z rfl)
    | (refine ⟨trivial, rfl, rfl, rfl, leaf_ff ?_⟩)
    | fail
  case h.refine_2.refine_2.refine_2.refine_2.refine_2.refine_2 g1 g2 g3 g4 g5 g6 =>
    have hlen : t.subs.length = u.subs.length := by have := eq_of' g6; rw [subV_len, subV_len] at this; omega
    have e' : sameT true t u = sameTs true t.subs u.subs := by
      rw [e]
      have g1 := eq_of' g1
      simp at g2 g3 g4 g5
      simp [g1, g2, g3, g4, g5]
    show Goes _ _ _ _
    refine goes_iter (ι := Nat) (fun i => i ≤ t.subs.length ∧ sameTs true (t.subs.drop i) (u.subs.drop i) = sameTs true t.subs u.subs) (fun i => t.subs.length - i) (fun i => [(5, .int .i64 i), (2, .ptr (.loc 0) 0), (3, .ptr (.loc 1) 0)]) (fun _ => [some (.box (nodeV t).cells), some (.box (nodeV u).cells)]) 0 300 (fun _ => rfl) (fun _ => rfl) ⟨⟨Nat.zero_le _, rfl⟩, ⟨⟨rfl, rfl⟩, ⟨rfl, rfl⟩, ⟨rfl, rfl⟩, trivial⟩, ⟨⟨rfl, rfl⟩, ⟨rfl, rfl⟩, trivial⟩⟩ ?_
    rintro i ⟨k1, k2⟩ next
    refine ⟨fun hlt => go 300 ?_, fun hge => go 300 ?_⟩
    · have hi : i < t.subs.length := by simpa [subV_eq] using hlt
      have hi' : i < u.subs.length := by omega
      have hx : t.subV[i]? = some (nodeV t.subs[i]) := by simp [subV_eq, hi]
      have hy : u.subV[i]? = some (nodeV u.subs[i]) := by simp [subV_eq, hi']
      have hws := weight_sub (List.getElem_mem hi)
      rw [sameTs_at hi hi'] at k2
      show Goes _ _ _ _
      refine goes_draw 300 ⟨Int.natCast_nonneg i, _, hx, Int.natCast_nonneg i, _, hy, _, ih _ (List.getElem_mem hi) u.subs[i] (by omega), rfl, ?_⟩
      refine ⟨by kernel_rfl, ?_⟩
      refine ⟨fun g => go 300 ?_, fun g => go 300 ?_⟩
      · have g : sameT true t.subs[i] u.subs[i] = false := by simpa using g
        exact ⟨trivial, rfl, rfl, rfl, leaf_ff (by rw [e', ← k2, g]; rfl)⟩
      · have g : sameT true t.subs[i] u.subs[i] = true := by simpa using g
        rw [g, Bool.true_and] at k2
        refine ⟨by constructor <;> omega, ?_⟩
        exact next (i + 1) _ _ ⟨⟨hi, k2⟩, by omega, ⟨⟨rfl, rfl⟩, ⟨rfl, rfl⟩, ⟨rfl, rfl⟩, trivial⟩, ⟨⟨rfl, rfl⟩, ⟨rfl, rfl⟩, trivial⟩⟩
    · have hi : t.subs.length ≤ i := by simpa [subV_eq] using hge
      rw [List.drop_eq_nil_of_le hi, List.drop_eq_nil_of_le (by omega), sameTs] at k2
      exact ⟨trivial, rfl, rfl, rfl, leaf_tt (by rw [e', ← k2])⟩
  case h.refine_2.refine_2.refine_2.refine_2.refine_2.refine_1 g1 g2 g3 g4 g5 g6 =>
    have g6 := ne_of' g6
    rw [subV_len, subV_len] at g6
    cases h : sameT true t u with
    | false => rfl
    | true =>
      rw [e] at h
      simp only [Bool.and_eq_true] at h
      exact absurd (congrArg Nat.cast (sameTs_len h.2.2.2.2.2)) g6
  all_goals (rw [e]; simp_all)

theorem idsTs_drop {ss : List Tree} {i : Nat} (h : i < ss.length) : idsTs (ss.drop i) = idsT ss[i] ++ idsTs (ss.drop (i + 1)) := by
  rw [List.drop_eq_getElem_cons h, idsTs]
def idV (i : Int) : V := .int .u64 i
def idsV (l : List Int) : V := .sl 1 (l.map idV)
set_option maxRecDepth 100000 in
theorem w_refIDs (t : Tree) : t.weight ≤ 1000000 → Pure Try.prog 27 [nodeV t] (fun x => x = idsV (idsT t)) := by
  induction t using Tree.ind with
  | _ t ih =>
  intro ht
  have hsl := subs_le_weight t
  have hsz := size_le_weight t
  have hil := idsT_len t
  refine pure_fn 300 Try.func27 rfl rfl rfl fun B => ?_
  refine ⟨⟨rfl, trivial⟩, ?_⟩
  show Goes _ _ _ _
  refine goes_iter (ι := Nat × Nat × Nat × List V) (fun i => i.1 ≤ t.subs.length ∧ ∃ acc : List Int, i.2.2.2 = acc.map idV ∧ i.2.2.1 = acc.length ∧ acc ++ idsTs (t.subs.drop i.1) = idsT t) (fun i => t.subs.length - i.1)
    (fun i => [(4, .int .i64 i.1), (3, .osl (.loc 1) i.2.1 0 i.2.2.1), (1, .ptr (.loc 0) 0)]) (fun i => [some (.box (nodeV t).cells), some (.vec i.2.1 1 i.2.2.2)]) (0, 0, 1, [idV t.id]) 300 (fun _ => rfl) (fun _ => rfl) ⟨⟨Nat.zero_le _, [t.id], rfl, rfl, by rw [idsT_eq]; rfl⟩, ⟨⟨rfl, rfl⟩, ⟨rfl, rfl⟩, ⟨rfl, rfl⟩, trivial⟩, ⟨⟨rfl, rfl⟩, ⟨rfl, rfl⟩, trivial⟩⟩ ?_
  rintro ⟨i, g, n, xs⟩ ⟨k1, acc, rfl, rfl, k2⟩ next
  simp only at k1 k2
  refine ⟨fun hlt => go 300 ?_, fun hge => go 300 ?_⟩
  · have hi : i < t.subs.length := by simpa [subV_eq] using hlt
    have hx : t.subV[i]? = some (nodeV t.subs[i]) := by simp [subV_eq, hi]
    have hws := weight_sub (List.getElem_mem hi)
    rw [idsTs_drop hi] at k2
    have hlen := congrArg List.length k2
    simp only [List.length_append] at hlen
    refine ⟨Int.natCast_nonneg i, _, hx, ?_⟩
    show CallThen _ _ _ _ _ _
    refine call_pure (ih _ (List.getElem_mem hi) (by omega)) rfl ?_
    rintro x rfl
    refine ⟨rfl, by simp, room_of (by simp; omega) (by decide), ?_⟩
    refine ⟨by constructor <;> omega, ?_⟩
    show Goes _ _ _ _
    refine next (i + 1, bump g, _, _) _ _ ⟨⟨hi, acc ++ idsT t.subs[i], ?_, ?_, ?_⟩, ?_, ⟨⟨rfl, rfl⟩, ⟨rfl, rfl⟩, ⟨rfl, rfl⟩, trivial⟩, ⟨⟨rfl, rfl⟩, ⟨rfl, rfl⟩, trivial⟩⟩
    · simp
    · simp
    · simpa using k2
    · simp only; omega
  · have hi : t.subs.length ≤ i := by simpa [subV_eq] using hge
    rw [List.drop_eq_nil_of_le hi, idsTs, List.append_nil] at k2
    subst k2
    exact ⟨trivial, rfl, rfl, rfl, by simp, rfl, rfl⟩
end Bow
/- W28: the chapter's examples. -/
namespace Bow
open Go Go.Proofs

def leafT (l t : List UInt8) : Tree := .mk 0 true l [] t []
def nodeT (l : List UInt8) (ss : List Tree) : Tree := .mk 0 false l [] [] ss
def workT : Tree := nodeT [114] [nodeT [97] [leafT [120] [104, 105], nodeT [99] []], leafT [98] [98, 101, 101]]
def work1 : OpT := { noOp 1 with path := [0], at_ := 1, label := [110] }
def work2 : OpT := { noOp 3 with path := [0, 0], at_ := 2 }
def work3 : OpT := { noOp 3 with path := [0], at_ := 1 }
def work4 : OpT := { noOp 6 with path := [0, 0], pieces := [⟨2, 0, [33]⟩] }
def made1 : Tree := nodeT [114] [nodeT [97] [leafT [120] [104, 105], nodeT [110] [], nodeT [99] []], leafT [98] [98, 101, 101]]
def made2 : Tree := nodeT [114] [nodeT [97] [nodeT [99] []], leafT [98] [98, 101, 101], leafT [120] [104, 105]]
def made4 : Tree := nodeT [114] [nodeT [97] [leafT [120] [104, 105, 33], nodeT [99] []], leafT [98] [98, 101, 101]]

theorem okOp {o : OpT} (h : (Nat.ble o.path.length 1000000 && Nat.ble o.to.length 1000000 && Nat.ble o.label.length 1000000 && Nat.ble o.key.length 1000000 && Nat.ble o.value.length 1000000 && Nat.ble o.pieces.length 1000000 && Nat.ble (putsLen o.pieces) 1000000) = true) : o.Ok := by
  simp only [Bool.and_eq_true, Nat.ble_eq] at h
  obtain ⟨⟨⟨⟨⟨⟨h1, h2⟩, h3⟩, h4⟩, h5⟩, h6⟩, h7⟩ := h
  exact ⟨⟨h1, h2, h3, h4, h5, h6⟩, h7⟩
theorem work_weight : workT.weight ≤ 900000 := by decide

theorem w_work1 : Pure Try.prog 29 [nodeV workT, opV work1] (fun x => x = ApplyV (made1, 0)) :=
  w_Apply_ok workT work1 made1 (by decide) (okOp (by decide)) (by decide) (w_apply workT work1 made1 (by decide) (okOp (by decide)) (by intro x h; cases h) (Does.ins (nodeT [97] [leafT [120] [104, 105], nodeT [99] []]) rfl rfl (by decide) (by decide)))
theorem w_work2 : Pure Try.prog 29 [nodeV workT, opV work2] (fun x => x = ApplyV (made2, 0)) :=
  w_Apply_ok workT work2 made2 (by decide) (okOp (by decide)) (by decide) (w_apply workT work2 made2 (by decide) (okOp (by decide)) (by intro x h; cases h) (Does.mov (leafT [120] [104, 105]) workT rfl (by decide) rfl (by decide) rfl (by decide) (by decide)))
theorem w_work3 : Pure Try.prog 29 [nodeV workT, opV work3] (fun x => x = ApplyV (workT, 0)) :=
  w_Apply_ok workT work3 workT (by decide) (okOp (by decide)) (by decide) (w_apply workT work3 workT (by decide) (okOp (by decide)) (by intro x h; cases h) (Does.mov (nodeT [97] [leafT [120] [104, 105], nodeT [99] []]) workT rfl (by decide) rfl (by decide) rfl (by decide) (by decide)))
theorem w_work4 : Pure Try.prog 29 [nodeV workT, opV work4] (fun x => x = ApplyV (made4, 0)) :=
  w_Apply_ok workT work4 made4 (by decide) (okOp (by decide)) (by decide) (w_apply workT work4 made4 (by decide) (okOp (by decide)) (by intro x h; cases h) (Does.edt (leafT [120] [104, 105]) rfl rfl))
end Bow
/- W29: the chapter's examples, all. -/
namespace Bow
open Go Go.Proofs

/-- A node as a literal lays it. -/
def litV (leaf l t k : V) : V := .agg [.int .u64 0, leaf, l, .nilsl, t, k]
theorem wkL_lit {lf : Bool} {lv : V} {l t : List UInt8} {k : V} {ss : List Tree} (h1 : Wk lv (.bool lf)) (h2 : Wk k (.sl 6 (ss.map nodeV))) : WkL (litV lv (.str l) (.str t) k).cells (nodeV (.mk 0 lf l [] t ss)).cells := by
  refine ⟨.refl _, h1, .refl _, Wk.nil 2, .refl _, ?_, trivial⟩
  show Wk k (.sl 6 (Tree.subV _))
  rw [subV_eq]
  exact h2

theorem wk_work : WkL [.int .u64 0, .ff, .str [114], .nilsl, .str [], .sl 6 [litV .ff (.str [97]) (.str []) (.sl 6 [litV .tt (.str [120]) (.str [104, 105]) .nilsl, litV .ff (.str [99]) (.str []) .nilsl]), litV .tt (.str [98]) (.str [98, 101, 101]) .nilsl]] (nodeV workT).cells := by
  refine wkL_lit (lv := .ff) Wk.ff (Wk.sl ?_)
  refine ⟨⟨wkL_lit Wk.ff (Wk.sl ?_), okE_node _⟩, ⟨wkL_lit (ss := []) Wk.tt (Wk.nil 6), okE_node _⟩, trivial⟩
  exact ⟨⟨wkL_lit (ss := []) Wk.tt (Wk.nil 6), okE_node _⟩, ⟨wkL_lit (ss := []) Wk.ff (Wk.nil 6), okE_node _⟩, trivial⟩

theorem w_workV1 : Pure Try.prog 25 [nodeV workT, opV { noOp 3 with path := [0], to := [0, 0] }] (fun x => x = .int .i64 84) :=
  w_Valid workT _ (by decide) (okOp (by decide))
theorem w_workV2 : Pure Try.prog 25 [nodeV workT, opV (noOp 2)] (fun x => x = .int .i64 82) :=
  w_Valid workT _ (by decide) (okOp (by decide))

set_option maxRecDepth 100000 in
theorem w_works08 : Pure Try.prog 24 [] (fun x => x = .bool true) := by
  refine pure_wk (pure_fn 17 Try.func24 rfl rfl rfl fun B => ?_)
  refine ⟨⟨rfl, rfl, trivial⟩, rfl, rfl, ⟨rfl, rfl, trivial⟩, ?_⟩
  show Goes _ _ _ _
  refine goes_freezeIn 1 [2] rfl rfl rfl ?_
  show Goes _ _ _ _
  refine goes_wkbox 2 (nodeV workT).cells rfl rfl rfl wk_work ?_
  refine go 300 ?_
  refine ⟨⟨rfl, trivial⟩, ?_⟩
  show CallThen _ _ _ _ _ _
  refine call_pure_frz ?_
  refine ⟨rfl, rfl, _, pure_args w_work1 ⟨.refl _, wk_op ⟨.refl _, .refl _, .refl _, Wk.nil 1, .refl _, Wk.ff, .refl _, .refl _, .refl _, Wk.ff, Wk.nil 3, trivial⟩, trivial⟩ rfl rfl, rfl, ?_⟩
  rintro x rfl
  refine ⟨⟨rfl, rfl, trivial⟩, ?_⟩
  show CallThen _ _ _ _ _ _
  refine call_pure_frz ?_
  refine ⟨rfl, rfl, _, pure_args w_work2 ⟨.refl _, wk_op ⟨.refl _, .refl _, .refl _, Wk.nil 1, .refl _, Wk.ff, .refl _, .refl _, .refl _, Wk.ff, Wk.nil 3, trivial⟩, trivial⟩ rfl rfl, rfl, ?_⟩
  rintro x rfl
  refine ⟨⟨rfl, trivial⟩, ?_⟩
  show CallThen _ _ _ _ _ _
  refine call_pure_frz ?_
  refine ⟨rfl, rfl, _, pure_args w_work3 ⟨.refl _, wk_op ⟨.refl _, .refl _, .refl _, Wk.nil 1, .refl _, Wk.ff, .refl _, .refl _, .refl _, Wk.ff, Wk.nil 3, trivial⟩, trivial⟩ rfl rfl, rfl, ?_⟩
  rintro x rfl
  refine ⟨⟨rfl, rfl, trivial⟩, ⟨rfl, trivial⟩, ?_⟩
  show CallThen _ _ _ _ _ _
  refine call_pure_frz ?_
  refine ⟨rfl, rfl, rfl, rfl, _, pure_args w_work4 ⟨.refl _, wk_op ⟨.refl _, .refl _, .refl _, Wk.nil 1, .refl _, Wk.ff, .refl _, .refl _, .refl _, Wk.ff, .refl _, trivial⟩, trivial⟩ rfl rfl, rfl, ?_⟩
  rintro x rfl
  iterate 5 refine ⟨fun g => absurd rfl (ne_of' g), fun _ => go 300 ?_⟩
  refine ⟨Int.le_refl 0, _, rfl, ⟨fun g => absurd rfl (ne_of' g), fun _ => go 300 ?_⟩⟩
  refine ⟨fun g => absurd rfl (ne_of' g), fun _ => go 300 ?_⟩
  refine ⟨Int.le_refl 0, _, rfl, ⟨fun g => absurd rfl (ne_of' g), fun _ => go 300 ?_⟩⟩
  refine ⟨Int.le_refl 0, _, rfl, ⟨fun g => absurd rfl (ne_of' g), fun _ => go 300 ?_⟩⟩
  refine ⟨Int.le_refl 0, _, rfl, by decide, _, rfl, ?_⟩
  refine ⟨fun _ => go 300 ?_, fun g => absurd rfl (of_decide_eq_false g)⟩
  refine ⟨by decide, _, rfl, ?_⟩
  refine ⟨fun _ => go 300 ?_, fun g => absurd rfl (of_decide_eq_false g)⟩
  show CallThen _ _ _ _ _ _
  refine call_pure (w_Same workT workT (by decide)) rfl ?_
  rintro x rfl
  refine ⟨fun _ => go 300 ?_, fun g => absurd ((sameT_refl true workT).symm.trans g) (by decide)⟩
  refine ⟨by decide, _, rfl, by decide, _, rfl, ?_⟩
  refine ⟨fun _ => go 300 ?_, fun g => absurd rfl (of_decide_eq_false g)⟩
  refine ⟨⟨rfl, trivial⟩, ⟨rfl, rfl, trivial⟩, ?_⟩
  show CallThen _ _ _ _ _ _
  refine call_pure_frz ?_
  refine ⟨rfl, rfl, rfl, rfl, _, pure_args w_workV1 ⟨.refl _, wk_op ⟨.refl _, .refl _, .refl _, .refl _, .refl _, Wk.ff, .refl _, .refl _, .refl _, Wk.ff, Wk.nil 3, trivial⟩, trivial⟩ rfl rfl, rfl, ?_⟩
  rintro x rfl
  refine ⟨fun _ => go 300 ?_, fun g => absurd g (by decide)⟩
  show CallThen _ _ _ _ _ _
  refine call_pure_frz ?_
  refine ⟨_, pure_args w_workV2 ⟨.refl _, wk_op ⟨.refl _, Wk.nil 1, .refl _, Wk.nil 1, .refl _, Wk.ff, .refl _, .refl _, .refl _, Wk.ff, Wk.nil 3, trivial⟩, trivial⟩ rfl rfl, rfl, ?_⟩
  rintro x rfl
  exact ⟨trivial, rfl, rfl, rfl, leaf_b rfl⟩
end Bow
/- W30: the laws' functions: TreeopsFormed, TreeopsValid. -/
namespace Bow
open Go Go.Proofs

set_option maxRecDepth 100000 in
theorem w_TreeopsFormed (o : OpT) : Pure Try.prog 5 [opV o] (fun x => x = .bool true) := by
  refine pure_wk (pure_fn 300 Try.func5 rfl rfl rfl fun B => ?_)
  refine goes_draw 300 ?_
  refine ⟨_, w_LightX o 500 (by decide), rfl, ?_⟩
  have ok : (!lightB o 500) = false → o.Ok := fun g => light_ok (by simpa using g) (by decide)
  have pl : ∀ h : o.Ok, ∀ p ∈ o.pieces, p.put.length ≤ 1000000000 := fun h p hp => by have := put_le p hp; have := h.puts; omega
  refine ⟨fun g => ⟨_, w_works08, rfl, ?_⟩, fun g => ⟨_, w_Formed o (ok g).lt (pl (ok g)), rfl, _, w_refFormed o (ok g).lt (pl (ok g)), rfl, ⟨fun q => ⟨_, w_works08, rfl, ?_⟩, fun q => ?_⟩⟩⟩
  · exact ⟨by kernel_rfl, trivial, rfl, rfl, rfl, leaf_b rfl⟩
  · exact ⟨by kernel_rfl, trivial, rfl, rfl, rfl, leaf_b rfl⟩
  · exact absurd q (by simp)

set_option maxRecDepth 100000 in
theorem w_TreeopsValid (t : Tree) (o : OpT) : Pure Try.prog 6 [nodeV t, opV o] (fun x => x = .bool true) := by
  refine pure_wk (pure_fn 300 Try.func6 rfl rfl rfl fun B => ?_)
  show CallThen _ _ _ _ _ _
  refine call_pure (w_Weight t 600 (by decide)) rfl ?_
  rintro x ⟨w, rfl, w1, w2, w3⟩
  refine ⟨fun g => go 300 ?_, fun g => go 300 ?_⟩
  · show CallThen _ _ _ _ _ _
    refine call_pure w_works08 rfl ?_
    rintro x rfl
    exact ⟨trivial, rfl, rfl, rfl, leaf_b rfl⟩
  have g : (w : Int) ≤ 600 := not_lt_of g
  have hw : t.weight ≤ 600 := by have := w3 (by omega); omega
  have hw' : t.weight ≤ 1000000 := by omega
  show CallThen _ _ _ _ _ _
  refine call_pure (w_LightX o 500 (by decide)) rfl ?_
  rintro x rfl
  refine ⟨fun g => go 300 ?_, fun g => go 300 ?_⟩
  · show CallThen _ _ _ _ _ _
    refine call_pure w_works08 rfl ?_
    rintro x rfl
    exact ⟨trivial, rfl, rfl, rfl, leaf_b rfl⟩
  have ok : o.Ok := light_ok (by simpa using g) (by decide)
  refine goes_draw 300 ?_
  refine ⟨_, w_Valid t o hw' ok, rfl, _, w_refValid t o hw' ok, rfl, ⟨fun q => ⟨_, w_works08, rfl, ?_⟩, fun q => ?_⟩⟩
  · exact ⟨by kernel_rfl, trivial, rfl, rfl, rfl, leaf_b rfl⟩
  · exact absurd q (by simp)
end Bow
/- W40: the law's function TreeopsApply. -/
namespace Bow
open Go Go.Proofs

theorem applyR_size (t : Tree) : (nodeV t).cells.length = 6 := by cases t; rfl

set_option maxHeartbeats 1000000 in
set_option maxRecDepth 100000 in
theorem w_TreeopsApply (t : Tree) (o : OpT) : Pure Try.prog 7 [nodeV t, opV o] (fun x => x = .bool true) := by
  refine pure_wk (pure_fn 300 Try.func7 rfl rfl rfl fun B => ?_)
  show CallThen _ _ _ _ _ _
  refine call_pure (w_Weight t 600 (by decide)) rfl ?_
  rintro x ⟨w, rfl, w1, w2, w3⟩
  refine ⟨fun g => go 300 ?_, fun g => go 300 ?_⟩
  · show CallThen _ _ _ _ _ _
    refine call_pure w_works08 rfl ?_
    rintro x rfl
    exact ⟨trivial, rfl, rfl, rfl, leaf_b rfl⟩
  have g : (w : Int) ≤ 600 := not_lt_of g
  have hw : t.weight ≤ 600 := by have := w3 (by omega); omega
  have hw' : t.weight ≤ 1000000 := by omega
  show CallThen _ _ _ _ _ _
  refine call_pure (w_LightX o 500 (by decide)) rfl ?_
  rintro x rfl
  refine ⟨fun g => go 300 ?_, fun g => go 300 ?_⟩
  · show CallThen _ _ _ _ _ _
    refine call_pure w_works08 rfl ?_
    rintro x rfl
    exact ⟨trivial, rfl, rfl, rfl, leaf_b rfl⟩
  have ok : o.Ok := light_ok (by simpa using g) (by decide)
  have hlt := (lightB_iff o 500).1 (by simpa using g)
  have hrw : (applyR t o).1.weight ≤ 1000000 := by
    have := applyR_weight t o
    have := hlt.1.label
    have := hlt.1.key
    have := hlt.1.value
    have := hlt.2
    unfold costO at *
    omega
  show CallThen _ _ _ _ _ _
  refine call_pure (w_refIDs t hw') rfl ?_
  rintro x rfl
  show CallThen _ _ _ _ _ _
  refine call_pure (w_refLong t hw') rfl ?_
  rintro x rfl
  show CallThen _ _ _ _ _ _
  refine call_pure (w_Apply t o (by omega) ok) rfl ?_
  rintro x rfl
  show CallThen _ _ _ _ _ _
  refine call_pure (w_refApply t o (by omega) ok) rfl ?_
  rintro x rfl
  show CallThen _ _ _ _ _ _
  refine call_pure (w_refIDs t hw') rfl ?_
  rintro x rfl
  refine ⟨fun g => absurd rfl (ne_of' g), fun _ => go 300 ?_⟩
  show CallThen _ _ _ _ _ _
  refine call_pure (w_refSameT (applyR t o).1 (applyR t o).1 hrw) rfl ?_
  rintro x rfl
  refine ⟨fun g => absurd g (by rw [sameT_refl]; decide), fun _ => go 300 ?_⟩
  refine ⟨fun g => absurd rfl (ne_of' g), fun _ => go 300 ?_⟩
  show CallThen _ _ _ _ _ _
  refine call_pure (w_refLong t hw') rfl ?_
  rintro x rfl
  refine ⟨fun g => absurd rfl (ne_of' g), fun _ => go 300 ?_⟩
  show Goes _ _ _ _
  refine goes_iter (ι := Nat) (fun i => i ≤ (idsT t).length) (fun i => (idsT t).length - i) (fun i => [(12, .int .i64 i), (5, idsV (idsT t)), (11, idsV (idsT t))]) (fun _ => []) 0 300 (fun _ => rfl) (fun _ => rfl) ⟨Nat.zero_le _, ⟨⟨rfl, rfl⟩, ⟨rfl, rfl⟩, ⟨rfl, rfl⟩, trivial⟩, trivial⟩ ?_
  rintro i k1 next
  refine ⟨fun hlt => go 300 ?_, fun hge => go 300 ?_⟩
  · have hi : i < (idsT t).length := by simpa using hlt
    have hx : ((idsT t).map idV)[i]? = some (idV (idsT t)[i]) := by simp [hi]
    have hsz := size_le_weight t
    have hil := idsT_len t
    show Goes _ _ _ _
    refine goes_draw 300 ⟨Int.natCast_nonneg i, _, hx, Int.natCast_nonneg i, _, hx, ?_⟩
    refine ⟨by kernel_rfl, ?_⟩
    refine ⟨fun g => absurd rfl (ne_of' g), fun _ => go 300 ?_⟩
    refine ⟨by constructor <;> omega, ?_⟩
    exact next (i + 1) _ _ ⟨hi, by omega, ⟨⟨rfl, rfl⟩, ⟨rfl, rfl⟩, ⟨rfl, rfl⟩, trivial⟩, trivial⟩
  · show CallThen _ _ _ _ _ _
    refine call_pure w_works08 rfl ?_
    rintro x rfl
    exact ⟨trivial, rfl, rfl, rfl, leaf_b rfl⟩
end Bow
/- W41: the program's IDs; count. -/
namespace Bow
open Go Go.Proofs

mutual
theorem pre_ids : ∀ (t : Tree) (d : Int), (t.pre d).map (fun p => p.2.id) = idsT t
  | .mk i l a b c ss, d => by rw [Tree.pre, List.map_cons, pres_ids ss (d + 1), idsT]; rfl
theorem pres_ids : ∀ (ss : List Tree) (d : Int), (pres d ss).map (fun p => p.2.id) = idsTs ss
  | [], d => by rw [pres, idsTs]; rfl
  | s :: ss, d => by rw [pres, List.map_append, pre_ids s d, pres_ids ss d, idsTs]
end
def idSt (s : Nat × List V) : Heap → Heap := fun pre => pre ++ [some (.box [.osl (.loc 2) s.1 0 s.2.length]), some (.vec s.1 1 s.2)]
theorem foldl_ids : ∀ (l : List (Int × Tree)) (s : Nat × List V), (l.foldl (fun s p => (bump s.1, s.2 ++ [idV p.2.id])) s).2 = s.2 ++ l.map (fun p => idV p.2.id)
  | [], s => by simp
  | a :: l, s => by rw [List.foldl_cons, foldl_ids l]; simp

set_option maxRecDepth 100000 in
theorem w_IDs (t : Tree) (h : t.weight ≤ 1000000) : Pure Try.prog 33 [nodeV t] (fun x => x = idsV (idsT t)) := by
  have hsz := size_le_weight t
  refine pure_fn 100 Try.func33 rfl rfl rfl fun B => ?_
  show CallThen _ _ _ _ _ _
  refine call_pure (w_nodes t) rfl ?_
  rintro x rfl
  show Goes _ _ _ _
  refine goes_ownBox 1 1 rfl ?_
  refine goes_range_all (σ := Nat × List V) 100 3 (fun s => [some (.box (nodeV t).cells), some (.box [.osl (.loc 2) s.1 0 s.2.length]), some (.vec s.1 1 s.2)]) (fun s p => (bump s.1, s.2 ++ [idV p.2.id])) preV (fun s l => s.2.length + l.length ≤ 1000000) (0, []) (t.pre 0) rfl rfl rfl (w_iter t (by omega)) rfl (fun _ => rfl) (fun _ => rfl) (fun _ => rfl) rfl (fun _ => rfl) (fun _ _ h => by cases h) ?_ ?_ ?_
  · have := pre_length t 0
    simp
    omega
  · intro s a l hI
    simp only [List.length_cons] at hI
    refine ⟨by simp; omega, fun imps B r l h1 h2 => ?_⟩
    show Goes _ _ _ _
    refine goes_beginRound 100 rfl h2 rfl ?_
    refine ⟨⟨rfl, trivial⟩, rfl, rfl, rfl, rfl, room_of (by simp; omega) (by decide), ?_⟩
    refine ⟨rfl, rfl, trivial, ?_⟩
    exact ⟨⟨rfl, rfl⟩, ⟨by simp [idV], rfl⟩, ⟨rfl, rfl⟩, ⟨rfl, rfl⟩, ⟨rfl, rfl⟩, trivial⟩
  · intro s hs
    refine ⟨trivial, rfl, rfl, rfl, rfl, rfl, ?_⟩
    have e : s.2 = (idsT t).map idV := by
      rw [hs, foldl_ids, ← pre_ids t 0, List.map_map]
      rfl
    show V.sl 1 s.2 = _
    rw [e]
    rfl

set_option maxRecDepth 100000 in
theorem w_count (l : List Int) (id : Int) (hl : l.length ≤ 1000000000) : Pure Try.prog 35 [idsV l, .int .u64 id] (fun x => x = .int .i64 (l.count id)) := by
  refine pure_fn 300 Try.func35 rfl rfl rfl fun B => ?_
  show Goes _ _ _ _
  refine goes_iter (ι := Nat × Nat) (fun i => i.1 ≤ l.length ∧ i.2 ≤ i.1 ∧ i.2 + (l.drop i.1).count id = l.count id) (fun i => l.length - i.1) (fun i => [(6, .int .i64 i.1), (5, .int .i64 i.2), (0, idsV l), (1, .int .u64 id)]) (fun _ => []) (0, 0) 300 (fun _ => rfl) (fun _ => rfl) ⟨⟨Nat.zero_le _, Nat.le_refl _, by simp⟩, ⟨⟨rfl, rfl⟩, ⟨rfl, rfl⟩, ⟨rfl, rfl⟩, ⟨rfl, rfl⟩, trivial⟩, trivial⟩ ?_
  rintro ⟨i, n⟩ ⟨k1, k2, k3⟩ next
  simp only at k1 k2 k3
  refine ⟨fun hlt => go 300 ?_, fun hge => go 300 ?_⟩
  · have hi : i < l.length := by simpa using hlt
    have hx : (l.map idV)[i]? = some (idV l[i]) := by simp [hi]
    rw [List.drop_eq_getElem_cons hi, List.count_cons] at k3
    refine ⟨Int.natCast_nonneg i, _, hx, ?_⟩
    refine ⟨fun g => go 300 ?_, fun g => go 300 ?_⟩
    · have g := eq_of g
      rw [g] at k3
      simp only [beq_self_eq_true, if_true] at k3
      refine ⟨by constructor <;> omega, by constructor <;> omega, ?_⟩
      show Goes _ _ _ _
      exact next (i + 1, n + 1) _ _ ⟨⟨hi, by simp only; omega, by simp only; omega⟩, by simp only; omega, ⟨⟨rfl, rfl⟩, ⟨rfl, rfl⟩, ⟨rfl, rfl⟩, ⟨rfl, rfl⟩, trivial⟩, trivial⟩
    · have g := ne_of g
      have g' : (l[i] == id) = false := by simpa using g
      rw [g'] at k3
      simp only [Bool.false_eq_true, if_false, Nat.add_zero] at k3
      refine ⟨by constructor <;> omega, ?_⟩
      show Goes _ _ _ _
      exact next (i + 1, n) _ _ ⟨⟨hi, by simp only; omega, k3⟩, by simp only; omega, ⟨⟨rfl, rfl⟩, ⟨rfl, rfl⟩, ⟨rfl, rfl⟩, ⟨rfl, rfl⟩, trivial⟩, trivial⟩
  · have hi : l.length ≤ i := by simpa using hge
    rw [List.drop_eq_nil_of_le hi] at k3
    have k3 : n + 0 = l.count id := k3
    exact ⟨trivial, rfl, rfl, rfl, by rw [← k3]; rfl⟩
end Bow
/- W42: the law's function TreeopsRight. -/
namespace Bow
open Go Go.Proofs

theorem cnt_one {t : Tree} {o : OpT} (h : ValidE t o = 0) (hk : o.kind = 1) : ((idsT (applyT t o)).count o.id : Int) = ((idsT t).count o.id : Int) + 1 - ((goneT t o).count o.id : Int) := by
  have := (adds_count o.id).apply h
  have e : moreT o = [o.id] := by unfold moreT; rw [hk]; rfl
  rw [e] at this
  simp at this
  omega
theorem cnt_zero {t : Tree} {o : OpT} {id : Int} (h : ValidE t o = 0) (hk : ¬ (o.kind = 1 ∧ id = o.id)) : ((idsT (applyT t o)).count id : Int) = ((idsT t).count id : Int) + 0 - ((goneT t o).count id : Int) := by
  have := (adds_count id).apply h
  have e : (moreT o).count id = 0 := by
    unfold moreT
    by_cases h1 : o.kind = 1
    · have h2 : o.id ≠ id := fun e => hk ⟨h1, e.symm⟩
      rw [decide_eq_true h1]
      simp [h2]
    · rw [decide_eq_false h1]
      rfl
  rw [e] at this
  omega
theorem len_law {t : Tree} {o : OpT} (h : ValidE t o = 0) : ((idsT (applyT t o)).length : Int) = ((idsT t).length : Int) - ((goneT t o).length : Int) + (bif decide (o.kind = 1) then 1 else 0) := by
  have h1 : (idsT (applyT t o)).length + (goneT t o).length = (idsT t).length + (moreT o).length := adds_len.apply h
  unfold moreT at h1
  generalize decide (o.kind = 1) = b at h1 ⊢
  cases b with
  | false =>
    have h2 : (idsT (applyT t o)).length + (goneT t o).length = (idsT t).length + 0 := h1
    show ((idsT (applyT t o)).length : Int) = ((idsT t).length : Int) - ((goneT t o).length : Int) + 0
    omega
  | true =>
    have h2 : (idsT (applyT t o)).length + (goneT t o).length = (idsT t).length + 1 := h1
    show ((idsT (applyT t o)).length : Int) = ((idsT t).length : Int) - ((goneT t o).length : Int) + 1
    omega

set_option maxHeartbeats 4000000 in
set_option maxRecDepth 100000 in
theorem w_TreeopsRight (t : Tree) (o : OpT) : Pure Try.prog 8 [nodeV t, opV o] (fun x => x = .bool true) := by
  refine pure_wk (pure_fn 300 Try.func8 rfl rfl rfl fun B => ?_)
  show CallThen _ _ _ _ _ _
  refine call_pure (w_Weight t 600 (by decide)) rfl ?_
  rintro x ⟨w, rfl, w1, w2, w3⟩
  refine ⟨fun g => go 300 ?_, fun g => go 300 ?_⟩
  · show CallThen _ _ _ _ _ _
    refine call_pure w_works08 rfl ?_
    rintro x rfl
    exact ⟨trivial, rfl, rfl, rfl, leaf_b rfl⟩
  have g : (w : Int) ≤ 600 := not_lt_of g
  have hw : t.weight ≤ 600 := by have := w3 (by omega); omega
  have hw' : t.weight ≤ 1000000 := by omega
  show CallThen _ _ _ _ _ _
  refine call_pure (w_LightX o 500 (by decide)) rfl ?_
  rintro x rfl
  refine ⟨fun g => go 300 ?_, fun g => go 300 ?_⟩
  · show CallThen _ _ _ _ _ _
    refine call_pure w_works08 rfl ?_
    rintro x rfl
    exact ⟨trivial, rfl, rfl, rfl, leaf_b rfl⟩
  have ok : o.Ok := light_ok (by simpa using g) (by decide)
  have hlt := (lightB_iff o 500).1 (by simpa using g)
  have hrw := applyR_weight t o
  have hc1 := hlt.1.label
  have hc2 := hlt.1.key
  have hc3 := hlt.1.value
  have hc4 := hlt.2
  unfold costO at hrw
  show CallThen _ _ _ _ _ _
  refine call_pure (w_Apply t o (by omega) ok) rfl ?_
  rintro x rfl
  by_cases hv : ValidE t o = 0
  case neg =>
    have e : applyR t o = (zeroT [], ValidE t o) := by unfold applyR; rw [decide_eq_false hv]; rfl
    rw [e]
    refine ⟨fun _ => go 300 ?_, fun g => absurd (eq_of' g) hv⟩
    show CallThen _ _ _ _ _ _
    refine call_pure (pure_args (args := [nodeV (zeroT []), zeroV .nilsl]) (w_Same (zeroT []) (zeroT []) (by decide)) ⟨.refl _, wk_zero (ss := []) (Wk.nil 6), trivial⟩ rfl rfl) rfl ?_
    rintro x rfl
    refine ⟨fun _ => go 300 ?_, fun g => absurd ((sameT_refl true (zeroT [])).symm.trans g) (by decide)⟩
    show CallThen _ _ _ _ _ _
    refine call_pure w_works08 rfl ?_
    rintro x rfl
    exact ⟨trivial, rfl, rfl, rfl, leaf_b rfl⟩
  have e : applyR t o = (applyT t o, 0) := by unfold applyR; rw [decide_eq_true hv]; rfl
  rw [e] at hrw ⊢
  simp only at hrw
  have hsz1 := size_le_weight t
  have hsz2 := size_le_weight (applyT t o)
  have hln1 := idsT_len t
  have hln2 := idsT_len (applyT t o)
  have hll := len_law hv
  have hright := right_applyT hv
  refine ⟨fun g => absurd rfl (ne_of' g), fun _ => go 300 ?_⟩
  show Goes _ _ _ _
  refine goes_draw 300 ⟨_, w_IDs t hw', rfl, _, w_IDs (applyT t o) (by omega), rfl, ?_⟩
  refine ⟨by kernel_rfl, ?_⟩
  have hgl : (goneT t o).length ≤ t.size := by
    unfold goneT
    cases decide (o.kind = 2) with
    | false => exact Nat.zero_le _
    | true =>
      cases hx : atT t o.path with
      | none => exact Nat.zero_le _
      | some x =>
        have := atT_size hx
        have := idsT_len x
        show (idsT x).length ≤ _
        omega
  refine ⟨fun q => go 300 ?_, fun q => ?_⟩
  · have hk2 : o.kind = 2 := eq_of q
    obtain ⟨x, hx⟩ : ∃ x, atT t o.path = some x := by
      cases good_of hv with
      | del x hk hne hx => exact ⟨x, hx⟩
      | ins y hk | mov x z hk | att y hk | lab y hk | edt y hk => exact absurd (hk.symm.trans hk2) (by decide)
    have hxw := atT_weight hx
    show CallThen _ _ _ _ _ _
    refine call_pure (w_At t o.path ok.lt.path) rfl ?_
    rintro _ rfl
    rw [hx]
    show CallThen _ _ _ _ _ _
    refine call_pure (w_IDs x (by omega)) rfl ?_
    rintro z rfl
    have hgone : idsT x = goneT t o := by unfold goneT; rw [hk2, hx]; rfl
    rw [hgone]
    show Goes _ _ _ _
    refine goes_iter (ι := Nat) (fun i => i ≤ (idsT t).length + 1) (fun i => (idsT t).length + 1 - i) (fun i => [(12, .int .i64 i), (7, idsV (idsT t)), (8, idsV (idsT (applyT t o))), (9, idsV (goneT t o)), (3, .ptr (.loc 1) 0), (5, .ptr (.loc 2) 0)]) (fun _ => [some (.box (nodeV t).cells), some (.box (opV o).cells), some (.box (nodeV (applyT t o)).cells)]) 0 300 (fun _ => rfl) (fun _ => rfl) ⟨Nat.zero_le _, ⟨⟨rfl, rfl⟩, ⟨rfl, rfl⟩, ⟨rfl, rfl⟩, ⟨rfl, rfl⟩, ⟨rfl, rfl⟩, ⟨rfl, rfl⟩, trivial⟩, ⟨⟨rfl, rfl⟩, ⟨rfl, rfl⟩, ⟨rfl, rfl⟩, trivial⟩⟩ ?_
    rintro i k1 next
    refine ⟨by constructor <;> simp <;> omega, ?_⟩
    refine ⟨fun hlt => go 300 ?_, fun hge => go 300 ?_⟩
    · have hi : i < (idsT t).length + 1 := by have := lt_of hlt; simp at this; omega
      refine ⟨fun hl => go 300 ?_, fun hl => go 300 ?_⟩
      · have hj : i < (idsT t).length := by have := lt_of hl; simp at this; omega
        have hx : ((idsT t).map idV)[i]? = some (idV (idsT t)[i]) := by simp [hj]
        refine ⟨Int.natCast_nonneg i, _, hx, ?_⟩
        refine ⟨fun q1 => go 300 ?_, fun q1 => go 300 ?_⟩
        · have hk1 : o.kind = 1 := eq_of q1
          refine ⟨fun q2 => go 300 ?_, fun q2 => go 300 ?_⟩
          · have hid : (idsT t)[i] = o.id := eq_of q2
            show CallThen _ _ _ _ _ _
            refine call_pure (w_count (idsT (applyT t o)) (idsT t)[i] (by omega)) rfl ?_
            rintro x rfl
            show CallThen _ _ _ _ _ _
            refine call_pure (w_count (idsT t) (idsT t)[i] (by omega)) rfl ?_
            rintro x rfl
            have b1 := List.count_le_length (a := (idsT t)[i]) (l := idsT t)
            have b2 := List.count_le_length (a := (idsT t)[i]) (l := goneT t o)
            refine ⟨by constructor <;> omega, ?_⟩
            show CallThen _ _ _ _ _ _
            refine call_pure (w_count (goneT t o) (idsT t)[i] (by omega)) rfl ?_
            rintro x rfl
            refine ⟨by constructor <;> omega, ?_⟩
            refine ⟨fun g => absurd (by rw [hid]; exact cnt_one hv hk1) (ne_of' g), fun _ => go 300 ?_⟩
            refine ⟨by constructor <;> omega, ?_⟩
            show Goes _ _ _ _
            exact next (i + 1) _ _ ⟨by omega, by omega, ⟨⟨rfl, rfl⟩, ⟨rfl, rfl⟩, ⟨rfl, rfl⟩, ⟨rfl, rfl⟩, ⟨rfl, rfl⟩, ⟨rfl, rfl⟩, trivial⟩, ⟨⟨rfl, rfl⟩, ⟨rfl, rfl⟩, ⟨rfl, rfl⟩, trivial⟩⟩
          · have hid : (idsT t)[i] ≠ o.id := ne_of q2
            show CallThen _ _ _ _ _ _
            refine call_pure (w_count (idsT (applyT t o)) (idsT t)[i] (by omega)) rfl ?_
            rintro x rfl
            show CallThen _ _ _ _ _ _
            refine call_pure (w_count (idsT t) (idsT t)[i] (by omega)) rfl ?_
            rintro x rfl
            have b1 := List.count_le_length (a := (idsT t)[i]) (l := idsT t)
            have b2 := List.count_le_length (a := (idsT t)[i]) (l := goneT t o)
            refine ⟨by constructor <;> omega, ?_⟩
            show CallThen _ _ _ _ _ _
            refine call_pure (w_count (goneT t o) (idsT t)[i] (by omega)) rfl ?_
            rintro x rfl
            refine ⟨by constructor <;> omega, ?_⟩
            refine ⟨fun g => absurd (cnt_zero hv fun h => hid h.2) (ne_of' g), fun _ => go 300 ?_⟩
            refine ⟨by constructor <;> omega, ?_⟩
            show Goes _ _ _ _
            exact next (i + 1) _ _ ⟨by omega, by omega, ⟨⟨rfl, rfl⟩, ⟨rfl, rfl⟩, ⟨rfl, rfl⟩, ⟨rfl, rfl⟩, ⟨rfl, rfl⟩, ⟨rfl, rfl⟩, trivial⟩, ⟨⟨rfl, rfl⟩, ⟨rfl, rfl⟩, ⟨rfl, rfl⟩, trivial⟩⟩
        · have hk1 : o.kind ≠ 1 := ne_of q1
          show CallThen _ _ _ _ _ _
          refine call_pure (w_count (idsT (applyT t o)) (idsT t)[i] (by omega)) rfl ?_
          rintro x rfl
          show CallThen _ _ _ _ _ _
          refine call_pure (w_count (idsT t) (idsT t)[i] (by omega)) rfl ?_
          rintro x rfl
          have b1 := List.count_le_length (a := (idsT t)[i]) (l := idsT t)
          have b2 := List.count_le_length (a := (idsT t)[i]) (l := goneT t o)
          refine ⟨by constructor <;> omega, ?_⟩
          show CallThen _ _ _ _ _ _
          refine call_pure (w_count (goneT t o) (idsT t)[i] (by omega)) rfl ?_
          rintro x rfl
          refine ⟨by constructor <;> omega, ?_⟩
          refine ⟨fun g => absurd (cnt_zero hv fun h => hk1 h.1) (ne_of' g), fun _ => go 300 ?_⟩
          refine ⟨by constructor <;> omega, ?_⟩
          show Goes _ _ _ _
          exact next (i + 1) _ _ ⟨by omega, by omega, ⟨⟨rfl, rfl⟩, ⟨rfl, rfl⟩, ⟨rfl, rfl⟩, ⟨rfl, rfl⟩, ⟨rfl, rfl⟩, ⟨rfl, rfl⟩, trivial⟩, ⟨⟨rfl, rfl⟩, ⟨rfl, rfl⟩, ⟨rfl, rfl⟩, trivial⟩⟩
      · skip
        refine ⟨fun q1 => go 300 ?_, fun q1 => go 300 ?_⟩
        · have hk1 : o.kind = 1 := eq_of q1
          refine ⟨fun q2 => go 300 ?_, fun q2 => go 300 ?_⟩
          · skip
            show CallThen _ _ _ _ _ _
            refine call_pure (w_count (idsT (applyT t o)) o.id (by omega)) rfl ?_
            rintro x rfl
            show CallThen _ _ _ _ _ _
            refine call_pure (w_count (idsT t) o.id (by omega)) rfl ?_
            rintro x rfl
            have b1 := List.count_le_length (a := o.id) (l := idsT t)
            have b2 := List.count_le_length (a := o.id) (l := goneT t o)
            refine ⟨by constructor <;> omega, ?_⟩
            show CallThen _ _ _ _ _ _
            refine call_pure (w_count (goneT t o) o.id (by omega)) rfl ?_
            rintro x rfl
            refine ⟨by constructor <;> omega, ?_⟩
            refine ⟨fun g => absurd (cnt_one hv hk1) (ne_of' g), fun _ => go 300 ?_⟩
            refine ⟨by constructor <;> omega, ?_⟩
            show Goes _ _ _ _
            exact next (i + 1) _ _ ⟨by omega, by omega, ⟨⟨rfl, rfl⟩, ⟨rfl, rfl⟩, ⟨rfl, rfl⟩, ⟨rfl, rfl⟩, ⟨rfl, rfl⟩, ⟨rfl, rfl⟩, trivial⟩, ⟨⟨rfl, rfl⟩, ⟨rfl, rfl⟩, ⟨rfl, rfl⟩, trivial⟩⟩
          · exact absurd rfl (ne_of q2)
        · have hk1 : o.kind ≠ 1 := ne_of q1
          show CallThen _ _ _ _ _ _
          refine call_pure (w_count (idsT (applyT t o)) o.id (by omega)) rfl ?_
          rintro x rfl
          show CallThen _ _ _ _ _ _
          refine call_pure (w_count (idsT t) o.id (by omega)) rfl ?_
          rintro x rfl
          have b1 := List.count_le_length (a := o.id) (l := idsT t)
          have b2 := List.count_le_length (a := o.id) (l := goneT t o)
          refine ⟨by constructor <;> omega, ?_⟩
          show CallThen _ _ _ _ _ _
          refine call_pure (w_count (goneT t o) o.id (by omega)) rfl ?_
          rintro x rfl
          refine ⟨by constructor <;> omega, ?_⟩
          refine ⟨fun g => absurd (cnt_zero hv fun h => hk1 h.1) (ne_of' g), fun _ => go 300 ?_⟩
          refine ⟨by constructor <;> omega, ?_⟩
          show Goes _ _ _ _
          exact next (i + 1) _ _ ⟨by omega, by omega, ⟨⟨rfl, rfl⟩, ⟨rfl, rfl⟩, ⟨rfl, rfl⟩, ⟨rfl, rfl⟩, ⟨rfl, rfl⟩, ⟨rfl, rfl⟩, trivial⟩, ⟨⟨rfl, rfl⟩, ⟨rfl, rfl⟩, ⟨rfl, rfl⟩, trivial⟩⟩
    · have hi : i = (idsT t).length + 1 := by have := not_lt_of hge; simp at this; omega
      refine ⟨by constructor <;> simp <;> omega, ?_⟩
      refine ⟨fun q1 => go 300 ?_, fun q1 => go 300 ?_⟩
      · have hk1 : decide (o.kind = 1) = true := decide_eq_true (eq_of q1)
        rw [hk1] at hll
        simp only [cond_true, cond_false] at hll
        refine ⟨by constructor <;> simp <;> omega, ?_⟩
        show CallThen _ _ _ _ _ _
        refine call_pure (w_RightT (applyT t o) (by omega)) rfl ?_
        rintro x rfl
        refine ⟨fun _ => go 300 ?_, fun g => absurd (hright.symm.trans g) (by decide)⟩
        refine ⟨fun _ => go 300 ?_, fun g => absurd (by simp; omega) (ne_of g)⟩
        show CallThen _ _ _ _ _ _
        refine call_pure w_works08 rfl ?_
        rintro x rfl
        exact ⟨trivial, rfl, rfl, rfl, leaf_b rfl⟩
      · have hk1 : decide (o.kind = 1) = false := decide_eq_false (ne_of q1)
        rw [hk1] at hll
        simp only [cond_true, cond_false] at hll
        show CallThen _ _ _ _ _ _
        refine call_pure (w_RightT (applyT t o) (by omega)) rfl ?_
        rintro x rfl
        refine ⟨fun _ => go 300 ?_, fun g => absurd (hright.symm.trans g) (by decide)⟩
        refine ⟨fun _ => go 300 ?_, fun g => absurd (by simp; omega) (ne_of g)⟩
        show CallThen _ _ _ _ _ _
        refine call_pure w_works08 rfl ?_
        rintro x rfl
        exact ⟨trivial, rfl, rfl, rfl, leaf_b rfl⟩
  · have hk2 : o.kind ≠ 2 := ne_of q
    have hgone : goneT t o = [] := by unfold goneT; rw [decide_eq_false hk2]; rfl
    refine go 1 ?_
    show Goes _ _ _ _
    refine goes_wkSlot 9 (v := .nilsl) (v' := idsV (goneT t o)) rfl rfl rfl (by rw [hgone]; exact Wk.nil 1) ?_
    refine go 300 ?_
    show Goes _ _ _ _
    refine goes_iter (ι := Nat) (fun i => i ≤ (idsT t).length + 1) (fun i => (idsT t).length + 1 - i) (fun i => [(12, .int .i64 i), (7, idsV (idsT t)), (8, idsV (idsT (applyT t o))), (9, idsV (goneT t o)), (3, .ptr (.loc 1) 0), (5, .ptr (.loc 2) 0)]) (fun _ => [some (.box (nodeV t).cells), some (.box (opV o).cells), some (.box (nodeV (applyT t o)).cells)]) 0 300 (fun _ => rfl) (fun _ => rfl) ⟨Nat.zero_le _, ⟨⟨rfl, rfl⟩, ⟨rfl, rfl⟩, ⟨rfl, rfl⟩, ⟨rfl, rfl⟩, ⟨rfl, rfl⟩, ⟨rfl, rfl⟩, trivial⟩, ⟨⟨rfl, rfl⟩, ⟨rfl, rfl⟩, ⟨rfl, rfl⟩, trivial⟩⟩ ?_
    rintro i k1 next
    refine ⟨by constructor <;> simp <;> omega, ?_⟩
    refine ⟨fun hlt => go 300 ?_, fun hge => go 300 ?_⟩
    · have hi : i < (idsT t).length + 1 := by have := lt_of hlt; simp at this; omega
      refine ⟨fun hl => go 300 ?_, fun hl => go 300 ?_⟩
      · have hj : i < (idsT t).length := by have := lt_of hl; simp at this; omega
        have hx : ((idsT t).map idV)[i]? = some (idV (idsT t)[i]) := by simp [hj]
        refine ⟨Int.natCast_nonneg i, _, hx, ?_⟩
        refine ⟨fun q1 => go 300 ?_, fun q1 => go 300 ?_⟩
        · have hk1 : o.kind = 1 := eq_of q1
          refine ⟨fun q2 => go 300 ?_, fun q2 => go 300 ?_⟩
          · have hid : (idsT t)[i] = o.id := eq_of q2
            show CallThen _ _ _ _ _ _
            refine call_pure (w_count (idsT (applyT t o)) (idsT t)[i] (by omega)) rfl ?_
            rintro x rfl
            show CallThen _ _ _ _ _ _
            refine call_pure (w_count (idsT t) (idsT t)[i] (by omega)) rfl ?_
            rintro x rfl
            have b1 := List.count_le_length (a := (idsT t)[i]) (l := idsT t)
            have b2 := List.count_le_length (a := (idsT t)[i]) (l := goneT t o)
            refine ⟨by constructor <;> omega, ?_⟩
            show CallThen _ _ _ _ _ _
            refine call_pure (w_count (goneT t o) (idsT t)[i] (by omega)) rfl ?_
            rintro x rfl
            refine ⟨by constructor <;> omega, ?_⟩
            refine ⟨fun g => absurd (by rw [hid]; exact cnt_one hv hk1) (ne_of' g), fun _ => go 300 ?_⟩
            refine ⟨by constructor <;> omega, ?_⟩
            show Goes _ _ _ _
            exact next (i + 1) _ _ ⟨by omega, by omega, ⟨⟨rfl, rfl⟩, ⟨rfl, rfl⟩, ⟨rfl, rfl⟩, ⟨rfl, rfl⟩, ⟨rfl, rfl⟩, ⟨rfl, rfl⟩, trivial⟩, ⟨⟨rfl, rfl⟩, ⟨rfl, rfl⟩, ⟨rfl, rfl⟩, trivial⟩⟩
          · have hid : (idsT t)[i] ≠ o.id := ne_of q2
            show CallThen _ _ _ _ _ _
            refine call_pure (w_count (idsT (applyT t o)) (idsT t)[i] (by omega)) rfl ?_
            rintro x rfl
            show CallThen _ _ _ _ _ _
            refine call_pure (w_count (idsT t) (idsT t)[i] (by omega)) rfl ?_
            rintro x rfl
            have b1 := List.count_le_length (a := (idsT t)[i]) (l := idsT t)
            have b2 := List.count_le_length (a := (idsT t)[i]) (l := goneT t o)
            refine ⟨by constructor <;> omega, ?_⟩
            show CallThen _ _ _ _ _ _
            refine call_pure (w_count (goneT t o) (idsT t)[i] (by omega)) rfl ?_
            rintro x rfl
            refine ⟨by constructor <;> omega, ?_⟩
            refine ⟨fun g => absurd (cnt_zero hv fun h => hid h.2) (ne_of' g), fun _ => go 300 ?_⟩
            refine ⟨by constructor <;> omega, ?_⟩
            show Goes _ _ _ _
            exact next (i + 1) _ _ ⟨by omega, by omega, ⟨⟨rfl, rfl⟩, ⟨rfl, rfl⟩, ⟨rfl, rfl⟩, ⟨rfl, rfl⟩, ⟨rfl, rfl⟩, ⟨rfl, rfl⟩, trivial⟩, ⟨⟨rfl, rfl⟩, ⟨rfl, rfl⟩, ⟨rfl, rfl⟩, trivial⟩⟩
        · have hk1 : o.kind ≠ 1 := ne_of q1
          show CallThen _ _ _ _ _ _
          refine call_pure (w_count (idsT (applyT t o)) (idsT t)[i] (by omega)) rfl ?_
          rintro x rfl
          show CallThen _ _ _ _ _ _
          refine call_pure (w_count (idsT t) (idsT t)[i] (by omega)) rfl ?_
          rintro x rfl
          have b1 := List.count_le_length (a := (idsT t)[i]) (l := idsT t)
          have b2 := List.count_le_length (a := (idsT t)[i]) (l := goneT t o)
          refine ⟨by constructor <;> omega, ?_⟩
          show CallThen _ _ _ _ _ _
          refine call_pure (w_count (goneT t o) (idsT t)[i] (by omega)) rfl ?_
          rintro x rfl
          refine ⟨by constructor <;> omega, ?_⟩
          refine ⟨fun g => absurd (cnt_zero hv fun h => hk1 h.1) (ne_of' g), fun _ => go 300 ?_⟩
          refine ⟨by constructor <;> omega, ?_⟩
          show Goes _ _ _ _
          exact next (i + 1) _ _ ⟨by omega, by omega, ⟨⟨rfl, rfl⟩, ⟨rfl, rfl⟩, ⟨rfl, rfl⟩, ⟨rfl, rfl⟩, ⟨rfl, rfl⟩, ⟨rfl, rfl⟩, trivial⟩, ⟨⟨rfl, rfl⟩, ⟨rfl, rfl⟩, ⟨rfl, rfl⟩, trivial⟩⟩
      · skip
        refine ⟨fun q1 => go 300 ?_, fun q1 => go 300 ?_⟩
        · have hk1 : o.kind = 1 := eq_of q1
          refine ⟨fun q2 => go 300 ?_, fun q2 => go 300 ?_⟩
          · skip
            show CallThen _ _ _ _ _ _
            refine call_pure (w_count (idsT (applyT t o)) o.id (by omega)) rfl ?_
            rintro x rfl
            show CallThen _ _ _ _ _ _
            refine call_pure (w_count (idsT t) o.id (by omega)) rfl ?_
            rintro x rfl
            have b1 := List.count_le_length (a := o.id) (l := idsT t)
            have b2 := List.count_le_length (a := o.id) (l := goneT t o)
            refine ⟨by constructor <;> omega, ?_⟩
            show CallThen _ _ _ _ _ _
            refine call_pure (w_count (goneT t o) o.id (by omega)) rfl ?_
            rintro x rfl
            refine ⟨by constructor <;> omega, ?_⟩
            refine ⟨fun g => absurd (cnt_one hv hk1) (ne_of' g), fun _ => go 300 ?_⟩
            refine ⟨by constructor <;> omega, ?_⟩
            show Goes _ _ _ _
            exact next (i + 1) _ _ ⟨by omega, by omega, ⟨⟨rfl, rfl⟩, ⟨rfl, rfl⟩, ⟨rfl, rfl⟩, ⟨rfl, rfl⟩, ⟨rfl, rfl⟩, ⟨rfl, rfl⟩, trivial⟩, ⟨⟨rfl, rfl⟩, ⟨rfl, rfl⟩, ⟨rfl, rfl⟩, trivial⟩⟩
          · exact absurd rfl (ne_of q2)
        · have hk1 : o.kind ≠ 1 := ne_of q1
          show CallThen _ _ _ _ _ _
          refine call_pure (w_count (idsT (applyT t o)) o.id (by omega)) rfl ?_
          rintro x rfl
          show CallThen _ _ _ _ _ _
          refine call_pure (w_count (idsT t) o.id (by omega)) rfl ?_
          rintro x rfl
          have b1 := List.count_le_length (a := o.id) (l := idsT t)
          have b2 := List.count_le_length (a := o.id) (l := goneT t o)
          refine ⟨by constructor <;> omega, ?_⟩
          show CallThen _ _ _ _ _ _
          refine call_pure (w_count (goneT t o) o.id (by omega)) rfl ?_
          rintro x rfl
          refine ⟨by constructor <;> omega, ?_⟩
          refine ⟨fun g => absurd (cnt_zero hv fun h => hk1 h.1) (ne_of' g), fun _ => go 300 ?_⟩
          refine ⟨by constructor <;> omega, ?_⟩
          show Goes _ _ _ _
          exact next (i + 1) _ _ ⟨by omega, by omega, ⟨⟨rfl, rfl⟩, ⟨rfl, rfl⟩, ⟨rfl, rfl⟩, ⟨rfl, rfl⟩, ⟨rfl, rfl⟩, ⟨rfl, rfl⟩, trivial⟩, ⟨⟨rfl, rfl⟩, ⟨rfl, rfl⟩, ⟨rfl, rfl⟩, trivial⟩⟩
    · have hi : i = (idsT t).length + 1 := by have := not_lt_of hge; simp at this; omega
      refine ⟨by constructor <;> simp <;> omega, ?_⟩
      refine ⟨fun q1 => go 300 ?_, fun q1 => go 300 ?_⟩
      · have hk1 : decide (o.kind = 1) = true := decide_eq_true (eq_of q1)
        rw [hk1] at hll
        simp only [cond_true, cond_false] at hll
        refine ⟨by constructor <;> simp <;> omega, ?_⟩
        show CallThen _ _ _ _ _ _
        refine call_pure (w_RightT (applyT t o) (by omega)) rfl ?_
        rintro x rfl
        refine ⟨fun _ => go 300 ?_, fun g => absurd (hright.symm.trans g) (by decide)⟩
        refine ⟨fun _ => go 300 ?_, fun g => absurd (by simp; omega) (ne_of g)⟩
        show CallThen _ _ _ _ _ _
        refine call_pure w_works08 rfl ?_
        rintro x rfl
        exact ⟨trivial, rfl, rfl, rfl, leaf_b rfl⟩
      · have hk1 : decide (o.kind = 1) = false := decide_eq_false (ne_of q1)
        rw [hk1] at hll
        simp only [cond_true, cond_false] at hll
        show CallThen _ _ _ _ _ _
        refine call_pure (w_RightT (applyT t o) (by omega)) rfl ?_
        rintro x rfl
        refine ⟨fun _ => go 300 ?_, fun g => absurd (hright.symm.trans g) (by decide)⟩
        refine ⟨fun _ => go 300 ?_, fun g => absurd (by simp; omega) (ne_of g)⟩
        show CallThen _ _ _ _ _ _
        refine call_pure w_works08 rfl ?_
        rintro x rfl
        exact ⟨trivial, rfl, rfl, rfl, leaf_b rfl⟩
end Bow
/- SP17: a list of operations, in plain Lean. -/
namespace Bow
open Go

def zeroT0 : Tree := .mk 0 false [] [] [] []
def allR : Tree → List OpT → Nat → Tree × Nat × Int
  | t, [], i => (t, i, 0)
  | t, o :: l, i => bif decide (ValidE t o = 0) then allR (applyT t o) l (i + 1) else (zeroT0, i, ValidE t o)
def AllR (t : Tree) (l : List OpT) : Tree × Nat × Int := bif rightT t then allR t l 0 else (zeroT0, 0, 2)
def costs : List OpT → Nat
  | [] => 0
  | o :: l => costO o + costs l
theorem zero_weight : zeroT0.weight = 1 := by
  have := weight_eq zeroT0
  simp [attrLen, weights, Tree.label, Tree.text, Tree.attrs, Tree.subs, zeroT0] at this
  exact this
theorem weight_pos (t : Tree) : 1 ≤ t.weight := by rw [weight_eq]; omega
theorem allR_weight : ∀ (l : List OpT) (t : Tree) (i : Nat), (allR t l i).1.weight ≤ t.weight + costs l
  | [], t, i => by rw [allR, costs]; simp
  | o :: l, t, i => by
    rw [allR, costs]
    by_cases h : ValidE t o = 0
    · rw [decide_eq_true h]
      have := allR_weight l (applyT t o) (i + 1)
      have := applyT_weight h
      simp only [cond_true]
      omega
    · rw [decide_eq_false h]
      have := zero_weight
      have := weight_pos t
      simp only [cond_false]
      omega
theorem AllR_weight (t : Tree) (l : List OpT) : (AllR t l).1.weight ≤ t.weight + costs l := by
  unfold AllR
  cases rightT t with
  | true => exact allR_weight l t 0
  | false =>
    have := zero_weight
    have := weight_pos t
    simp only [cond_false]
    omega
theorem valid_of_right {t : Tree} (h : rightT t = true) (o : OpT) : ValidE t o = bif !formedB o then 80 else validE t o := by
  unfold ValidE
  rw [h]
  rfl
theorem costs_le {n k : Nat} : ∀ {l : List OpT}, l.length ≤ k → (∀ o ∈ l, costO o ≤ n) → costs l ≤ k * n
  | [], _, _ => Nat.zero_le _
  | o :: l, hk, h => by
    obtain ⟨k', rfl⟩ : ∃ k', k = k' + 1 := ⟨k - 1, by simp at hk; omega⟩
    have := costs_le (n := n) (k := k') (l := l) (by simpa using hk) fun o' ho => h o' (List.mem_cons_of_mem _ ho)
    have := h o List.mem_cons_self
    rw [costs, Nat.succ_mul]
    omega
end Bow
/- W43a: ApplyAll, the program's and the reference's. -/
namespace Bow
open Go Go.Proofs

def AllV (r : Tree × Nat × Int) : V := .tup [nodeV r.1, .int .i64 r.2.1, .int .i64 r.2.2]
theorem allZ (i : Nat) (e : Int) : ∃ y, Wk (.tup [zeroV .nilsl, .int .i64 i, .int .i64 e]) y ∧ y.pureB = true ∧ y = AllV (zeroT0, i, e) :=
  ⟨_, Wk.tup (ys := [nodeV zeroT0, .int .i64 i, .int .i64 e]) ⟨wk_zero (ss := []) (Wk.nil 6), .refl _, .refl _, trivial⟩, rfl, rfl⟩

set_option maxHeartbeats 1000000 in
set_option maxRecDepth 100000 in
theorem w_refApplyAll (t : Tree) (l : List OpT) (hw : t.weight + costs l ≤ 400000) (hl : l.length ≤ 1000000) (hok : ∀ o ∈ l, o.Ok) : Pure Try.prog 41 [nodeV t, opsV l] (fun x => x = AllV (AllR t l)) := by
  refine pure_wk (pure_fn 300 Try.func41 rfl rfl rfl fun B => ?_)
  show CallThen _ _ _ _ _ _
  refine call_pure (w_refRightT t (by omega)) rfl ?_
  rintro x rfl
  refine ⟨fun g => go 300 ?_, fun g => go 300 ?_⟩
  · have hr : rightT t = false := by simpa using g
    refine ⟨trivial, rfl, rfl, rfl, ?_⟩
    have e : AllR t l = (zeroT0, 0, 2) := by unfold AllR; rw [hr]; rfl
    rw [e]
    exact allZ 0 2
  have hr : rightT t = true := by simpa using g
  have e : AllR t l = allR t l 0 := by unfold AllR; rw [hr]; rfl
  rw [e]
  show Goes _ _ _ _
  refine goes_iter (ι := Nat × Tree) (fun i => i.1 ≤ l.length ∧ rightT i.2 = true ∧ i.2.weight + costs (l.drop i.1) ≤ 400000 ∧ allR i.2 (l.drop i.1) i.1 = allR t l 0) (fun i => l.length - i.1)
    (fun i => [(7, .int .i64 i.1), (1, opsV l), (2, .ptr (.loc 0) 0), (4, .ptr (.loc 1) 0)]) (fun i => [some (.box (nodeV i.2).cells), some (.box (zeroV .nilsl).cells)]) (0, t) 300 (fun _ => rfl) (fun _ => rfl) ⟨⟨Nat.zero_le _, hr, hw, rfl⟩, ⟨⟨rfl, rfl⟩, ⟨rfl, rfl⟩, ⟨rfl, rfl⟩, ⟨rfl, rfl⟩, trivial⟩, ⟨⟨rfl, rfl⟩, ⟨rfl, rfl⟩, trivial⟩⟩ ?_
  rintro ⟨i, u⟩ ⟨k1, k2, k3, k4⟩ next
  simp only at k1 k2 k3 k4
  refine ⟨fun hlt => go 300 ?_, fun hge => go 300 ?_⟩
  · have hi : i < l.length := by simpa using hlt
    have hx : (l.map opV)[i]? = some (opV l[i]) := by simp [hi]
    rw [List.drop_eq_getElem_cons hi, allR] at k4
    rw [List.drop_eq_getElem_cons hi, costs] at k3
    have hap := w_refApply u l[i] (by omega) (hok _ (List.getElem_mem hi))
    show Goes _ _ _ _
    refine goes_draw 300 ⟨Int.natCast_nonneg i, _, hx, _, hap, rfl, ?_⟩
    refine ⟨by kernel_rfl, ?_⟩
    refine ⟨by kernel_rfl, ?_⟩
    by_cases hv : ValidE u l[i] = 0
    · have e : applyR u l[i] = (applyT u l[i], 0) := by unfold applyR; rw [decide_eq_true hv]; rfl
      rw [decide_eq_true hv] at k4
      have hwt := applyT_weight hv
      rw [e]
      refine ⟨fun g => absurd rfl (ne_of' g), fun _ => go 300 ?_⟩
      refine ⟨by constructor <;> omega, ?_⟩
      show Goes _ _ _ _
      exact next (i + 1, applyT u l[i]) _ _ ⟨⟨hi, right_applyT hv, by simp only; omega, k4⟩, by simp only; omega, ⟨⟨rfl, rfl⟩, ⟨rfl, rfl⟩, ⟨rfl, rfl⟩, ⟨rfl, rfl⟩, trivial⟩, ⟨⟨rfl, rfl⟩, ⟨rfl, rfl⟩, trivial⟩⟩
    · have e : applyR u l[i] = (zeroT [], ValidE u l[i]) := by unfold applyR; rw [decide_eq_false hv]; rfl
      rw [decide_eq_false hv] at k4
      rw [e]
      refine ⟨fun _ => go 300 ?_, fun g => absurd (eq_of' g) hv⟩
      refine ⟨trivial, rfl, rfl, rfl, ?_⟩
      rw [← k4]
      exact allZ i (ValidE u l[i])
  · have hi : i = l.length := by have := not_lt_of hge; simp at this; omega
    subst hi
    rw [List.drop_length, allR] at k4
    refine ⟨trivial, rfl, rfl, rfl, ?_⟩
    rw [← k4]
    exact ⟨_, Wk.refl _, rfl, by simp [AllV]; rfl⟩

set_option maxHeartbeats 1000000 in
set_option maxRecDepth 100000 in
theorem w_ApplyAll (t : Tree) (l : List OpT) (hw : t.weight + costs l ≤ 400000) (hl : l.length ≤ 1000000) (hok : ∀ o ∈ l, o.Ok) : Pure Try.prog 40 [nodeV t, opsV l] (fun x => x = AllV (AllR t l)) := by
  refine pure_wk (pure_fn 300 Try.func40 rfl rfl rfl fun B => ?_)
  show CallThen _ _ _ _ _ _
  refine call_pure (w_RightT t (by omega)) rfl ?_
  rintro x rfl
  refine ⟨fun g => go 300 ?_, fun g => go 300 ?_⟩
  · have hr : rightT t = false := by simpa using g
    refine ⟨trivial, rfl, rfl, rfl, ?_⟩
    have e : AllR t l = (zeroT0, 0, 2) := by unfold AllR; rw [hr]; rfl
    rw [e]
    exact allZ 0 2
  have hr : rightT t = true := by simpa using g
  have e : AllR t l = allR t l 0 := by unfold AllR; rw [hr]; rfl
  rw [e]
  show Goes _ _ _ _
  refine goes_iter (ι := Nat × Tree) (fun i => i.1 ≤ l.length ∧ rightT i.2 = true ∧ i.2.weight + costs (l.drop i.1) ≤ 400000 ∧ allR i.2 (l.drop i.1) i.1 = allR t l 0) (fun i => l.length - i.1)
    (fun i => [(16, .int .i64 i.1), (15, .int .i64 (l.map opV).length), (14, opsV l), (1, opsV l), (2, .ptr (.loc 0) 0), (4, .ptr (.loc 1) 0)]) (fun i => [some (.box (nodeV i.2).cells), some (.box (zeroV .nilsl).cells)]) (0, t) 300 (fun _ => rfl) (fun _ => rfl) ⟨⟨Nat.zero_le _, hr, hw, rfl⟩, ⟨⟨rfl, rfl⟩, ⟨rfl, rfl⟩, ⟨rfl, rfl⟩, ⟨rfl, rfl⟩, ⟨rfl, rfl⟩, ⟨rfl, rfl⟩, trivial⟩, ⟨⟨rfl, rfl⟩, ⟨rfl, rfl⟩, trivial⟩⟩ ?_
  rintro ⟨i, u⟩ ⟨k1, k2, k3, k4⟩ next
  simp only at k1 k2 k3 k4
  refine ⟨fun hlt => go 300 ?_, fun hge => go 300 ?_⟩
  · have hi : i < l.length := by simpa using hlt
    have hx : (l.map opV)[i]? = some (opV l[i]) := by simp [hi]
    have ho := hok _ (List.getElem_mem hi)
    have hvr := valid_of_right k2 l[i]
    rw [List.drop_eq_getElem_cons hi, allR] at k4
    rw [List.drop_eq_getElem_cons hi, costs] at k3
    refine ⟨Int.natCast_nonneg i, _, hx, ?_⟩
    show CallThen _ _ _ _ _ _
    refine call_pure (w_Formed l[i] ho.lt ho.each) rfl ?_
    rintro x rfl
    refine ⟨fun g => go 300 ?_, fun g => go 300 ?_⟩
    · rw [g] at hvr
      have hvr : ValidE u l[i] = validE u l[i] := hvr
      show CallThen _ _ _ _ _ _
      refine call_pure (w_valid u l[i] (by omega) ho) rfl ?_
      rintro x rfl
      rw [← hvr]
      by_cases hv : ValidE u l[i] = 0
      · rw [decide_eq_true hv] at k4
        have hwt := applyT_weight hv
        refine ⟨fun g => absurd hv (ne_of' g), fun _ => go 300 ?_⟩
        show CallThen _ _ _ _ _ _
        refine call_pure (w_applyT u l[i] (by omega) ho hv) rfl ?_
        rintro x rfl
        refine ⟨by constructor <;> omega, ?_⟩
        show Goes _ _ _ _
        exact next (i + 1, applyT u l[i]) _ _ ⟨⟨hi, right_applyT hv, by simp only; omega, k4⟩, by simp only; omega, ⟨⟨rfl, rfl⟩, ⟨rfl, rfl⟩, ⟨rfl, rfl⟩, ⟨rfl, rfl⟩, ⟨rfl, rfl⟩, ⟨rfl, rfl⟩, trivial⟩, ⟨⟨rfl, rfl⟩, ⟨rfl, rfl⟩, trivial⟩⟩
      · rw [decide_eq_false hv] at k4
        refine ⟨fun _ => go 300 ?_, fun g => absurd (eq_of' g) hv⟩
        refine ⟨trivial, rfl, rfl, rfl, ?_⟩
        rw [← k4]
        exact allZ i (ValidE u l[i])
    · rw [g] at hvr
      have hvr : ValidE u l[i] = 80 := hvr
      rw [hvr] at k4
      refine ⟨fun _ => go 300 ?_, fun g => absurd (eq_of' g) (by decide)⟩
      refine ⟨trivial, rfl, rfl, rfl, ?_⟩
      rw [← k4]
      exact allZ i 80
  · have hi : i = l.length := by have := not_lt_of hge; simp at this; omega
    subst hi
    rw [List.drop_length, allR] at k4
    refine ⟨trivial, rfl, rfl, rfl, ?_⟩
    rw [← k4]
    exact ⟨_, Wk.refl _, rfl, by simp [AllV]; rfl⟩

end Bow
/- W43: the law's function TreeopsAll. -/
namespace Bow
open Go Go.Proofs

set_option maxHeartbeats 1000000 in
set_option maxRecDepth 100000 in
theorem w_TreeopsAll (t : Tree) (l : List OpT) (_hlen : l.length ≤ maxLen) : Pure Try.prog 10 [nodeV t, opsV l] (fun x => x = .bool true) := by
  refine pure_wk (pure_fn 300 Try.func10 rfl rfl rfl fun B => ?_)
  show CallThen _ _ _ _ _ _
  refine call_pure (w_Weight t 300 (by decide)) rfl ?_
  rintro x ⟨w, rfl, w1, w2, w3⟩
  refine ⟨fun g => go 300 ?_, fun g => go 300 ?_⟩
  · show CallThen _ _ _ _ _ _
    refine call_pure w_works08 rfl ?_
    rintro x rfl
    exact ⟨trivial, rfl, rfl, rfl, leaf_b rfl⟩
  have g : (w : Int) ≤ 300 := not_lt_of g
  have hw : t.weight ≤ 300 := by have := w3 (by omega); omega
  show CallThen _ _ _ _ _ _
  refine call_pure (w_LightList l 30 100 (by decide) (by decide)) rfl ?_
  rintro x ⟨b, rfl, hb⟩
  refine ⟨fun g => go 300 ?_, fun g => go 300 ?_⟩
  · show CallThen _ _ _ _ _ _
    refine call_pure w_works08 rfl ?_
    rintro x rfl
    exact ⟨trivial, rfl, rfl, rfl, leaf_b rfl⟩
  have g : b = true := by simpa using g
  have hL := hb g
  have hn := hL.len
  have hok : ∀ o ∈ l, o.Ok := fun o ho => by
    obtain ⟨h1, h2⟩ := hL.ops o ho
    exact ⟨Lt_mono h1 (by decide), by omega⟩
  have hcost : costs l ≤ 30 * 402 := costs_le hn fun o ho => by
    obtain ⟨h1, h2⟩ := hL.ops o ho
    have := h1.label
    have := h1.key
    have := h1.value
    unfold costO
    omega
  have hrw := AllR_weight t l
  show CallThen _ _ _ _ _ _
  refine call_pure (w_ApplyAll t l (by omega) (by omega) hok) rfl ?_
  rintro x rfl
  show CallThen _ _ _ _ _ _
  refine call_pure (w_refApplyAll t l (by omega) (by omega) hok) rfl ?_
  rintro x rfl
  refine ⟨fun _ => go 300 ?_, fun g => absurd rfl (ne_of g)⟩
  refine ⟨fun _ => go 300 ?_, fun g => absurd rfl (ne_of g)⟩
  show CallThen _ _ _ _ _ _
  refine call_pure (w_refSameT (AllR t l).1 (AllR t l).1 (by omega)) rfl ?_
  rintro x rfl
  refine ⟨fun _ => go 300 ?_, fun g => absurd ((sameT_refl true (AllR t l).1).symm.trans g) (by decide)⟩
  show CallThen _ _ _ _ _ _
  refine call_pure w_works08 rfl ?_
  rintro x rfl
  exact ⟨trivial, rfl, rfl, rfl, leaf_b rfl⟩
end Bow
/- TD1: what is read as data at the program's types. -/
namespace Bow
open Go Go.Proofs

theorem take1 {vs : List V} {c : V} (h : vs.take 1 = [c]) : ∃ r, vs = c :: r ∧ vs.drop 1 = r := by
  cases vs with
  | nil => simp at h
  | cons x r => simp at h; subst h; exact ⟨r, rfl, rfl⟩

theorem map_exists {α β : Type} {f : α → V} {g : β → V} : ∀ {xs : List α}, (∀ x ∈ xs, ∃ y, f x = g y) → ∃ ys : List β, xs.map f = ys.map g
  | [], _ => ⟨[], rfl⟩
  | x :: xs, h => by
    obtain ⟨y, hy⟩ := h x List.mem_cons_self
    obtain ⟨ys, hys⟩ := map_exists (xs := xs) fun z hz => h z (List.mem_cons_of_mem _ hz)
    exact ⟨y :: ys, by simp [hy, hys]⟩

theorem vt_str {n : Nat} {vs : List V} (h : VT Try.prog n 9 vs) : ∃ s, vs = [.str s] := by
  cases n with
  | zero => exact h.elim
  | succ n =>
    obtain ⟨s, e, _⟩ : ∃ s : List UInt8, vs = [.str s] ∧ s.length ≤ maxLen := h
    exact ⟨s, e⟩
theorem vt_bool {n : Nat} {vs : List V} (h : VT Try.prog n 4 vs) : ∃ b, vs = [.bool b] := by
  cases n with
  | zero => exact h.elim
  | succ n => exact h
theorem vt_int {n : Nat} {vs : List V} (h : VT Try.prog n 3 vs) : ∃ i, vs = [.int .i64 i] ∧ (Lit.int .i64 i).wf = true := by
  cases n with
  | zero => exact h.elim
  | succ n => exact h
theorem vt_u64 {n : Nat} {vs : List V} (h : VT Try.prog n 22 vs) : ∃ i, vs = [.int .u64 i] := by
  cases n with
  | zero => exact h.elim
  | succ n =>
    obtain ⟨s, e, _⟩ : ∃ s : Int, vs = [.int .u64 s] ∧ (Lit.int .u64 s).wf = true := h
    exact ⟨s, e⟩
theorem vt_u8 {n : Nat} {vs : List V} (h : VT Try.prog n 5 vs) : ∃ i, vs = [.int .u8 i] := by
  cases n with
  | zero => exact h.elim
  | succ n =>
    obtain ⟨s, e, _⟩ : ∃ s : Int, vs = [.int .u8 s] ∧ (Lit.int .u8 s).wf = true := h
    exact ⟨s, e⟩
set_option maxRecDepth 100000 in
theorem vt_attr {n : Nat} {vs : List V} (h : VT Try.prog n 67 vs) : ∃ a, vs = (attrV a).cells := by
  cases n with
  | zero => exact h.elim
  | succ n =>
    obtain ⟨h0, h1, h2⟩ : VT Try.prog n 9 (vs.take 1) ∧ VT Try.prog n 9 ((vs.drop 1).take 1) ∧ (vs.drop 1).drop 1 = [] := h
    obtain ⟨a, e0⟩ := vt_str h0
    obtain ⟨b, e1⟩ := vt_str h1
    obtain ⟨r, rfl, d0⟩ := take1 e0
    rw [d0] at e1 h2
    obtain ⟨r1, rfl, d1⟩ := take1 e1
    rw [d1] at h2
    subst h2
    exact ⟨(a, b), rfl⟩
set_option maxRecDepth 100000 in
theorem vt_attrs {n : Nat} {vs : List V} (h : VT Try.prog n 23 vs) : ∃ l : List (List UInt8 × List UInt8), vs = [.sl 2 (l.map attrV)] := by
  cases n with
  | zero => exact h.elim
  | succ n =>
    obtain ⟨xs, e, _, hx⟩ : ∃ xs : List (List V), vs = [.sl 2 (xs.map (mkX Try.prog 67))] ∧ xs.length ≤ maxLen ∧ ∀ x ∈ xs, VT Try.prog n 67 x := h
    obtain ⟨l, hl⟩ := map_exists (f := mkX Try.prog 67) (g := attrV) (xs := xs) fun x hm => by
      obtain ⟨a, rfl⟩ := vt_attr (hx x hm)
      exact ⟨a, rfl⟩
    exact ⟨l, by rw [e, hl]⟩

set_option maxRecDepth 100000 in
theorem vt_node : ∀ (n : Nat) (vs : List V), VT Try.prog n 26 vs → ∃ t : Tree, vs = (nodeV t).cells := by
  intro n
  induction n using Nat.strongRecOn with
  | _ n ih =>
    intro vs h
    cases n with
    | zero => exact h.elim
    | succ n =>
      obtain ⟨h0, h1, h2, h3, h4, h5, h6⟩ : VT Try.prog n 22 (vs.take 1) ∧ VT Try.prog n 4 ((vs.drop 1).take 1) ∧ VT Try.prog n 9 (((vs.drop 1).drop 1).take 1) ∧ VT Try.prog n 23 ((((vs.drop 1).drop 1).drop 1).take 1) ∧
        VT Try.prog n 9 (((((vs.drop 1).drop 1).drop 1).drop 1).take 1) ∧ VT Try.prog n 24 ((((((vs.drop 1).drop 1).drop 1).drop 1).drop 1).take 1) ∧ (((((vs.drop 1).drop 1).drop 1).drop 1).drop 1).drop 1 = [] := h
      obtain ⟨i, e0⟩ := vt_u64 h0
      obtain ⟨l, e1⟩ := vt_bool h1
      obtain ⟨s, e2⟩ := vt_str h2
      obtain ⟨a, e3⟩ := vt_attrs h3
      obtain ⟨x, e4⟩ := vt_str h4
      obtain ⟨r, rfl, d0⟩ := take1 e0
      rw [d0] at e1 e2 e3 e4 h5 h6
      obtain ⟨r, rfl, d0⟩ := take1 e1
      rw [d0] at e2 e3 e4 h5 h6
      obtain ⟨r, rfl, d0⟩ := take1 e2
      rw [d0] at e3 e4 h5 h6
      obtain ⟨r, rfl, d0⟩ := take1 e3
      rw [d0] at e4 h5 h6
      obtain ⟨r, rfl, d0⟩ := take1 e4
      rw [d0] at h5 h6
      cases n with
      | zero => exact h5.elim
      | succ n =>
        obtain ⟨xs, e5, _, hx⟩ : ∃ xs : List (List V), r.take 1 = [.sl 6 (xs.map (mkX Try.prog 26))] ∧ xs.length ≤ maxLen ∧ ∀ x ∈ xs, VT Try.prog n 26 x := h5
        obtain ⟨ts, hts⟩ := map_exists (f := mkX Try.prog 26) (g := nodeV) (xs := xs) fun x hm => by
          obtain ⟨t, rfl⟩ := ih n (by omega) x (hx x hm)
          exact ⟨t, rfl⟩
        obtain ⟨r, rfl, d0⟩ := take1 e5
        rw [d0] at h6
        subst h6
        refine ⟨.mk i l s a x ts, ?_⟩
        rw [hts]
        simp only [nodeV, Tree.id, Tree.leaf, Tree.label, Tree.attrs, Tree.text, subV_eq, Tree.subs, V.cells]

theorem rep_of_cells {w : World} {vs : List V} {cs : Array Value} (h : RowRep w β0 [] vs cs.toList) : Rep w β0 [] (.agg vs) (.agg cs) :=
  .agg vs cs (by simpa using h.1) fun j c v hj hv => h.2 j c v hj (by simpa using hv)

set_option maxRecDepth 100000 in
/-- A node that is handed over. -/
theorem node_arg {H : Type} {enc : TypeId × Value → H} {w : World} {r : Reach} {base b0 : Nat} {sp : Nat → Bool} {held : Bool} {v : Value} {d : DataW H} {p : List MemPlace} (ho : Value.okWide Try.prog w r b0 26 v) (h : DataW.Trod enc Try.prog w base sp held 26 v d p) :
    ∃ t : Tree, Rep w β0 [] (nodeV t) v := by
  obtain ⟨fuel, hf⟩ := h
  obtain ⟨cs, rfl, _, _⟩ : ∃ cs, v = .agg cs ∧ cs.size = Try.prog.cellsOf 26 ∧ Row.okWide Try.prog w r b0 26 cs := ho
  obtain ⟨vs, h1, _, h3⟩ := read_data (G := [26, 24, 23, 67, 9, 22, 4]) (by kernel_rfl) fuel _ _ _ (by kernel_rfl) hf
  obtain ⟨t, rfl⟩ := vt_node _ _ h3
  exact ⟨t, rep_of_cells h1⟩
end Bow
/- TD2: operations that are read as data. -/
namespace Bow
open Go Go.Proofs

set_option maxRecDepth 100000 in
theorem vt_path {n : Nat} {vs : List V} (h : VT Try.prog n 37 vs) : ∃ l : List Int, vs = [pathV l] ∧ l.length ≤ maxLen ∧ ∀ i ∈ l, (Lit.int .i64 i).wf = true := by
  cases n with
  | zero => exact h.elim
  | succ n =>
    obtain ⟨xs, e, hl, hx⟩ : ∃ xs : List (List V), vs = [.sl 1 (xs.map (mkX Try.prog 3))] ∧ xs.length ≤ maxLen ∧ ∀ x ∈ xs, VT Try.prog n 3 x := h
    have key : ∀ xs : List (List V), (∀ x ∈ xs, VT Try.prog n 3 x) → ∃ l : List Int, xs.map (mkX Try.prog 3) = l.map intV ∧ ∀ i ∈ l, (Lit.int .i64 i).wf = true := by
      intro xs
      induction xs with
      | nil => intro _; exact ⟨[], rfl, by simp⟩
      | cons x xs ih =>
        intro hx
        obtain ⟨i, rfl, hw⟩ := vt_int (hx x List.mem_cons_self)
        obtain ⟨l, e, hl⟩ := ih fun z hz => hx z (List.mem_cons_of_mem _ hz)
        refine ⟨i :: l, by simp only [List.map_cons, e]; rfl, fun j hj => ?_⟩
        rcases List.mem_cons.1 hj with rfl | hj
        · exact hw
        · exact hl j hj
    obtain ⟨l, e1, e2⟩ := key xs hx
    refine ⟨l, by rw [e, e1]; rfl, ?_, e2⟩
    have := congrArg List.length e1
    simp at this
    omega
set_option maxRecDepth 100000 in
theorem vt_piece {n : Nat} {vs : List V} (h : VT Try.prog n 63 vs) : ∃ p, vs = (pieceV p).cells := by
  cases n with
  | zero => exact h.elim
  | succ n =>
    obtain ⟨h0, h1, h2, h3⟩ : VT Try.prog n 3 (vs.take 1) ∧ VT Try.prog n 3 ((vs.drop 1).take 1) ∧ VT Try.prog n 9 (((vs.drop 1).drop 1).take 1) ∧ ((vs.drop 1).drop 1).drop 1 = [] := h
    obtain ⟨a, e0, _⟩ := vt_int h0
    obtain ⟨b, e1, _⟩ := vt_int h1
    obtain ⟨s, e2⟩ := vt_str h2
    obtain ⟨r, rfl, d0⟩ := take1 e0
    rw [d0] at e1 e2 h3
    obtain ⟨r1, rfl, d1⟩ := take1 e1
    rw [d1] at e2 h3
    obtain ⟨r2, rfl, d2⟩ := take1 e2
    rw [d2] at h3
    subst h3
    exact ⟨⟨a, b, s⟩, rfl⟩
set_option maxRecDepth 100000 in
theorem vt_pieces {n : Nat} {vs : List V} (h : VT Try.prog n 38 vs) : ∃ l : List PieceT, vs = [piecesV l] := by
  cases n with
  | zero => exact h.elim
  | succ n =>
    obtain ⟨xs, e, _, hx⟩ : ∃ xs : List (List V), vs = [.sl 3 (xs.map (mkX Try.prog 63))] ∧ xs.length ≤ maxLen ∧ ∀ x ∈ xs, VT Try.prog n 63 x := h
    obtain ⟨l, hl⟩ := map_exists (f := mkX Try.prog 63) (g := pieceV) (xs := xs) fun x hm => by
      obtain ⟨a, rfl⟩ := vt_piece (hx x hm)
      exact ⟨a, rfl⟩
    exact ⟨l, by rw [e, hl]; rfl⟩

set_option maxRecDepth 100000 in
theorem vt_op {n : Nat} {vs : List V} (h : VT Try.prog n 40 vs) : ∃ o, vs = (opV o).cells := by
  cases n with
  | zero => exact h.elim
  | succ n =>
    obtain ⟨h0, h⟩ : VT Try.prog n 5 (vs.take 1) ∧ _ := h
    obtain ⟨a0, e0⟩ := vt_u8 h0
    obtain ⟨r, rfl, d0⟩ := take1 e0
    obtain ⟨h1, h⟩ : VT Try.prog n 37 (r.take 1) ∧ _ := h
    obtain ⟨a1, e1, _⟩ := vt_path h1
    obtain ⟨r, rfl, d0⟩ := take1 e1
    obtain ⟨h2, h⟩ : VT Try.prog n 3 (r.take 1) ∧ _ := h
    obtain ⟨a2, e2, _⟩ := vt_int h2
    obtain ⟨r, rfl, d0⟩ := take1 e2
    obtain ⟨h3, h⟩ : VT Try.prog n 37 (r.take 1) ∧ _ := h
    obtain ⟨a3, e3, _⟩ := vt_path h3
    obtain ⟨r, rfl, d0⟩ := take1 e3
    obtain ⟨h4, h⟩ : VT Try.prog n 22 (r.take 1) ∧ _ := h
    obtain ⟨a4, e4⟩ := vt_u64 h4
    obtain ⟨r, rfl, d0⟩ := take1 e4
    obtain ⟨h5, h⟩ : VT Try.prog n 4 (r.take 1) ∧ _ := h
    obtain ⟨a5, e5⟩ := vt_bool h5
    obtain ⟨r, rfl, d0⟩ := take1 e5
    obtain ⟨h6, h⟩ : VT Try.prog n 9 (r.take 1) ∧ _ := h
    obtain ⟨a6, e6⟩ := vt_str h6
    obtain ⟨r, rfl, d0⟩ := take1 e6
    obtain ⟨h7, h⟩ : VT Try.prog n 9 (r.take 1) ∧ _ := h
    obtain ⟨a7, e7⟩ := vt_str h7
    obtain ⟨r, rfl, d0⟩ := take1 e7
    obtain ⟨h8, h⟩ : VT Try.prog n 9 (r.take 1) ∧ _ := h
    obtain ⟨a8, e8⟩ := vt_str h8
    obtain ⟨r, rfl, d0⟩ := take1 e8
    obtain ⟨h9, h⟩ : VT Try.prog n 4 (r.take 1) ∧ _ := h
    obtain ⟨a9, e9⟩ := vt_bool h9
    obtain ⟨r, rfl, d0⟩ := take1 e9
    obtain ⟨h10, h⟩ : VT Try.prog n 38 (r.take 1) ∧ _ := h
    obtain ⟨a10, e10⟩ := vt_pieces h10
    obtain ⟨r, rfl, d0⟩ := take1 e10
    have h : r = [] := h
    subst h
    exact ⟨⟨a0, a1, a2, a3, a4, a5, a6, a7, a8, a9, a10⟩, rfl⟩
set_option maxRecDepth 100000 in
theorem vt_ops {n : Nat} {vs : List V} (h : VT Try.prog n 33 vs) : ∃ l : List OpT, vs = [.sl 11 (l.map opV)] ∧ l.length ≤ maxLen := by
  cases n with
  | zero => exact h.elim
  | succ n =>
    obtain ⟨xs, e, hl, hx⟩ : ∃ xs : List (List V), vs = [.sl 11 (xs.map (mkX Try.prog 40))] ∧ xs.length ≤ maxLen ∧ ∀ x ∈ xs, VT Try.prog n 40 x := h
    obtain ⟨l, e1⟩ := map_exists (f := mkX Try.prog 40) (g := opV) (xs := xs) fun x hm => by
      obtain ⟨a, rfl⟩ := vt_op (hx x hm)
      exact ⟨a, rfl⟩
    refine ⟨l, by rw [e, e1], ?_⟩
    have := congrArg List.length e1
    simp at this
    omega

set_option maxRecDepth 100000 in
/-- An operation that is handed over. -/
theorem op_arg {H : Type} {enc : TypeId × Value → H} {w : World} {r : Reach} {base b0 : Nat} {sp : Nat → Bool} {held : Bool} {v : Value} {d : DataW H} {p : List MemPlace} (ho : Value.okWide Try.prog w r b0 40 v) (h : DataW.Trod enc Try.prog w base sp held 40 v d p) :
    ∃ o : OpT, Rep w β0 [] (opV o) v := by
  obtain ⟨fuel, hf⟩ := h
  obtain ⟨cs, rfl, _, _⟩ : ∃ cs, v = .agg cs ∧ cs.size = Try.prog.cellsOf 40 ∧ Row.okWide Try.prog w r b0 40 cs := ho
  obtain ⟨vs, h1, _, h3⟩ := read_data (G := [40, 37, 38, 63, 3, 9, 22, 5, 4]) (by kernel_rfl) fuel _ _ _ (by kernel_rfl) hf
  obtain ⟨t, rfl⟩ := vt_op h3
  exact ⟨t, rep_of_cells h1⟩
set_option maxRecDepth 100000 in
/-- A list of operations that is handed over. -/
theorem ops_arg {H : Type} {enc : TypeId × Value → H} {w : World} {r : Reach} {base b0 : Nat} {sp : Nat → Bool} {held : Bool} {v : Value} {d : DataW H} {p : List MemPlace} (ho : Value.okWide Try.prog w r b0 33 v) (h : DataW.Trod enc Try.prog w base sp held 33 v d p) :
    ∃ l : List OpT, Rep w β0 [] (.sl 11 (l.map opV)) v ∧ l.length ≤ maxLen := by
  obtain ⟨a, len, cap, rfl⟩ := WideShapes.okWide_slice Try.underlying33 ho
  obtain ⟨fuel, hf⟩ := h
  obtain ⟨vs, h1, _, h3⟩ := read_data (G := [33, 40, 37, 38, 63, 3, 9, 22, 5, 4]) (by kernel_rfl) fuel _ _ _ (by kernel_rfl) hf
  obtain ⟨l, rfl, hl⟩ := vt_ops h3
  exact ⟨l, h1.2 0 _ _ rfl rfl, hl⟩
set_option maxRecDepth 100000 in
/-- A path that is handed over. -/
theorem path_arg {H : Type} {enc : TypeId × Value → H} {w : World} {r : Reach} {base b0 : Nat} {sp : Nat → Bool} {held : Bool} {v : Value} {d : DataW H} {p : List MemPlace} (ho : Value.okWide Try.prog w r b0 37 v) (h : DataW.Trod enc Try.prog w base sp held 37 v d p) :
    ∃ l : List Int, Rep w β0 [] (pathV l) v ∧ l.length ≤ maxLen ∧ ∀ i ∈ l, (Lit.int .i64 i).wf = true := by
  obtain ⟨a, len, cap, rfl⟩ := WideShapes.okWide_slice Try.underlying37 ho
  obtain ⟨fuel, hf⟩ := h
  obtain ⟨vs, h1, _, h3⟩ := read_data (G := [37, 3]) (by kernel_rfl) fuel _ _ _ (by kernel_rfl) hf
  obtain ⟨l, rfl, hl⟩ := vt_path h3
  exact ⟨l, h1.2 0 _ _ rfl rfl, hl⟩
end Bow
