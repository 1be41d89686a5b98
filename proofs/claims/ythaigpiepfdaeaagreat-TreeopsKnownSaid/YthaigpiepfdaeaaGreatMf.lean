/- The library, part 6: W38, SP15, SP16, W39, SP17, W43a, W49, W50, W51, W52, W53, W54, W55, W56, W57, W58, W59, W60, SP20, W48, W61, W62, W63, W64, W65, W66, W68, W69, AE43, AE44, AE45, AE46, W76, W77, W78, SP28, W67, SP27, SP31, W70, W71, W72, AE47, W79, W28, W29, W30, W40, AE53, W90, AE55, W41. -/
import Derived.Test.YthaigpiepfdaeaaGreatMe
import Derived.Test.YthaigpiepfdaeaaGreatMd
/- W38: the reference's Apply. -/
namespace Bow
open Go Go.Proofs

set_option maxRecDepth 100000 in
theorem w_refApply_bad (t : Tree) (o : OpT) (ht : t.weight ≤ 1000000) (ho : o.Ok) (h : ValidE t o ≠ 0) : Pure Tryz.prog 26 [nodeV t, opV o] (fun x => x = ApplyV (zeroT [], ValidE t o)) := by
  refine pure_wk (pure_fn 300 Tryz.func26 rfl rfl rfl fun B => ?_)
  show CallThen _ _ _ _ _ _
  refine call_pure (w_refValid t o ht ho) rfl ?_
  rintro x rfl
  refine ⟨fun g1 => go 300 ?_, fun g1 => absurd (eq_of' g1) h⟩
  exact ⟨trivial, rfl, rfl, rfl, ApplyV (zeroT [], ValidE t o), Wk.tup ⟨wk_zero (ss := []) (Wk.nil 6), .refl _, trivial⟩, rfl, rfl⟩

set_option maxHeartbeats 1000000 in
set_option maxRecDepth 100000 in
theorem w_refApply_ok (t : Tree) (o : OpT) (ht : t.weight ≤ 400000) (ho : o.Ok) (h : ValidE t o = 0) : Pure Tryz.prog 26 [nodeV t, opV o] (fun x => x = ApplyV (applyT t o, 0)) := by
  obtain ⟨hr, hf, _⟩ := valid_right h
  have hra : t.rightA = true := by
    unfold rightT at hr
    rw [Bool.and_eq_true] at hr
    exact hr.2
  have hp := ho.lt.path
  have hpi := may_step (formed_path hf)
  refine pure_fn 300 Tryz.func26 rfl rfl rfl fun B => ?_
  show CallThen _ _ _ _ _ _
  refine call_pure (w_refValid t o (by omega) ho) rfl ?_
  rintro x rfl
  refine ⟨fun g1 => absurd h (ne_of' g1), fun g1 => go 300 ?_⟩
  show CallThen _ _ _ _ _ _
  refine call_pure (w_refAt t o.path hp) rfl ?_
  rintro _ rfl
  cases good_of h with
  | ins y hk hy hl h0 h1 h2 =>
    have e : applyT t o = changeT (insT o.at_ (freshT o)) t o.path := by unfold applyT; rw [hk]; rfl
    have hyw := atT_weight hy
    rw [hy]
    refine ⟨fun g1 => go 300 ?_, fun g1 => absurd hk (ne_of g1)⟩
    show Goes _ _ _ _
    have hput := pure_args (args := [nodeV y, .int .i64 o.at_, .agg [.int .u64 o.id, .bool o.leaf, .str o.label, .nilsl, .str [], .nilsl]]) (w_refputs y (freshT o) o.at_ (by omega) h0 h1) ⟨.refl _, .refl _, wk_fresh o, trivial⟩ rfl rfl
    refine goes_draw 300 ⟨_, hput, rfl, _, w_refchange t (insT o.at_ (freshT o) y) y o.path hp (by omega) hy, rfl, ?_⟩
    refine ⟨by kernel_rfl, ?_⟩
    refine ⟨trivial, rfl, rfl, rfl, ?_⟩
    rw [change_const (F := insT o.at_ (freshT o)) hy, e]
    rfl
  | del x hk hne hx =>
    have e : applyT t o = withoutT t o.path := by unfold applyT; rw [hk]; rfl
    rw [hx]
    refine ⟨fun g1 => absurd (hk.symm.trans (eq_of g1)) (by decide), fun g1 => go 300 ?_⟩
    refine ⟨fun g1 => go 300 ?_, fun g1 => absurd hk (ne_of g1)⟩
    show CallThen _ _ _ _ _ _
    refine call_pure (w_refWithout t x o.path hp hne (by omega) hx) rfl ?_
    rintro z rfl
    exact ⟨trivial, rfl, rfl, rfl, by rw [e]; rfl⟩
  | mov x z hk hne hx hw hz hl h0 h1 =>
    have e : applyT t o = moveT x t o := by unfold applyT; rw [hk, hx]; rfl
    rw [hx]
    refine ⟨fun g1 => absurd (hk.symm.trans (eq_of g1)) (by decide), fun g1 => go 300 ?_⟩
    refine ⟨fun g1 => absurd (hk.symm.trans (eq_of g1)) (by decide), fun g1 => go 300 ?_⟩
    refine ⟨fun g1 => go 300 ?_, fun g1 => absurd hk (ne_of g1)⟩
    show CallThen _ _ _ _ _ _
    refine call_pure (w_refmove t x z o ht ho (fun i hi => by have := hpi i hi; constructor <;> omega) hne hx hw hz h0 h1) rfl ?_
    rintro r rfl
    exact ⟨trivial, rfl, rfl, rfl, by rw [e]; rfl⟩
  | att y hk hy h1 h2 =>
    have e : applyT t o = changeT (setAT o) t o.path := by unfold applyT; rw [hk]; rfl
    have hyw := atT_weight hy
    have ea : y.withAttrs (refA o o.gone y.attrs) = setAT o y := by rw [attr_law o (right_attrs (right_at hra hy))]; rfl
    rw [hy]
    refine ⟨fun g1 => absurd (hk.symm.trans (eq_of g1)) (by decide), fun g1 => go 300 ?_⟩
    refine ⟨fun g1 => absurd (hk.symm.trans (eq_of g1)) (by decide), fun g1 => go 300 ?_⟩
    refine ⟨fun g1 => absurd (hk.symm.trans (eq_of g1)) (by decide), fun g1 => go 300 ?_⟩
    refine ⟨fun g1 => go 300 ?_, fun g1 => absurd hk (ne_of g1)⟩
    show Goes _ _ _ _
    have hat := w_refattr y o (by omega)
    rw [ea] at hat
    refine goes_draw 300 ⟨_, hat, rfl, _, w_refchange t (setAT o y) y o.path hp (by omega) hy, rfl, ?_⟩
    refine ⟨by kernel_rfl, ?_⟩
    refine ⟨trivial, rfl, rfl, rfl, ?_⟩
    rw [change_const (F := setAT o) hy, e]
    rfl
  | lab y hk hy h2 =>
    have e : applyT t o = changeT (relabelT o.label) t o.path := by unfold applyT; rw [hk]; rfl
    rw [hy]
    refine ⟨fun g1 => absurd (hk.symm.trans (eq_of g1)) (by decide), fun g1 => go 300 ?_⟩
    refine ⟨fun g1 => absurd (hk.symm.trans (eq_of g1)) (by decide), fun g1 => go 300 ?_⟩
    refine ⟨fun g1 => absurd (hk.symm.trans (eq_of g1)) (by decide), fun g1 => go 300 ?_⟩
    refine ⟨fun g1 => absurd (hk.symm.trans (eq_of g1)) (by decide), fun g1 => go 300 ?_⟩
    refine ⟨fun g1 => go 300 ?_, fun g1 => absurd hk (ne_of g1)⟩
    show CallThen _ _ _ _ _ _
    cases y with
    | mk i lf b a c ss =>
    refine call_pure (w_refchange t (relabelT o.label (.mk i lf b a c ss)) (.mk i lf b a c ss) o.path hp (by omega) hy) rfl ?_
    rintro r rfl
    refine ⟨trivial, rfl, rfl, rfl, ?_⟩
    rw [change_const (F := relabelT o.label) hy, e]
    rfl
  | edt y hk hy hl he =>
    have e : applyT t o = changeT (retextT o.pieces) t o.path := by unfold applyT; rw [hk]; rfl
    have hyw := atT_weight hy
    have htw := text_le_weight y
    rw [hy]
    refine ⟨fun g1 => absurd (hk.symm.trans (eq_of g1)) (by decide), fun g1 => go 300 ?_⟩
    refine ⟨fun g1 => absurd (hk.symm.trans (eq_of g1)) (by decide), fun g1 => go 300 ?_⟩
    refine ⟨fun g1 => absurd (hk.symm.trans (eq_of g1)) (by decide), fun g1 => go 300 ?_⟩
    refine ⟨fun g1 => absurd (hk.symm.trans (eq_of g1)) (by decide), fun g1 => go 300 ?_⟩
    refine ⟨fun g1 => absurd (hk.symm.trans (eq_of g1)) (by decide), fun g1 => go 300 ?_⟩
    show CallThen _ _ _ _ _ _
    refine call_pure (w_refEdit y.text o.pieces (by omega) ho.lt.pieces ho.each) rfl ?_
    rintro r rfl
    show CallThen _ _ _ _ _ _
    cases y with
    | mk i lf b a c ss =>
    refine call_pure (w_refchange t (retextT o.pieces (.mk i lf b a c ss)) (.mk i lf b a c ss) o.path hp (by omega) hy) rfl ?_
    rintro r rfl
    refine ⟨trivial, rfl, rfl, rfl, ?_⟩
    rw [change_const (F := retextT o.pieces) hy, e]
    rfl

theorem w_refApply (t : Tree) (o : OpT) (ht : t.weight ≤ 400000) (ho : o.Ok) : Pure Tryz.prog 26 [nodeV t, opV o] (fun x => x = ApplyV (applyR t o)) := by
  by_cases h : ValidE t o = 0
  · have e : applyR t o = (applyT t o, 0) := by unfold applyR; rw [decide_eq_true h]; rfl
    rw [e]
    exact w_refApply_ok t o ht ho h
  · have e : applyR t o = (zeroT [], ValidE t o) := by unfold applyR; rw [decide_eq_false h]; rfl
    rw [e]
    exact w_refApply_bad t o (by omega) ho h
end Bow
/- SP15: a tree that was right stays right, in plain Lean. -/
namespace Bow
open Go

theorem rightN_iff (t : Tree) : rightN t = true ↔ t.label.length ≤ 64 ∧ (t.leaf = true → t.subs = []) ∧ (t.leaf = false → t.text = []) ∧ attrsOk none t.attrs = true := by
  unfold rightN headOk
  constructor
  · intro h
    rw [Bool.and_eq_true, Bool.and_eq_true, Bool.and_eq_true] at h
    obtain ⟨⟨h1, h2, h3⟩, h4⟩ := h
    refine ⟨by simp at h1; omega, fun hl => ?_, fun hl => ?_, h4⟩
    · rw [hl] at h2
      cases hs : t.subs with
      | nil => rfl
      | cons a l => rw [hs] at h2; simp at h2
    · rw [hl] at h3
      simpa using h3
  · rintro ⟨h1, h2, h3, h4⟩
    rw [h4, decide_eq_false (by omega : ¬ (64 : Int) < t.label.length)]
    cases hl : t.leaf with
    | false => rw [h3 hl]; simp
    | true => rw [h2 hl]; simp
theorem rightN_subs (t : Tree) (ss : List Tree) (h : rightN t = true) (hl : t.leaf = true → ss = []) : rightN (t.withSubs ss) = true := by
  obtain ⟨h1, h2, h3, h4⟩ := (rightN_iff t).1 h
  refine (rightN_iff _).2 ?_
  obtain ⟨i, lf, b, a, c, us⟩ := t
  exact ⟨h1, hl, h3, h4⟩
theorem rightN_leaf {t : Tree} (h : rightN t = true) (hl : t.leaf = true) : t.subs = [] := ((rightN_iff t).1 h).2.1 hl
theorem rightA_N {t : Tree} (h : t.rightA = true) : rightN t = true := by
  rw [rightA_eq, Bool.and_eq_true] at h
  exact h.1
theorem rightA_subs {t : Tree} (h : t.rightA = true) : ∀ s ∈ t.subs, s.rightA = true := by
  rw [rightA_eq, Bool.and_eq_true, rightsA_all] at h
  exact List.all_eq_true.1 h.2
theorem rightA_mk {t : Tree} (h1 : rightN t = true) (h2 : ∀ s ∈ t.subs, s.rightA = true) : t.rightA = true := by
  rw [rightA_eq, h1, rightsA_all, Bool.true_and]
  exact List.all_eq_true.2 h2
theorem change_rightA {F : Tree → Tree} {y : Tree} : ∀ {p : List Int} {t : Tree}, t.rightA = true → atT t p = some y → (F y).rightA = true → (changeT F t p).rightA = true
  | [], t, _, h, hF => by
    rw [atT] at h
    injection h with h
    subst h
    exact hF
  | i :: p, t, ht, h, hF => by
    rw [atT] at h
    cases hs : subT t i with
    | none => rw [hs] at h; cases h
    | some s =>
      rw [hs] at h
      obtain ⟨h1, h2, h3⟩ := subT_some hs
      have ih := change_rightA (F := F) (p := p) (rightA_subs ht s h3) h hF
      rw [changeT, hs]
      simp only
      refine rightA_mk (rightN_subs t _ (rightA_N ht) fun hl => ?_) fun u hu => ?_
      · rw [rightN_leaf (rightA_N ht) hl] at h3
        cases h3
      · rw [withSubs_subs] at hu
        rcases List.mem_or_eq_of_mem_set hu with hu | rfl
        · exact rightA_subs ht u hu
        · exact ih
theorem ins_rightA (n : Int) {x y : Tree} (hy : y.rightA = true) (hl : y.leaf = false) (hx : x.rightA = true) : (insT n x y).rightA = true := by
  refine rightA_mk (rightN_subs y _ (rightA_N hy) fun h => by rw [hl] at h; cases h) fun u hu => ?_
  unfold insT at hu
  rw [withSubs_subs] at hu
  rcases List.mem_append.1 hu with hu | hu
  · exact rightA_subs hy u (List.mem_of_mem_take hu)
  · rcases List.mem_cons.1 hu with rfl | hu
    · exact hx
    · exact rightA_subs hy u (List.mem_of_mem_drop hu)
theorem del_rightA (n : Int) {y : Tree} (hy : y.rightA = true) : (delT n y).rightA = true := by
  refine rightA_mk (rightN_subs y _ (rightA_N hy) fun h => by rw [rightN_leaf (rightA_N hy) h]; simp) fun u hu => ?_
  unfold delT at hu
  rw [withSubs_subs] at hu
  rcases List.mem_append.1 hu with hu | hu
  · exact rightA_subs hy u (List.mem_of_mem_take hu)
  · exact rightA_subs hy u (List.mem_of_mem_drop hu)
theorem less_ord {k s : List UInt8} (h : Op.bytesLess k s = true) : ordOk (some k) s = true := by
  show (!leS s k) = true
  unfold leS
  rw [less_asymm h, decide_eq_false fun e => less_ne h e.symm]
  rfl
theorem ord_trans {k0 : Option (List UInt8)} {k s : List UInt8} (h1 : ordOk k0 k = true) (h2 : Op.bytesLess k s = true) : ordOk k0 s = true := by
  cases k0 with
  | none => rfl
  | some q => exact less_ord (less_trans (ordOk_less h1) h2)
theorem attrOk_mk {k0 : Option (List UInt8)} {a : List UInt8 × List UInt8} (h1 : keyOk a.1 = true) (h2 : a.2.length ≤ 256) (h3 : ordOk k0 a.1 = true) : attrOk k0 a = true := by
  unfold attrOk
  rw [h1, h3, decide_eq_true (by omega)]
  rfl
theorem attrOk_parts {k0 : Option (List UInt8)} {a : List UInt8 × List UInt8} (h : attrOk k0 a = true) : keyOk a.1 = true ∧ a.2.length ≤ 256 ∧ ordOk k0 a.1 = true := by
  unfold attrOk at h
  simp only [Bool.and_eq_true, decide_eq_true_eq] at h
  exact ⟨h.1, by omega, h.2.2⟩
theorem attrsOk_weak {k0 : Option (List UInt8)} {k : List UInt8} (h : ordOk k0 k = true) : ∀ {l : AttrL}, attrsOk (some k) l = true → attrsOk k0 l = true
  | [], _ => rfl
  | a :: l, hl => by
    rw [attrsOk, Bool.and_eq_true] at hl ⊢
    obtain ⟨h1, h2, h3⟩ := attrOk_parts hl.1
    exact ⟨attrOk_mk h1 h2 (ord_trans h (ordOk_less h3)), hl.2⟩
theorem refA_true_ok (o : OpT) : ∀ {l : AttrL} {k0 : Option (List UInt8)}, attrsOk k0 l = true → attrsOk k0 (refA o true l) = true
  | [], _, _ => rfl
  | a :: l, k0, h => by
    have ih := refA_true_ok o (attrsOk_tail h)
    rw [attrsOk, Bool.and_eq_true] at h
    obtain ⟨h1, h2, h3⟩ := attrOk_parts h.1
    rw [refA]
    simp only [Bool.not_true, Bool.false_and, cond_false, List.nil_append, Bool.true_or]
    cases decide (a.1 = o.key) with
    | true => exact attrsOk_weak h3 ih
    | false =>
      show attrsOk k0 (a :: refA o true l) = true
      rw [attrsOk, h.1, ih]
      rfl
theorem refA_false_ok (o : OpT) (hk : keyOk o.key = true) (hv : o.value.length ≤ 256) : ∀ {l : AttrL} {k0 : Option (List UInt8)}, attrsOk k0 l = true → ordOk k0 o.key = true → attrsOk k0 (refA o false l) = true
  | [], k0, _, ho => by
    show attrsOk k0 [(o.key, o.value)] = true
    rw [attrsOk, attrOk_mk hk hv ho]
    rfl
  | a :: l, k0, h, ho => by
    have ht := attrsOk_tail h
    rw [attrsOk, Bool.and_eq_true] at h
    obtain ⟨h1, h2, h3⟩ := attrOk_parts h.1
    rw [refA]
    cases ha : Op.bytesLess a.1 o.key with
    | true =>
      rw [decide_eq_false (less_ne ha)]
      show attrsOk k0 (a :: refA o false l) = true
      rw [attrsOk, h.1, refA_false_ok o hk hv ht (less_ord ha)]
      rfl
    | false =>
      by_cases he : a.1 = o.key
      · rw [decide_eq_true he]
        show attrsOk k0 ((o.key, o.value) :: refA o true l) = true
        rw [attrsOk, attrOk_mk hk hv ho]
        show attrsOk (some o.key) (refA o true l) = true
        rw [← he]
        exact refA_true_ok o ht
      · rw [decide_eq_false he]
        show attrsOk k0 ((o.key, o.value) :: a :: refA o true l) = true
        have hka : Op.bytesLess o.key a.1 = true := by
          cases hk' : Op.bytesLess o.key a.1 with
          | true => rfl
          | false => exact absurd (less_tri ha hk') he
        rw [attrsOk, attrOk_mk hk hv ho, attrsOk, attrOk_mk h1 h2 (less_ord hka)]
        exact refA_true_ok o ht
theorem withAttrs_rightA {y : Tree} {a : AttrL} (hy : y.rightA = true) (ha : attrsOk none a = true) : (y.withAttrs a).rightA = true := by
  have h1 := rightA_N hy
  have h2 := rightA_subs hy
  obtain ⟨q1, q2, q3, q4⟩ := (rightN_iff y).1 h1
  obtain ⟨i, lf, b, a', c, us⟩ := y
  exact rightA_mk ((rightN_iff _).2 ⟨q1, q2, q3, ha⟩) h2
theorem setAT_rightA {o : OpT} {y : Tree} (hy : y.rightA = true) (hk : keyOk o.key = true) (hv : o.gone = true ∨ o.value.length ≤ 256) : (setAT o y).rightA = true := by
  unfold setAT
  refine withAttrs_rightA hy ?_
  rw [← attr_law o (right_attrs hy)]
  cases hg : o.gone with
  | true => exact refA_true_ok o (right_attrs hy)
  | false => exact refA_false_ok o hk (hv.resolve_left (by rw [hg]; simp)) (right_attrs hy) rfl
theorem relabel_rightA {s : List UInt8} {y : Tree} (hy : y.rightA = true) (hs : s.length ≤ 64) : (relabelT s y).rightA = true := by
  have h1 := rightA_N hy
  have h2 := rightA_subs hy
  obtain ⟨q1, q2, q3, q4⟩ := (rightN_iff y).1 h1
  obtain ⟨i, lf, b, a', c, us⟩ := y
  exact rightA_mk ((rightN_iff _).2 ⟨hs, q2, q3, q4⟩) h2
theorem retext_rightA {l : List PieceT} {y : Tree} (hy : y.rightA = true) (hl : y.leaf = true) : (retextT l y).rightA = true := by
  have h1 := rightA_N hy
  have h2 := rightA_subs hy
  obtain ⟨q1, q2, q3, q4⟩ := (rightN_iff y).1 h1
  obtain ⟨i, lf, b, a', c, us⟩ := y
  exact rightA_mk ((rightN_iff _).2 ⟨q1, q2, fun h => absurd (h.symm.trans hl) (by simp), q4⟩) h2
theorem fresh_rightA {o : OpT} (h : o.label.length ≤ 64) : (freshT o).rightA = true := by
  exact rightA_mk ((rightN_iff _).2 ⟨h, fun _ => rfl, fun _ => rfl, rfl⟩) (fun s hs => by cases hs)
/-- Where a moved node lands. -/
theorem land_of {t x z : Tree} {fr to : List Int} {at_ : Int} (hne : fr ≠ []) (hx : atT t fr = some x) (hw : within fr to = false) (hz : atT t to = some z) (h0 : 0 ≤ at_) (h1 : at_ ≤ z.subs.length) :
    ∃ z', atT (withoutT t fr) (landT fr.dropLast (lastP fr) to at_).1 = some z' ∧ 0 ≤ (landT fr.dropLast (lastP fr) to at_).2 ∧ (landT fr.dropLast (lastP fr) to at_).2 ≤ z'.subs.length ∧ z'.leaf = z.leaf ∧ z'.id = z.id := by
  obtain ⟨y, y1, y2, y3, y4⟩ := at_parent hne hx
  have hlast := lastP_eq hne
  rw [hlast] at y2 y3 y4
  have hw' : within (fr.dropLast ++ [lastP fr]) to = false := by rw [← hlast, List.dropLast_concat_getLast]; exact hw
  exact land_at2 y2 h0 fr.dropLast to t y z y1 y3 hw' hz h1
theorem without_rightA {t x : Tree} {fr : List Int} (hne : fr ≠ []) (hx : atT t fr = some x) (ht : t.rightA = true) : (withoutT t fr).rightA = true := by
  obtain ⟨y, y1, y2, y3, y4⟩ := at_parent hne hx
  exact change_rightA ht y1 (del_rightA _ (right_at ht y1))
theorem change_leaf {F : Tree → Tree} (hF : ∀ y, (F y).leaf = y.leaf) : ∀ (p : List Int) (t : Tree), (changeT F t p).leaf = t.leaf
  | [], t => hF t
  | i :: p, t => by
    rw [changeT]
    cases subT t i with
    | none => rfl
    | some s => exact withSubs_leaf _ _
theorem rightT_parts {t : Tree} (h : rightT t = true) : t.leaf = false ∧ t.rightA = true := by
  unfold rightT at h
  simpa using h
theorem right_applyT {t : Tree} {o : OpT} (h : ValidE t o = 0) : rightT (applyT t o) = true := by
  obtain ⟨hr, hf, _⟩ := valid_right h
  obtain ⟨hl, hA⟩ := rightT_parts hr
  have hins : ∀ n x, ∀ y, (insT n x y).leaf = y.leaf := fun n x y => withSubs_leaf _ _
  have hdel : ∀ n, ∀ y, (delT n y).leaf = y.leaf := fun n y => withSubs_leaf _ _
  have key : (applyT t o).leaf = t.leaf ∧ (applyT t o).rightA = true := by
    cases good_of h with
    | ins y hk hy hl h0 h1 h2 =>
      have e : applyT t o = changeT (insT o.at_ (freshT o)) t o.path := by unfold applyT; rw [hk]; rfl
      rw [e]
      exact ⟨change_leaf (hins _ _) _ _, change_rightA hA hy (ins_rightA _ (right_at hA hy) hl (fresh_rightA h2))⟩
    | del x hk hne hx =>
      have e : applyT t o = withoutT t o.path := by unfold applyT; rw [hk]; rfl
      rw [e]
      exact ⟨change_leaf (hdel _) _ _, without_rightA hne hx hA⟩
    | mov x z hk hne hx hw hz hl h0 h1 =>
      have e : applyT t o = moveT x t o := by unfold applyT; rw [hk, hx]; rfl
      obtain ⟨z', k1, k2, k3, k4, k5⟩ := land_of hne hx hw hz h0 h1
      rw [e, moveT_eq]
      have hwA := without_rightA hne hx hA
      refine ⟨(change_leaf (hins _ _) _ _).trans (change_leaf (hdel _) _ _), change_rightA hwA k1 (ins_rightA _ (right_at hwA k1) (k4.trans hl) (right_at hA hx))⟩
    | att y hk hy h1 h2 =>
      have e : applyT t o = changeT (setAT o) t o.path := by unfold applyT; rw [hk]; rfl
      rw [e]
      exact ⟨change_leaf (fun y => by cases y; rfl) _ _, change_rightA hA hy (setAT_rightA (right_at hA hy) h1 h2)⟩
    | lab y hk hy h2 =>
      have e : applyT t o = changeT (relabelT o.label) t o.path := by unfold applyT; rw [hk]; rfl
      rw [e]
      exact ⟨change_leaf (fun y => by cases y; rfl) _ _, change_rightA hA hy (relabel_rightA (right_at hA hy) h2)⟩
    | edt y hk hy hl he =>
      have e : applyT t o = changeT (retextT o.pieces) t o.path := by unfold applyT; rw [hk]; rfl
      rw [e]
      exact ⟨change_leaf (fun y => by cases y; rfl) _ _, change_rightA hA hy (retext_rightA (right_at hA hy) hl)⟩
  unfold rightT
  rw [key.1, key.2, hl]
  rfl
end Bow
/- SP16: the identities of a tree, counted, in plain Lean. -/
namespace Bow
open Go

mutual
def idsT : Tree → List Int
  | .mk i _ _ _ _ ss => i :: idsTs ss
def idsTs : List Tree → List Int
  | [] => []
  | s :: ss => idsT s ++ idsTs ss
end
theorem idsT_eq (t : Tree) : idsT t = t.id :: idsTs t.subs := by cases t; rw [idsT]; rfl
mutual
theorem idsT_len : ∀ t : Tree, (idsT t).length = t.size
  | .mk i l a b c ss => by rw [idsT, Tree.size, List.length_cons, idsTs_len ss]; omega
theorem idsTs_len : ∀ ss : List Tree, (idsTs ss).length = sizes ss
  | [] => rfl
  | s :: ss => by rw [idsTs, sizes, List.length_append, idsT_len s, idsTs_len ss]
end
theorem idsTs_append : ∀ a b : List Tree, idsTs (a ++ b) = idsTs a ++ idsTs b
  | [], b => by rw [idsTs]; rfl
  | x :: a, b => by rw [List.cons_append, idsTs, idsTs, idsTs_append a b, List.append_assoc]
/-- A measure of rows that adds up. -/
def Adds (m : List Int → Nat) : Prop := ∀ a b, m (a ++ b) = m a + m b
theorem adds_len : Adds List.length := fun _ _ => List.length_append
theorem adds_count (i : Int) : Adds (List.count i) := fun _ _ => List.count_append
section
variable {m : List Int → Nat}
theorem Adds.nil (h : Adds m) : m [] = 0 := by have := h [] []; simp at this; omega
theorem Adds.tree (h : Adds m) (t : Tree) : m (idsT t) = m [t.id] + m (idsTs t.subs) := by rw [idsT_eq, ← h]; rfl
theorem Adds.subs (h : Adds m) (t : Tree) (ss : List Tree) : m (idsT (t.withSubs ss)) + m (idsTs t.subs) = m (idsT t) + m (idsTs ss) := by
  rw [h.tree, h.tree t, withSubs_id, withSubs_subs]
  omega
theorem Adds.set (h : Adds m) {s u : Tree} : ∀ {l : List Tree} {i : Nat}, l[i]? = some s → m (idsTs (l.set i u)) + m (idsT s) = m (idsTs l) + m (idsT u)
  | [], i, q => by simp at q
  | x :: l, 0, q => by
    simp at q
    subst q
    rw [List.set_cons_zero, idsTs, idsTs, h, h]
    omega
  | x :: l, i + 1, q => by
    simp at q
    have := h.set (u := u) (l := l) q
    rw [List.set_cons_succ, idsTs, idsTs, h, h]
    omega
theorem Adds.change (h : Adds m) {F : Tree → Tree} {y : Tree} : ∀ {p : List Int} {t : Tree}, atT t p = some y → m (idsT (changeT F t p)) + m (idsT y) = m (idsT t) + m (idsT (F y))
  | [], t, q => by
    rw [atT] at q
    injection q with q
    subst q
    rw [changeT]
    omega
  | i :: p, t, q => by
    rw [atT] at q
    cases hs : subT t i with
    | none => rw [hs] at q; cases q
    | some s =>
      rw [hs] at q
      have ih := h.change (F := F) (p := p) q
      rw [changeT, hs]
      simp only
      have h1 := h.set (u := changeT F s p) (subT_some hs).2.1
      have h2 := h.subs t (t.subs.set i.toNat (changeT F s p))
      omega
theorem Adds.ins (h : Adds m) (n : Int) (x y : Tree) : m (idsT (insT n x y)) = m (idsT y) + m (idsT x) := by
  have h1 := h.subs y (y.subs.take n.toNat ++ x :: y.subs.drop n.toNat)
  have h2 : m (idsTs (y.subs.take n.toNat ++ x :: y.subs.drop n.toNat)) = m (idsTs y.subs) + m (idsT x) := by
    conv => rhs; rw [← List.take_append_drop n.toNat y.subs]
    rw [idsTs_append, idsTs_append, idsTs, h, h, h]
    omega
  unfold insT
  omega
theorem Adds.del (h : Adds m) {y x : Tree} {i : Int} (q : y.subs[i.toNat]? = some x) : m (idsT (delT i y)) + m (idsT x) = m (idsT y) := by
  have h1 := h.subs y (y.subs.take i.toNat ++ y.subs.drop (i.toNat + 1))
  have h2 : m (idsTs (y.subs.take i.toNat ++ y.subs.drop (i.toNat + 1))) + m (idsT x) = m (idsTs y.subs) := by
    have hl := lt_of_get q
    conv => rhs; rw [← List.take_append_drop i.toNat y.subs]
    rw [idsTs_append, idsTs_append, List.drop_eq_getElem_cons hl, idsTs, h, h, h]
    have : y.subs[i.toNat] = x := by rw [List.getElem?_eq_getElem hl] at q; injection q
    rw [this]
    omega
  unfold delT
  omega
theorem Adds.without (h : Adds m) {t x : Tree} {p : List Int} (hne : p ≠ []) (hx : atT t p = some x) : m (idsT (withoutT t p)) + m (idsT x) = m (idsT t) := by
  obtain ⟨y, y1, y2, y3, y4⟩ := at_parent hne hx
  rw [lastP_eq hne] at y4
  have h1 := h.change (F := delT (lastP p)) y1
  have h2 := h.del y4
  unfold withoutT
  omega
theorem Adds.same (h : Adds m) {F : Tree → Tree} {y t : Tree} {p : List Int} (hF : ∀ y, idsT (F y) = idsT y) (hy : atT t p = some y) : m (idsT (changeT F t p)) = m (idsT t) := by
  have := h.change (F := F) hy
  rw [hF] at this
  omega
theorem ids_fresh (o : OpT) : idsT (freshT o) = [o.id] := by rw [idsT_eq]; rfl
/-- What an operation takes away. -/
def goneT (t : Tree) (o : OpT) : List Int := bif decide (o.kind = 2) then (match atT t o.path with | some x => idsT x | none => []) else []
def moreT (o : OpT) : List Int := bif decide (o.kind = 1) then [o.id] else []
theorem Adds.apply (h : Adds m) {t : Tree} {o : OpT} (hv : ValidE t o = 0) : m (idsT (applyT t o)) + m (goneT t o) = m (idsT t) + m (moreT o) := by
  have h0 := h.nil
  cases good_of hv with
  | ins y hk hy hl h0 h1 h2 =>
    have e : applyT t o = changeT (insT o.at_ (freshT o)) t o.path := by unfold applyT; rw [hk]; rfl
    have e1 : goneT t o = [] := by unfold goneT; rw [hk]; rfl
    have e2 : moreT o = [o.id] := by unfold moreT; rw [hk]; rfl
    have q1 := h.change (F := insT o.at_ (freshT o)) hy
    have q2 := h.ins o.at_ (freshT o) y
    rw [ids_fresh] at q2
    rw [e, e1, e2]
    omega
  | del x hk hne hx =>
    have e : applyT t o = withoutT t o.path := by unfold applyT; rw [hk]; rfl
    have e1 : goneT t o = idsT x := by unfold goneT; rw [hk, hx]; rfl
    have e2 : moreT o = [] := by unfold moreT; rw [hk]; rfl
    have q1 := h.without hne hx
    rw [e, e1, e2]
    omega
  | mov x z hk hne hx hw hz hl h0 h1 =>
    have e : applyT t o = moveT x t o := by unfold applyT; rw [hk, hx]; rfl
    have e1 : goneT t o = [] := by unfold goneT; rw [hk]; rfl
    have e2 : moreT o = [] := by unfold moreT; rw [hk]; rfl
    obtain ⟨z', k1, k2, k3, k4, k5⟩ := land_of hne hx hw hz h0 h1
    have q1 := h.without hne hx
    have q2 := h.change (F := insT (landT o.path.dropLast (lastP o.path) o.to o.at_).2 x) k1
    have q3 := h.ins (landT o.path.dropLast (lastP o.path) o.to o.at_).2 x z'
    rw [e, e1, e2, moveT_eq]
    omega
  | att y hk hy h1 h2 =>
    have e : applyT t o = changeT (setAT o) t o.path := by unfold applyT; rw [hk]; rfl
    have e1 : goneT t o = [] := by unfold goneT; rw [hk]; rfl
    have e2 : moreT o = [] := by unfold moreT; rw [hk]; rfl
    rw [e, e1, e2, h.same (fun y => by cases y; rfl) hy]
  | lab y hk hy h2 =>
    have e : applyT t o = changeT (relabelT o.label) t o.path := by unfold applyT; rw [hk]; rfl
    have e1 : goneT t o = [] := by unfold goneT; rw [hk]; rfl
    have e2 : moreT o = [] := by unfold moreT; rw [hk]; rfl
    rw [e, e1, e2, h.same (fun y => by cases y; rfl) hy]
  | edt y hk hy hl he =>
    have e : applyT t o = changeT (retextT o.pieces) t o.path := by unfold applyT; rw [hk]; rfl
    have e1 : goneT t o = [] := by unfold goneT; rw [hk]; rfl
    have e2 : moreT o = [] := by unfold moreT; rw [hk]; rfl
    rw [e, e1, e2, h.same (fun y => by cases y; rfl) hy]
end
end Bow
/- W39: the reference's Same, IDs. -/
namespace Bow
open Go Go.Proofs

theorem attrs_take {α : Type} {xs ys : List α} {i : Nat} (h1 : i < xs.length) (h2 : i < ys.length) : (xs.drop i = ys.drop i) = (xs[i] = ys[i] ∧ xs.drop (i + 1) = ys.drop (i + 1)) := by
  rw [List.drop_eq_getElem_cons h1, List.drop_eq_getElem_cons h2, List.cons.injEq]

set_option maxRecDepth 100000 in
theorem w_refSameAttrs (xs ys : AttrL) (hl : xs.length ≤ 1000000) : Pure Tryz.prog 98 [.sl 2 (xs.map attrV), .sl 2 (ys.map attrV)] (fun x => x = .bool (decide (xs = ys))) := by
  refine pure_wk (pure_fn 300 Tryz.func98 rfl rfl rfl fun B => ?_)
  refine ⟨fun g1 => go 300 ?_, fun g1 => go 300 ?_⟩
  · have g1 := ne_of' g1
    exact ⟨trivial, rfl, rfl, rfl, leaf_ff (decide_eq_false fun e => g1 (by rw [e]))⟩
  have g1 : xs.length = ys.length := by have := eq_of' g1; simp at this; omega
  show Goes _ _ _ _
  refine goes_iter (ι := Nat) (fun i => i ≤ xs.length ∧ (xs.drop i = ys.drop i ↔ xs = ys)) (fun i => xs.length - i) (fun i => [(5, .int .i64 i), (0, .sl 2 (xs.map attrV)), (1, .sl 2 (ys.map attrV))]) (fun _ => []) 0 300 (fun _ => rfl) (fun _ => rfl) ⟨⟨Nat.zero_le _, by simp⟩, ⟨⟨rfl, rfl⟩, ⟨rfl, rfl⟩, ⟨rfl, rfl⟩, trivial⟩, trivial⟩ ?_
  rintro i ⟨k1, k2⟩ next
  refine ⟨fun hlt => go 300 ?_, fun hge => go 300 ?_⟩
  · have hi : i < xs.length := by simpa using hlt
    have hi' : i < ys.length := by omega
    have hx : (xs.map attrV)[i]? = some (attrV xs[i]) := by simp [hi]
    have hy : (ys.map attrV)[i]? = some (attrV ys[i]) := by simp [hi']
    rw [attrs_take hi hi'] at k2
    show Goes _ _ _ _
    refine goes_draw 300 ⟨Int.natCast_nonneg i, _, hx, Int.natCast_nonneg i, _, hy, ?_⟩
    refine ⟨by kernel_rfl, ?_⟩
    refine ⟨by kernel_rfl, ?_⟩
    refine ⟨fun g2 => go 300 ?_, fun g2 => go 300 ?_⟩
    · refine ⟨trivial, rfl, rfl, rfl, leaf_ff (decide_eq_false fun e => ?_)⟩
      have := (k2.2 e).1
      rw [this] at g2
      simp at g2
    · refine ⟨by constructor <;> omega, ?_⟩
      have he : xs[i] = ys[i] := by
        simp at g2
        exact Prod.ext g2.1 g2.2
      exact next (i + 1) _ _ ⟨⟨hi, by rw [← k2]; exact ⟨fun h => ⟨he, h⟩, fun h => h.2⟩⟩, by omega, ⟨⟨rfl, rfl⟩, ⟨rfl, rfl⟩, ⟨rfl, rfl⟩, trivial⟩, trivial⟩
  · have hi : i = xs.length := by have : xs.length ≤ i := by simpa using hge
                                  omega
    subst hi
    refine ⟨trivial, rfl, rfl, rfl, leaf_tt (decide_eq_true (k2.1 ?_))⟩
    rw [List.drop_eq_nil_of_le (Nat.le_refl _), List.drop_eq_nil_of_le (by omega)]

set_option maxHeartbeats 1000000 in
set_option maxRecDepth 100000 in
theorem w_refSameT (t : Tree) : ∀ u : Tree, t.weight ≤ 1000000 → Pure Tryz.prog 40 [nodeV t, nodeV u] (fun x => x = .bool (sameT true t u)) := by
  induction t using Tree.ind with
  | _ t ih =>
  intro u ht
  have hsl := subs_le_weight t
  have hal := attrs_le_weight t
  have hA := w_refSameAttrs t.attrs u.attrs (by omega)
  have e := sameT_eq true t u
  refine pure_wk (pure_fn 300 Tryz.func40 rfl rfl rfl fun B => ?_)
  repeat' first
    | (refine ⟨fun _ => go 300 ?_, fun _ => go 300 ?_⟩)
    | (show CallThen _ _ _ _ _ _; refine call_pure hA rfl ?_; rintro z rfl)
    | (refine ⟨trivial, rfl, rfl, rfl, leaf_ff ?_⟩)
    | fail
  case h.refine_2.refine_2.refine_2.refine_2.refine_2.refine_2 g1 g2 g3 g4 g5 g6 =>
    have hlen : t.subs.length = u.subs.length := by have := eq_of' g6; rw [subV_len, subV_len] at this; omega
    have e' : sameT true t u = sameTs true t.subs u.subs := by
      rw [e]
      have g1 := eq_of' g1
      simp at g2 g3 g4 g5
      simp [g1, g2, g3, g4, g5]
    show Goes _ _ _ _
    refine goes_iter (ι := Nat) (fun i => i ≤ t.subs.length ∧ sameTs true (t.subs.drop i) (u.subs.drop i) = sameTs true t.subs u.subs) (fun i => t.subs.length - i) (fun i => [(5, .int .i64 i), (2, .ptr (.loc 0) 0), (3, .ptr (.loc 1) 0)]) (fun _ => [some (.box (nodeV t).cells), some (.box (nodeV u).cells)]) 0 300 (fun _ => rfl) (fun _ => rfl) ⟨⟨Nat.zero_le _, rfl⟩, ⟨⟨rfl, rfl⟩, ⟨rfl, rfl⟩, ⟨rfl, rfl⟩, trivial⟩, ⟨⟨rfl, rfl⟩, ⟨rfl, rfl⟩, trivial⟩⟩ ?_
    rintro i ⟨k1, k2⟩ next
    refine ⟨fun hlt => go 300 ?_, fun hge => go 300 ?_⟩
    · have hi : i < t.subs.length := by simpa [subV_eq] using hlt
      have hi' : i < u.subs.length := by omega
      have hx : t.subV[i]? = some (nodeV t.subs[i]) := by simp [subV_eq, hi]
      have hy : u.subV[i]? = some (nodeV u.subs[i]) := by simp [subV_eq, hi']
      have hws := weight_sub (List.getElem_mem hi)
      rw [sameTs_at hi hi'] at k2
      show Goes _ _ _ _
      refine goes_draw 300 ⟨Int.natCast_nonneg i, _, hx, Int.natCast_nonneg i, _, hy, _, ih _ (List.getElem_mem hi) u.subs[i] (by omega), rfl, ?_⟩
      refine ⟨by kernel_rfl, ?_⟩
      refine ⟨fun g => go 300 ?_, fun g => go 300 ?_⟩
      · have g : sameT true t.subs[i] u.subs[i] = false := by simpa using g
        exact ⟨trivial, rfl, rfl, rfl, leaf_ff (by rw [e', ← k2, g]; rfl)⟩
      · have g : sameT true t.subs[i] u.subs[i] = true := by simpa using g
        rw [g, Bool.true_and] at k2
        refine ⟨by constructor <;> omega, ?_⟩
        exact next (i + 1) _ _ ⟨⟨hi, k2⟩, by omega, ⟨⟨rfl, rfl⟩, ⟨rfl, rfl⟩, ⟨rfl, rfl⟩, trivial⟩, ⟨⟨rfl, rfl⟩, ⟨rfl, rfl⟩, trivial⟩⟩
    · have hi : t.subs.length ≤ i := by simpa [subV_eq] using hge
      rw [List.drop_eq_nil_of_le hi, List.drop_eq_nil_of_le (by omega), sameTs] at k2
      exact ⟨trivial, rfl, rfl, rfl, leaf_tt (by rw [e', ← k2])⟩
  case h.refine_2.refine_2.refine_2.refine_2.refine_2.refine_1 g1 g2 g3 g4 g5 g6 =>
    have g6 := ne_of' g6
    rw [subV_len, subV_len] at g6
    cases h : sameT true t u with
    | false => rfl
    | true =>
      rw [e] at h
      simp only [Bool.and_eq_true] at h
      exact absurd (congrArg Nat.cast (sameTs_len h.2.2.2.2.2)) g6
  all_goals (rw [e]; simp_all)

theorem idsTs_drop {ss : List Tree} {i : Nat} (h : i < ss.length) : idsTs (ss.drop i) = idsT ss[i] ++ idsTs (ss.drop (i + 1)) := by
  rw [List.drop_eq_getElem_cons h, idsTs]
def idV (i : Int) : V := .int .u64 i
def idsV (l : List Int) : V := .sl 1 (l.map idV)
set_option maxRecDepth 100000 in
theorem w_refIDs (t : Tree) : t.weight ≤ 1000000 → Pure Tryz.prog 36 [nodeV t] (fun x => x = idsV (idsT t)) := by
  induction t using Tree.ind with
  | _ t ih =>
  intro ht
  have hsl := subs_le_weight t
  have hsz := size_le_weight t
  have hil := idsT_len t
  refine pure_fn 300 Tryz.func36 rfl rfl rfl fun B => ?_
  refine ⟨⟨rfl, trivial⟩, ?_⟩
  show Goes _ _ _ _
  refine goes_iter (ι := Nat × Nat × Nat × List V) (fun i => i.1 ≤ t.subs.length ∧ ∃ acc : List Int, i.2.2.2 = acc.map idV ∧ i.2.2.1 = acc.length ∧ acc ++ idsTs (t.subs.drop i.1) = idsT t) (fun i => t.subs.length - i.1)
    (fun i => [(4, .int .i64 i.1), (3, .osl (.loc 1) i.2.1 0 i.2.2.1), (1, .ptr (.loc 0) 0)]) (fun i => [some (.box (nodeV t).cells), some (.vec i.2.1 1 i.2.2.2)]) (0, 0, 1, [idV t.id]) 300 (fun _ => rfl) (fun _ => rfl) ⟨⟨Nat.zero_le _, [t.id], rfl, rfl, by rw [idsT_eq]; rfl⟩, ⟨⟨rfl, rfl⟩, ⟨rfl, rfl⟩, ⟨rfl, rfl⟩, trivial⟩, ⟨⟨rfl, rfl⟩, ⟨rfl, rfl⟩, trivial⟩⟩ ?_
  rintro ⟨i, g, n, xs⟩ ⟨k1, acc, rfl, rfl, k2⟩ next
  simp only at k1 k2
  refine ⟨fun hlt => go 300 ?_, fun hge => go 300 ?_⟩
  · have hi : i < t.subs.length := by simpa [subV_eq] using hlt
    have hx : t.subV[i]? = some (nodeV t.subs[i]) := by simp [subV_eq, hi]
    have hws := weight_sub (List.getElem_mem hi)
    rw [idsTs_drop hi] at k2
    have hlen := congrArg List.length k2
    simp only [List.length_append] at hlen
    refine ⟨Int.natCast_nonneg i, _, hx, ?_⟩
    show CallThen _ _ _ _ _ _
    refine call_pure (ih _ (List.getElem_mem hi) (by omega)) rfl ?_
    rintro x rfl
    refine ⟨rfl, by simp, room_of (by simp; omega) (by decide), ?_⟩
    refine ⟨by constructor <;> omega, ?_⟩
    show Goes _ _ _ _
    refine next (i + 1, bump g, _, _) _ _ ⟨⟨hi, acc ++ idsT t.subs[i], ?_, ?_, ?_⟩, ?_, ⟨⟨rfl, rfl⟩, ⟨rfl, rfl⟩, ⟨rfl, rfl⟩, trivial⟩, ⟨⟨rfl, rfl⟩, ⟨rfl, rfl⟩, trivial⟩⟩
    · simp
    · simp
    · simpa using k2
    · simp only; omega
  · have hi : t.subs.length ≤ i := by simpa [subV_eq] using hge
    rw [List.drop_eq_nil_of_le hi, idsTs, List.append_nil] at k2
    subst k2
    exact ⟨trivial, rfl, rfl, rfl, by simp, rfl, rfl⟩
end Bow
/- SP17: a list of operations, in plain Lean. -/
namespace Bow
open Go

def zeroT0 : Tree := .mk 0 false [] [] [] []
def allR : Tree → List OpT → Nat → Tree × Nat × Int
  | t, [], i => (t, i, 0)
  | t, o :: l, i => bif decide (ValidE t o = 0) then allR (applyT t o) l (i + 1) else (zeroT0, i, ValidE t o)
def AllR (t : Tree) (l : List OpT) : Tree × Nat × Int := bif rightT t then allR t l 0 else (zeroT0, 0, 2)
def costs : List OpT → Nat
  | [] => 0
  | o :: l => costO o + costs l
theorem zero_weight : zeroT0.weight = 1 := by
  have := weight_eq zeroT0
  simp [attrLen, weights, Tree.label, Tree.text, Tree.attrs, Tree.subs, zeroT0] at this
  exact this
theorem weight_pos (t : Tree) : 1 ≤ t.weight := by rw [weight_eq]; omega
theorem allR_weight : ∀ (l : List OpT) (t : Tree) (i : Nat), (allR t l i).1.weight ≤ t.weight + costs l
  | [], t, i => by rw [allR, costs]; simp
  | o :: l, t, i => by
    rw [allR, costs]
    by_cases h : ValidE t o = 0
    · rw [decide_eq_true h]
      have := allR_weight l (applyT t o) (i + 1)
      have := applyT_weight h
      simp only [cond_true]
      omega
    · rw [decide_eq_false h]
      have := zero_weight
      have := weight_pos t
      simp only [cond_false]
      omega
theorem AllR_weight (t : Tree) (l : List OpT) : (AllR t l).1.weight ≤ t.weight + costs l := by
  unfold AllR
  cases rightT t with
  | true => exact allR_weight l t 0
  | false =>
    have := zero_weight
    have := weight_pos t
    simp only [cond_false]
    omega
theorem valid_of_right {t : Tree} (h : rightT t = true) (o : OpT) : ValidE t o = bif !formedB o then 80 else validE t o := by
  unfold ValidE
  rw [h]
  rfl
theorem costs_le {n k : Nat} : ∀ {l : List OpT}, l.length ≤ k → (∀ o ∈ l, costO o ≤ n) → costs l ≤ k * n
  | [], _, _ => Nat.zero_le _
  | o :: l, hk, h => by
    obtain ⟨k', rfl⟩ : ∃ k', k = k' + 1 := ⟨k - 1, by simp at hk; omega⟩
    have := costs_le (n := n) (k := k') (l := l) (by simpa using hk) fun o' ho => h o' (List.mem_cons_of_mem _ ho)
    have := h o List.mem_cons_self
    rw [costs, Nat.succ_mul]
    omega
end Bow
/- W43a: ApplyAll, the program's and the reference's. -/
namespace Bow
open Go Go.Proofs

def AllV (r : Tree × Nat × Int) : V := .tup [nodeV r.1, .int .i64 r.2.1, .int .i64 r.2.2]
theorem allZ (i : Nat) (e : Int) : ∃ y, Wk (.tup [zeroV .nilsl, .int .i64 i, .int .i64 e]) y ∧ y.pureB = true ∧ y = AllV (zeroT0, i, e) :=
  ⟨_, Wk.tup (ys := [nodeV zeroT0, .int .i64 i, .int .i64 e]) ⟨wk_zero (ss := []) (Wk.nil 6), .refl _, .refl _, trivial⟩, rfl, rfl⟩

set_option maxHeartbeats 1000000 in
set_option maxRecDepth 100000 in
theorem w_refApplyAll (t : Tree) (l : List OpT) (hw : t.weight + costs l ≤ 400000) (hl : l.length ≤ 1000000) (hok : ∀ o ∈ l, o.Ok) : Pure Tryz.prog 66 [nodeV t, opsV l] (fun x => x = AllV (AllR t l)) := by
  refine pure_wk (pure_fn 300 Tryz.func66 rfl rfl rfl fun B => ?_)
  show CallThen _ _ _ _ _ _
  refine call_pure (w_refRightT t (by omega)) rfl ?_
  rintro x rfl
  refine ⟨fun g => go 300 ?_, fun g => go 300 ?_⟩
  · have hr : rightT t = false := by simpa using g
    refine ⟨trivial, rfl, rfl, rfl, ?_⟩
    have e : AllR t l = (zeroT0, 0, 2) := by unfold AllR; rw [hr]; rfl
    rw [e]
    exact allZ 0 2
  have hr : rightT t = true := by simpa using g
  have e : AllR t l = allR t l 0 := by unfold AllR; rw [hr]; rfl
  rw [e]
  show Goes _ _ _ _
  refine goes_iter (ι := Nat × Tree) (fun i => i.1 ≤ l.length ∧ rightT i.2 = true ∧ i.2.weight + costs (l.drop i.1) ≤ 400000 ∧ allR i.2 (l.drop i.1) i.1 = allR t l 0) (fun i => l.length - i.1)
    (fun i => [(7, .int .i64 i.1), (1, opsV l), (2, .ptr (.loc 0) 0), (4, .ptr (.loc 1) 0)]) (fun i => [some (.box (nodeV i.2).cells), some (.box (zeroV .nilsl).cells)]) (0, t) 300 (fun _ => rfl) (fun _ => rfl) ⟨⟨Nat.zero_le _, hr, hw, rfl⟩, ⟨⟨rfl, rfl⟩, ⟨rfl, rfl⟩, ⟨rfl, rfl⟩, ⟨rfl, rfl⟩, trivial⟩, ⟨⟨rfl, rfl⟩, ⟨rfl, rfl⟩, trivial⟩⟩ ?_
  rintro ⟨i, u⟩ ⟨k1, k2, k3, k4⟩ next
  simp only at k1 k2 k3 k4
  refine ⟨fun hlt => go 300 ?_, fun hge => go 300 ?_⟩
  · have hi : i < l.length := by simpa using hlt
    have hx : (l.map opV)[i]? = some (opV l[i]) := by simp [hi]
    rw [List.drop_eq_getElem_cons hi, allR] at k4
    rw [List.drop_eq_getElem_cons hi, costs] at k3
    have hap := w_refApply u l[i] (by omega) (hok _ (List.getElem_mem hi))
    show Goes _ _ _ _
    refine goes_draw 300 ⟨Int.natCast_nonneg i, _, hx, _, hap, rfl, ?_⟩
    refine ⟨by kernel_rfl, ?_⟩
    refine ⟨by kernel_rfl, ?_⟩
    by_cases hv : ValidE u l[i] = 0
    · have e : applyR u l[i] = (applyT u l[i], 0) := by unfold applyR; rw [decide_eq_true hv]; rfl
      rw [decide_eq_true hv] at k4
      have hwt := applyT_weight hv
      rw [e]
      refine ⟨fun g => absurd rfl (ne_of' g), fun _ => go 300 ?_⟩
      refine ⟨by constructor <;> omega, ?_⟩
      show Goes _ _ _ _
      exact next (i + 1, applyT u l[i]) _ _ ⟨⟨hi, right_applyT hv, by simp only; omega, k4⟩, by simp only; omega, ⟨⟨rfl, rfl⟩, ⟨rfl, rfl⟩, ⟨rfl, rfl⟩, ⟨rfl, rfl⟩, trivial⟩, ⟨⟨rfl, rfl⟩, ⟨rfl, rfl⟩, trivial⟩⟩
    · have e : applyR u l[i] = (zeroT [], ValidE u l[i]) := by unfold applyR; rw [decide_eq_false hv]; rfl
      rw [decide_eq_false hv] at k4
      rw [e]
      refine ⟨fun _ => go 300 ?_, fun g => absurd (eq_of' g) hv⟩
      refine ⟨trivial, rfl, rfl, rfl, ?_⟩
      rw [← k4]
      exact allZ i (ValidE u l[i])
  · have hi : i = l.length := by have := not_lt_of hge; simp at this; omega
    subst hi
    rw [List.drop_length, allR] at k4
    refine ⟨trivial, rfl, rfl, rfl, ?_⟩
    rw [← k4]
    exact ⟨_, Wk.refl _, rfl, by simp [AllV]; rfl⟩

set_option maxHeartbeats 1000000 in
set_option maxRecDepth 100000 in
theorem w_ApplyAll (t : Tree) (l : List OpT) (hw : t.weight + costs l ≤ 400000) (hl : l.length ≤ 1000000) (hok : ∀ o ∈ l, o.Ok) : Pure Tryz.prog 65 [nodeV t, opsV l] (fun x => x = AllV (AllR t l)) := by
  refine pure_wk (pure_fn 300 Tryz.func65 rfl rfl rfl fun B => ?_)
  show CallThen _ _ _ _ _ _
  refine call_pure (w_RightT t (by omega)) rfl ?_
  rintro x rfl
  refine ⟨fun g => go 300 ?_, fun g => go 300 ?_⟩
  · have hr : rightT t = false := by simpa using g
    refine ⟨trivial, rfl, rfl, rfl, ?_⟩
    have e : AllR t l = (zeroT0, 0, 2) := by unfold AllR; rw [hr]; rfl
    rw [e]
    exact allZ 0 2
  have hr : rightT t = true := by simpa using g
  have e : AllR t l = allR t l 0 := by unfold AllR; rw [hr]; rfl
  rw [e]
  show Goes _ _ _ _
  refine goes_iter (ι := Nat × Tree) (fun i => i.1 ≤ l.length ∧ rightT i.2 = true ∧ i.2.weight + costs (l.drop i.1) ≤ 400000 ∧ allR i.2 (l.drop i.1) i.1 = allR t l 0) (fun i => l.length - i.1)
    (fun i => [(16, .int .i64 i.1), (15, .int .i64 (l.map opV).length), (14, opsV l), (1, opsV l), (2, .ptr (.loc 0) 0), (4, .ptr (.loc 1) 0)]) (fun i => [some (.box (nodeV i.2).cells), some (.box (zeroV .nilsl).cells)]) (0, t) 300 (fun _ => rfl) (fun _ => rfl) ⟨⟨Nat.zero_le _, hr, hw, rfl⟩, ⟨⟨rfl, rfl⟩, ⟨rfl, rfl⟩, ⟨rfl, rfl⟩, ⟨rfl, rfl⟩, ⟨rfl, rfl⟩, ⟨rfl, rfl⟩, trivial⟩, ⟨⟨rfl, rfl⟩, ⟨rfl, rfl⟩, trivial⟩⟩ ?_
  rintro ⟨i, u⟩ ⟨k1, k2, k3, k4⟩ next
  simp only at k1 k2 k3 k4
  refine ⟨fun hlt => go 300 ?_, fun hge => go 300 ?_⟩
  · have hi : i < l.length := by simpa using hlt
    have hx : (l.map opV)[i]? = some (opV l[i]) := by simp [hi]
    have ho := hok _ (List.getElem_mem hi)
    have hvr := valid_of_right k2 l[i]
    rw [List.drop_eq_getElem_cons hi, allR] at k4
    rw [List.drop_eq_getElem_cons hi, costs] at k3
    refine ⟨Int.natCast_nonneg i, _, hx, ?_⟩
    show CallThen _ _ _ _ _ _
    refine call_pure (w_Formed l[i] ho.lt ho.each) rfl ?_
    rintro x rfl
    refine ⟨fun g => go 300 ?_, fun g => go 300 ?_⟩
    · rw [g] at hvr
      have hvr : ValidE u l[i] = validE u l[i] := hvr
      show CallThen _ _ _ _ _ _
      refine call_pure (w_valid u l[i] (by omega) ho) rfl ?_
      rintro x rfl
      rw [← hvr]
      by_cases hv : ValidE u l[i] = 0
      · rw [decide_eq_true hv] at k4
        have hwt := applyT_weight hv
        refine ⟨fun g => absurd hv (ne_of' g), fun _ => go 300 ?_⟩
        show CallThen _ _ _ _ _ _
        refine call_pure (w_applyT u l[i] (by omega) ho hv) rfl ?_
        rintro x rfl
        refine ⟨by constructor <;> omega, ?_⟩
        show Goes _ _ _ _
        exact next (i + 1, applyT u l[i]) _ _ ⟨⟨hi, right_applyT hv, by simp only; omega, k4⟩, by simp only; omega, ⟨⟨rfl, rfl⟩, ⟨rfl, rfl⟩, ⟨rfl, rfl⟩, ⟨rfl, rfl⟩, ⟨rfl, rfl⟩, ⟨rfl, rfl⟩, trivial⟩, ⟨⟨rfl, rfl⟩, ⟨rfl, rfl⟩, trivial⟩⟩
      · rw [decide_eq_false hv] at k4
        refine ⟨fun _ => go 300 ?_, fun g => absurd (eq_of' g) hv⟩
        refine ⟨trivial, rfl, rfl, rfl, ?_⟩
        rw [← k4]
        exact allZ i (ValidE u l[i])
    · rw [g] at hvr
      have hvr : ValidE u l[i] = 80 := hvr
      rw [hvr] at k4
      refine ⟨fun _ => go 300 ?_, fun g => absurd (eq_of' g) (by decide)⟩
      refine ⟨trivial, rfl, rfl, rfl, ?_⟩
      rw [← k4]
      exact allZ i 80
  · have hi : i = l.length := by have := not_lt_of hge; simp at this; omega
    subst hi
    rw [List.drop_length, allR] at k4
    refine ⟨trivial, rfl, rfl, rfl, ?_⟩
    rw [← k4]
    exact ⟨_, Wk.refl _, rfl, by simp [AllV]; rfl⟩

end Bow
/- W49: where nodes are behind an operation: shift.moves, of, number, land. -/
namespace Bow
open Go Go.Proofs

end Bow
/- W50: where a node is behind an operation: shift.Node. -/
namespace Bow
open Go Go.Proofs

end Bow
/- W51: shift.Node, all; Gap; Undo. -/
namespace Bow
open Go Go.Proofs

end Bow
/- W52: shift.Gap, Undo; square.sound, drop, shifted, won. -/
namespace Bow
open Go Go.Proofs

end Bow
/- W53: square.row (but for two edits), Behind, Both. -/
namespace Bow
open Go Go.Proofs

end Bow
/- W54: square.Behind, Both (but for two edits of one leaf). -/
namespace Bow
open Go Go.Proofs

end Bow
/- W55: leaftext's maker of a normal edit; norm. -/
namespace Bow
open Go Go.Proofs

end Bow
/- W56: leaftext's rows. -/
namespace Bow
open Go Go.Proofs

end Bow
/- W57: leaftext's rows go on; what is done. -/
namespace Bow
open Go Go.Proofs

end Bow
/- W58: leaftext.Transform. -/
namespace Bow
open Go Go.Proofs

end Bow
/- W59: leaftext.Transform, whole. -/
namespace Bow
open Go Go.Proofs

end Bow
/- W60: two edits of one leaf; square.Behind and Both, whole. -/
namespace Bow
open Go Go.Proofs

end Bow
/- SP20: a bare operation does what it did, in plain Lean. -/
namespace Bow
open Go

theorem bare1 {o : OpT} (h : o.kind = 1) : bareO o = { noOp 1 with path := o.path, at_ := o.at_, id := o.id, leaf := o.leaf, label := o.label } := by unfold bareO; rw [h]; rfl
theorem bare2 {o : OpT} (h : o.kind = 2) : bareO o = { noOp 2 with path := o.path } := by unfold bareO; rw [h]; rfl
theorem bare3 {o : OpT} (h : o.kind = 3) : bareO o = { noOp 3 with path := o.path, at_ := o.at_, to := o.to } := by unfold bareO; rw [h]; rfl
theorem bare4 {o : OpT} (h : o.kind = 4) : bareO o = { noOp 4 with path := o.path, key := o.key, gone := o.gone, value := bif o.gone then [] else o.value } := by unfold bareO; rw [h]; rfl
theorem bare5 {o : OpT} (h : o.kind = 5) : bareO o = { noOp 5 with path := o.path, label := o.label } := by unfold bareO; rw [h]; rfl
theorem bare6 {o : OpT} (h : o.kind = 6) : bareO o = { noOp 6 with path := o.path, pieces := o.pieces } := by unfold bareO; rw [h]; rfl
theorem bare_none {o : OpT} (h1 : o.kind ≠ 1) (h2 : o.kind ≠ 2) (h3 : o.kind ≠ 3) (h4 : o.kind ≠ 4) (h5 : o.kind ≠ 5) (h6 : o.kind ≠ 6) : bareO o = noOp o.kind := by
  have e1 : (o.kind == 1) = false := by simpa using h1
  have e2 : (o.kind == 2) = false := by simpa using h2
  have e3 : (o.kind == 3) = false := by simpa using h3
  have e4 : (o.kind == 4) = false := by simpa using h4
  have e5 : (o.kind == 5) = false := by simpa using h5
  have e6 : (o.kind == 6) = false := by simpa using h6
  unfold bareO
  rw [e1, e2, e3, e4, e5, e6]
  rfl
theorem bare0 {o : OpT} (h1 : o.kind ≠ 1) (h2 : o.kind ≠ 2) (h3 : o.kind ≠ 3) (h4 : o.kind ≠ 4) (h5 : o.kind ≠ 5) (h6 : o.kind ≠ 6) : formedB o = false ∧ formedB (bareO o) = false := by
  have e : (bareO o).kind = o.kind := by rw [bare_none h1 h2 h3 h4 h5 h6]; rfl
  constructor
  · unfold formedB
    simp [h1, h2, h3, h4, h5, h6]
  · unfold formedB
    rw [e]
    simp [h1, h2, h3, h4, h5, h6]
theorem kinds (o : OpT) : o.kind = 1 ∨ o.kind = 2 ∨ o.kind = 3 ∨ o.kind = 4 ∨ o.kind = 5 ∨ o.kind = 6 ∨ (o.kind ≠ 1 ∧ o.kind ≠ 2 ∧ o.kind ≠ 3 ∧ o.kind ≠ 4 ∧ o.kind ≠ 5 ∧ o.kind ≠ 6) := by omega
theorem bare_bare (o : OpT) : bareO (bareO o) = bareO o := by
  rcases kinds o with h | h | h | h | h | h | ⟨h1, h2, h3, h4, h5, h6⟩
  · rw [bare1 h]; rfl
  · rw [bare2 h]; rfl
  · rw [bare3 h]; rfl
  · rw [bare4 h]
    cases o.gone <;> rfl
  · rw [bare5 h]; rfl
  · rw [bare6 h]; rfl
  · rw [bare_none h1 h2 h3 h4 h5 h6, bare_none (o := noOp o.kind) h1 h2 h3 h4 h5 h6]
    rfl
theorem bare_formed (o : OpT) : formedB (bareO o) = formedB o := by
  rcases kinds o with h | h | h | h | h | h | ⟨h1, h2, h3, h4, h5, h6⟩
  · rw [bare1 h]; unfold formedB; rw [h]; rfl
  · rw [bare2 h]; unfold formedB; rw [h]; rfl
  · rw [bare3 h]; unfold formedB; rw [h]; rfl
  · rw [bare4 h]
    unfold formedB
    rw [h]
    cases o.gone <;> rfl
  · rw [bare5 h]; unfold formedB; rw [h]; rfl
  · rw [bare6 h]; unfold formedB; rw [h]; rfl
  · obtain ⟨q1, q2⟩ := bare0 h1 h2 h3 h4 h5 h6
    rw [q1, q2]
theorem bare_valid (t : Tree) (o : OpT) : ValidE t (bareO o) = ValidE t o := by
  unfold ValidE
  rw [bare_formed]
  rcases kinds o with h | h | h | h | h | h | ⟨h1, h2, h3, h4, h5, h6⟩
  · rw [bare1 h]; unfold validE; rw [h]; rfl
  · rw [bare2 h]; unfold validE; rw [h]; rfl
  · rw [bare3 h]; unfold validE; rw [h]; rfl
  · rw [bare4 h]; unfold validE; rw [h]; rfl
  · rw [bare5 h]; unfold validE; rw [h]; rfl
  · rw [bare6 h]; unfold validE; rw [h]; rfl
  · obtain ⟨q1, q2⟩ := bare0 h1 h2 h3 h4 h5 h6
    rw [q1]
    rfl
theorem bare_apply {t : Tree} {o : OpT} (hv : ValidE t o = 0) : applyT t (bareO o) = applyT t o := by
  have hf := (valid_right hv).2.1
  rcases kinds o with h | h | h | h | h | h | ⟨h1, h2, h3, h4, h5, h6⟩
  · rw [bare1 h]; unfold applyT; rw [h]; rfl
  · rw [bare2 h]; unfold applyT; rw [h]; rfl
  · rw [bare3 h]; unfold applyT; rw [h]; rfl
  · have e : ∀ y, setAT (bareO o) y = setAT o y := fun y => by
      rw [bare4 h]
      unfold setAT setA midA
      show y.withAttrs (y.attrs.take (posK o.key y.attrs) ++ ((bif o.gone then [] else [(o.key, bif o.gone then [] else o.value)]) ++ y.attrs.drop (posK o.key y.attrs + (bif hasK o.key y.attrs then 1 else 0)))) = _
      cases o.gone <;> rfl
    have e1 : applyT t (bareO o) = changeT (setAT (bareO o)) t o.path := by rw [bare4 h]; unfold applyT; rfl
    have e2 : applyT t o = changeT (setAT o) t o.path := by unfold applyT; rw [h]; rfl
    rw [e1, e2, funext e]
  · rw [bare5 h]; unfold applyT; rw [h]; rfl
  · rw [bare6 h]; unfold applyT; rw [h]; rfl
  · rw [(bare0 h1 h2 h3 h4 h5 h6).1] at hf
    cases hf
theorem bare_applyR (t : Tree) (o : OpT) : applyR t (bareO o) = applyR t o := by
  unfold applyR
  rw [bare_valid]
  by_cases h : ValidE t o = 0
  · rw [decide_eq_true h, bare_apply h]
  · rw [decide_eq_false h]
    rfl
end Bow
/- W48: operations that say the same. -/
namespace Bow
open Go Go.Proofs

set_option maxRecDepth 100000 in
theorem w_refSamePieces (xs ys : List PieceT) (hl : xs.length ≤ 1000000) : Pure Tryz.prog 99 [piecesV xs, piecesV ys] (fun x => x = .bool (decide (xs = ys))) := by
  refine pure_wk (pure_fn 300 Tryz.func99 rfl rfl rfl fun B => ?_)
  refine ⟨fun g1 => go 300 ?_, fun g1 => go 300 ?_⟩
  · have g1 := ne_of' g1
    exact ⟨trivial, rfl, rfl, rfl, leaf_ff (decide_eq_false fun e => g1 (by rw [e]))⟩
  have g1 : xs.length = ys.length := by have := eq_of' g1; simp at this; omega
  show Goes _ _ _ _
  refine goes_iter (ι := Nat) (fun i => i ≤ xs.length ∧ (xs.drop i = ys.drop i ↔ xs = ys)) (fun i => xs.length - i) (fun i => [(5, .int .i64 i), (0, piecesV xs), (1, piecesV ys)]) (fun _ => []) 0 300 (fun _ => rfl) (fun _ => rfl) ⟨⟨Nat.zero_le _, by simp⟩, ⟨⟨rfl, rfl⟩, ⟨rfl, rfl⟩, ⟨rfl, rfl⟩, trivial⟩, trivial⟩ ?_
  rintro i ⟨k1, k2⟩ next
  refine ⟨fun hlt => go 300 ?_, fun hge => go 300 ?_⟩
  · have hi : i < xs.length := by simpa using hlt
    have hi' : i < ys.length := by omega
    have hx : (xs.map pieceV)[i]? = some (pieceV xs[i]) := by simp [hi]
    have hy : (ys.map pieceV)[i]? = some (pieceV ys[i]) := by simp [hi']
    rw [attrs_take hi hi'] at k2
    show Goes _ _ _ _
    refine goes_draw 300 ⟨Int.natCast_nonneg i, _, hx, Int.natCast_nonneg i, _, hy, ?_⟩
    refine ⟨by kernel_rfl, ?_⟩
    refine ⟨by kernel_rfl, ?_⟩
    refine ⟨fun g2 => go 300 ?_, fun g2 => go 300 ?_⟩
    · refine ⟨trivial, rfl, rfl, rfl, leaf_ff (decide_eq_false fun e => ?_)⟩
      have := (k2.2 e).1
      rw [this] at g2
      simp at g2
    · refine ⟨by constructor <;> omega, ?_⟩
      have he : xs[i] = ys[i] := by
        simp at g2
        exact PieceT.ext g2.1 g2.2.1 g2.2.2
      exact next (i + 1) _ _ ⟨⟨hi, by rw [← k2]; exact ⟨fun h => ⟨he, h⟩, fun h => h.2⟩⟩, by omega, ⟨⟨rfl, rfl⟩, ⟨rfl, rfl⟩, ⟨rfl, rfl⟩, trivial⟩, trivial⟩
  · have hi : i = xs.length := by have : xs.length ≤ i := by simpa using hge
                                  omega
    subst hi
    refine ⟨trivial, rfl, rfl, rfl, leaf_tt (decide_eq_true (k2.1 ?_))⟩
    rw [List.drop_eq_nil_of_le (Nat.le_refl _), List.drop_eq_nil_of_le (by omega)]

set_option maxRecDepth 100000 in
theorem w_kitSamePieces (xs ys : List PieceT) (hl : xs.length ≤ 1000000) : Pure Tryz.prog 62 [piecesV xs, piecesV ys] (fun x => x = .bool (decide (xs = ys))) := by
  refine pure_wk (pure_fn 300 Tryz.func62 rfl rfl rfl fun B => ?_)
  refine ⟨fun g1 => go 300 ?_, fun g1 => go 300 ?_⟩
  · have g1 := ne_of' g1
    exact ⟨trivial, rfl, rfl, rfl, leaf_ff (decide_eq_false fun e => g1 (by rw [e]))⟩
  have g1 : xs.length = ys.length := by have := eq_of' g1; simp at this; omega
  show Goes _ _ _ _
  refine goes_iter (ι := Nat) (fun i => i ≤ xs.length ∧ (xs.drop i = ys.drop i ↔ xs = ys)) (fun i => xs.length - i) (fun i => [(5, .int .i64 i), (0, piecesV xs), (1, piecesV ys)]) (fun _ => []) 0 300 (fun _ => rfl) (fun _ => rfl) ⟨⟨Nat.zero_le _, by simp⟩, ⟨⟨rfl, rfl⟩, ⟨rfl, rfl⟩, ⟨rfl, rfl⟩, trivial⟩, trivial⟩ ?_
  rintro i ⟨k1, k2⟩ next
  refine ⟨fun hlt => go 300 ?_, fun hge => go 300 ?_⟩
  · have hi : i < xs.length := by simpa using hlt
    have hi' : i < ys.length := by omega
    have hx : (xs.map pieceV)[i]? = some (pieceV xs[i]) := by simp [hi]
    have hy : (ys.map pieceV)[i]? = some (pieceV ys[i]) := by simp [hi']
    rw [attrs_take hi hi'] at k2
    show Goes _ _ _ _
    refine goes_draw 300 ⟨Int.natCast_nonneg i, _, hx, Int.natCast_nonneg i, _, hy, ?_⟩
    refine ⟨by kernel_rfl, ?_⟩
    refine ⟨by kernel_rfl, ?_⟩
    refine ⟨fun g2 => go 300 ?_, fun g2 => go 300 ?_⟩
    · refine ⟨trivial, rfl, rfl, rfl, leaf_ff (decide_eq_false fun e => ?_)⟩
      have := (k2.2 e).1
      rw [this] at g2
      simp at g2
    · refine ⟨by constructor <;> omega, ?_⟩
      have he : xs[i] = ys[i] := by
        simp at g2
        exact PieceT.ext g2.1 g2.2.1 g2.2.2
      exact next (i + 1) _ _ ⟨⟨hi, by rw [← k2]; exact ⟨fun h => ⟨he, h⟩, fun h => h.2⟩⟩, by omega, ⟨⟨rfl, rfl⟩, ⟨rfl, rfl⟩, ⟨rfl, rfl⟩, trivial⟩, trivial⟩
  · have hi : i = xs.length := by have : xs.length ≤ i := by simpa using hge
                                  omega
    subst hi
    refine ⟨trivial, rfl, rfl, rfl, leaf_tt (decide_eq_true (k2.1 ?_))⟩
    rw [List.drop_eq_nil_of_le (Nat.le_refl _), List.drop_eq_nil_of_le (by omega)]

def eqO (x y : OpT) : Bool := decide (x.kind = y.kind) && (decide (x.path = y.path) && (decide (x.at_ = y.at_) && (decide (x.to = y.to) && (decide (x.id = y.id) && ((x.leaf == y.leaf) && (decide (x.label = y.label) && (decide (x.key = y.key) && (decide (x.value = y.value) && ((x.gone == y.gone) && decide (x.pieces = y.pieces))))))))))
theorem eqO_refl (x : OpT) : eqO x x = true := by simp [eqO]
def sameO (a b : OpT) : Bool := eqO (bareO a) (bareO b)
set_option maxHeartbeats 2000000 in
set_option maxRecDepth 100000 in
theorem w_SameO (a b : OpT) (ha : a.Lt 1000000) (hb : b.Lt 1000000) : Pure Tryz.prog 63 [opV a, opV b] (fun x => x = .bool (sameO a b)) := by
  have la := bare_lt ha
  have h1 := w_pathSame (bareO a).path (bareO b).path la.path
  have h2 := w_pathSame (bareO a).to (bareO b).to la.to
  have h3 := w_EqualPiece (bareO a).pieces (bareO b).pieces la.pieces
  refine pure_wk (pure_fn 300 Tryz.func63 rfl rfl rfl fun B => ?_)
  show Goes _ _ _ _
  refine goes_draw 300 ⟨_, w_Bare a ha, rfl, _, w_Bare b hb, rfl, ?_⟩
  refine ⟨by kernel_rfl, ?_⟩
  repeat' first
    | (refine ⟨fun _ => go 300 ?_, fun _ => go 300 ?_⟩)
    | (show CallThen _ _ _ _ _ _; refine call_pure h1 rfl ?_; rintro z rfl)
    | (show CallThen _ _ _ _ _ _; refine call_pure h2 rfl ?_; rintro z rfl)
    | (show CallThen _ _ _ _ _ _; refine call_pure h3 rfl ?_; rintro z rfl)
    | (refine ⟨trivial, rfl, rfl, rfl, leaf_ff ?_⟩)
    | (refine ⟨trivial, rfl, rfl, rfl, leaf_b ?_⟩)
    | fail
  all_goals (unfold sameO eqO; simp_all)

set_option maxHeartbeats 2000000 in
set_option maxRecDepth 100000 in
theorem w_refSameO (a b : OpT) (ha : a.Lt 1000000) (hb : b.Lt 1000000) : Pure Tryz.prog 41 [opV a, opV b] (fun x => x = .bool (sameO a b)) := by
  have la := bare_lt ha
  have h1 := w_refSame (bareO a).path (bareO b).path la.path
  have h2 := w_refSame (bareO a).to (bareO b).to la.to
  have h3 := w_refSamePieces (bareO a).pieces (bareO b).pieces la.pieces
  refine pure_wk (pure_fn 300 Tryz.func41 rfl rfl rfl fun B => ?_)
  show CallThen _ _ _ _ _ _
  refine call_pure (w_refBare a ha) rfl ?_
  rintro z rfl
  show CallThen _ _ _ _ _ _
  refine call_pure (w_refBare b hb) rfl ?_
  rintro z rfl
  repeat' first
    | (refine ⟨fun _ => go 300 ?_, fun _ => go 300 ?_⟩)
    | (show CallThen _ _ _ _ _ _; refine call_pure h1 rfl ?_; rintro z rfl)
    | (show CallThen _ _ _ _ _ _; refine call_pure h2 rfl ?_; rintro z rfl)
    | (show CallThen _ _ _ _ _ _; refine call_pure h3 rfl ?_; rintro z rfl)
    | (refine ⟨trivial, rfl, rfl, rfl, leaf_ff ?_⟩)
    | (refine ⟨trivial, rfl, rfl, rfl, leaf_b ?_⟩)
    | fail
  all_goals (unfold sameO eqO; simp_all)
end Bow
/- W61: the laws of chapter 12: what they use; the examples. -/
namespace Bow
open Go Go.Proofs

end Bow
/- W62: SquareTurned. -/
namespace Bow
open Go Go.Proofs

end Bow
/- W63: lists of operations: joined (slices.Concat), made bare; which are too many. -/
namespace Bow
open Go Go.Proofs

end Bow
/- W64: lists.bring, Both. -/
namespace Bow
open Go Go.Proofs

/-- Operations of a size that may be asked about. -/
def OkL (l : List OpT) : Prop := ∀ o ∈ l, o.Ok ∧ o.to.length ≤ 1000
theorem OkL.app {x y : List OpT} (hx : OkL x) (hy : OkL y) : OkL (x ++ y) := fun o ho => by
  rcases List.mem_append.1 ho with h | h
  · exact hx o h
  · exact hy o h
theorem OkL.head {a : OpT} {x : List OpT} (h : OkL (a :: x)) : OkL [a] := fun o ho => by rw [List.mem_singleton] at ho; exact ho ▸ h a List.mem_cons_self

end Bow
/- W65: lists.bring's walk. -/
namespace Bow
open Go Go.Proofs

end Bow
/- W66: the laws of chapter 13: what they use; the examples; which lists say the same. -/
namespace Bow
open Go Go.Proofs

end Bow
/- W68: which lists say the same; chapter 13's few. -/
namespace Bow
open Go Go.Proofs

end Bow
/- W69: the laws ListsSame and ListsJoined, walked. -/
namespace Bow
open Go Go.Proofs

end Bow
/- AE43: own memory that stands elsewhere, read: its length, an element's place, what lies there; pointers held against nil; a range over a function that holds own objects. -/
namespace Bow
open Go

section
variable {c : Cx} {E : Env} {T : Heap} {ops : Array Oper} {i : Nat} {rest : List Nat} {k : List Item} {o : Oper}

theorem goes_lenA {t e : TypeId} {x : Operand} {r g off l sz : Nat} {xs : List V} (n : Nat) (ho : lget ops.toList i = some o) (hg : o.guard = none) (hop : o.op = .call { callee := .builtin .len, args := #[x], argTypes := #[t] }) (hx : opd E x = .osl (.abs r) g off l)
    (ht : tyU c.P t = some (.slice e)) (hi : r ∉ c.imps) (hB : c.B r = some (.vec g sz xs)) (h : putE c.nt o.dst (.int .i64 l) E False fun E' => evp c n (.inRegion ops rest :: k) E' T) : Goes c (.inRegion ops (i :: rest) :: k) E T := by
  refine goes_opTo n ho hg hop (OpTo.still fun o hop w β H m a hs => ⟨.int .i64 l, ?_, .int _ _⟩) (fun cl h => by cases h) h
  have hr := opd_rep hs x
  have hH : H[r]? = some (some (.vec g sz xs)) := hs.baseAt hi hB
  simp only [hx, V.conv, Ref.conv] at hr
  generalize hq : a.eval x = q at hr
  cases hr with
  | oslNil => simp [execOp, hop, resolve, invoke, builtin, Builtin.len_, hq, run_underlying (tyU_sound ht), goInt]
  | oslBlk => simp [execOp, hop, resolve, invoke, builtin, Builtin.len_, hq, run_underlying (tyU_sound ht), goInt]
  | oslStale _ _ _ _ g' sz' xs' _ hH' hg =>
    rw [hH] at hH'
    injection hH' with hH'
    injection hH' with hH'
    injection hH' with e0 _ _
    omega
  | oslDead _ _ _ _ _ hd => rw [hH] at hd; cases hd

theorem goes_indexA {t e : TypeId} {x ix : Operand} {r g off l sz : Nat} {xs : List V} {kk : IntKind} {j : Int} {ti : TypeInfo} (n : Nat) (ho : lget ops.toList i = some o) (hg : o.guard = none) (hop : o.op = .indexAddr t x ix) (hx : opd E x = .osl (.abs r) g off l) (hix : opd E ix = .int kk j)
    (ht : tyU c.P t = some (.slice e)) (hti : tyI c.P e = some ti) (hsz : (Nat.beq sz ti.size && Nat.ble 1 sz) = true) (hi : r ∉ c.imps) (hB : c.B r = some (.vec g sz xs)) (h0 : 0 ≤ j) (hl : j < l)
    (h : putE c.nt o.dst (.eptr (.abs r) g (off + j.toNat) 0) E False fun E' => evp c n (.inRegion ops rest :: k) E' T) : Goes c (.inRegion ops (i :: rest) :: k) E T := by
  simp only [Bool.and_eq_true] at hsz
  have hsz := Nat.eq_of_beq_eq_true hsz.1
  refine goes_opTo n ho hg hop (OpTo.still fun o hop w β H m a hs => ?_) (fun cl h => by cases h) h
  have h1 := opd_rep hs x
  have h2 := opd_rep hs ix
  have hH : H[r]? = some (some (.vec g sz xs)) := hs.baseAt hi hB
  simp only [hx, V.conv, Ref.conv] at h1
  simp only [hix] at h2
  have e2 := rep_int h2
  generalize hq : a.eval x = q at h1
  cases h1 with
  | oslNil _ _ _ _ _ hH' hβ => omega
  | oslBlk _ _ _ _ sz' xs' b N ad cap hH' hβ hl' hN hcap ha hlen =>
    rw [hH] at hH'
    injection hH' with hH'
    injection hH' with hH'
    injection hH' with _ e3 e4
    subst e3 e4
    have := ha (by omega)
    subst this
    refine ⟨.pointer (some ⟨b, (off + j.toNat) * sz, none⟩), ?_, ?_⟩
    · have : (⟨b, off * sz, none⟩ : Addr).add (j.toNat * sz) = ⟨b, (off + j.toNat) * sz, none⟩ := by rw [add_none, Nat.add_mul]
      simp [execOp, hop, hq, e2, Instr.indexAt, asIntOf, run_underlying (tyU_sound ht), h0, hl, run_sizeOf' (tyI_sound hti), ← hsz, this]
    · simp only [V.conv, Ref.conv]
      exact .eptrLive r g _ 0 sz xs b N hH hβ (by omega)
  | oslStale _ _ _ _ g' sz' xs' _ hH' hg =>
    rw [hH] at hH'
    injection hH' with hH'
    injection hH' with hH'
    injection hH' with e0 _ _
    omega
  | oslDead _ _ _ _ _ hd => rw [hH] at hd; cases hd

/-! ### Pointers held against nil -/
end
end Bow
/- AE44: regions that draw their order and hold a call that hands back own memory. -/
namespace Bow
open Go

/-- A call that hands back a slice of own memory, into a reserved name. -/
theorem fact_call_make {c : Cx} {ops : Array Oper} {i : Nat} {o : Oper} {E : Env} {T : Heap} {gs : List Tmp} {f : Operand} {args : Array Operand} {ts : Array TypeId} {g : FuncId} {first cap : List V} {p sz : Nat} {xs : List V} (ho : ops[i]? = some o) (hg : Guarded ops o E gs true)
    (hop : o.op = .call { callee := .value f, args := args, argTypes := ts }) (hf : opd E f = .fn (.func g) first cap) (ha : V.pureL (first ++ args.toList.map (opd E) ++ cap) = true) (hd : T[p]? = some (some (.vec 0 0 [])))
    (h : Fun c.P g [] (first ++ args.toList.map (opd E) ++ cap) fun x T' => ∃ g0, x = .osl (.loc 0) g0 0 xs.length ∧ T' = [some (.vec g0 sz xs)]) :
    Fact c ops i E T ⟨o.dst, gs ++ tmpsOf o.op.operands.toList, [], .osl (.loc p) 2 0 xs.length, [(p, some (.vec 2 sz xs))], some p⟩ := by
  intro E' T' e1 e2 e3 w β H m a b cs rest k hs b1 b2 b4
  obtain ⟨q, q1, q2, q3⟩ := b4 p rfl
  have hag := opd_agree (E := E) (E' := E') (xs := o.op.operands.toList) fun t ht => e2 t (List.mem_append_right _ ht)
  rw [hop] at hag
  have hf' : opd E' f = .fn (.func g) first cap := by rw [hag f (by simp [Op.operands, Call.operands])]; exact hf
  have ha' : args.toList.map (opd E') = args.toList.map (opd E) := List.map_congr_left fun z hz => hag z (by simp [Op.operands, Call.operands]; exact .inr (by simpa using hz))
  obtain ⟨va, vc, hq, hl, hr⟩ := fn_rep hs hf' args
  rw [ha'] at hl hr
  unfold Fun at h
  obtain ⟨hen, h⟩ := h
  have hs0 : SRel [] 0 w β H [] ⟨[], [], fun r => (H[r]?).getD none, []⟩ bare := by
    refine ⟨hs.hrel, rfl, fun k => by simp [lk, V.conv]; exact .undef _, rfl, List.nodup_nil, by simp, rfl, fun r h _ => ?_, fun r h1 => ?_, by simp, by simp, by simp, rfl, by simp⟩
    · simp [h]
    · simp [List.getElem?_eq_none h1]
  obtain ⟨x, T1, v, w', β', H', m', fr, ⟨g0, rfl, rfl⟩, k1, k2, k3, k4, k5, k6⟩ := h w β H [] _ _ (b.atR a (.inRegion ops (i :: rest) :: k) :: cs) hs0 hl (fun j x v hj hv => by
    have h1 := hr j x v hj hv
    have hx := pureL_mem' _ ha x (List.mem_of_getElem? hj)
    rw [pure_conv _ _ hx] at h1 ⊢
    exact h1)
  have hm1 : m'.length = 1 := k1.mlen
  obtain ⟨r', rfl⟩ : ∃ r', m' = [r'] := by
    match m', hm1 with
    | [r'], _ => exact ⟨r', rfl⟩
  have hr' : H'[r']? = some (some (.vec g0 sz xs)) := k1.loc 0 r' _ rfl rfl
  have hr'l := lt_of_get hr'
  have hnew : H.length ≤ r' := by
    rcases Nat.lt_or_ge r' H.length with h1 | h1
    · exfalso
      obtain ⟨o1, ho1, _⟩ := k2.evo r' _ h1 hr'
      have h2 : (H[r']?).getD none = none := k1.own 0 r' (Nat.zero_le _) rfl
      rw [ho1] at h2
      cases h2
    · exact h1
  have hql := hs.lt q1
  have hqr : q ≠ r' := fun e => by omega
  have hHq : H[q]? = some (some (.vec 0 0 [])) := hs.loc p q _ q1 (q3.trans hd)
  have hlen : H.length ≤ H'.length := k2.len
  have hbase : ∀ r, r < H'.length → r ≠ r' → H'[r]? = some ((H[r]?).getD none) := fun r hr hne => k1.base r hr (by simpa using hne)
  have hold : ∀ r, r < H.length → H'[r]? = H[r]? := fun r hr => by
    rw [hbase r (Nat.lt_of_lt_of_le hr hlen) (by omega)]
    simp [hr]
  have hH'q : H'[q]? = some (some (.vec 0 0 [])) := by rw [hold q hql]; exact hHq
  have hβ'q : β' q = .none := k2.virt q hql q2
  have hob := k1.hrel.obj r' _ hr'
  obtain ⟨H2, hH2⟩ : ∃ H2 : Heap, H2 = (H'.set r' none).set q (some (.vec 2 sz xs)) := ⟨_, rfl⟩
  obtain ⟨β2, hβ2⟩ : ∃ β2 : Nat → Loc, β2 = upd β' q (β' r') := ⟨_, rfl⟩
  have hβq : β2 q = β' r' := by rw [hβ2]; exact upd_same _ _ _
  have hβn : ∀ r, r ≠ q → β2 r = β' r := fun r hr => by rw [hβ2]; exact upd_ne hr
  have hH2l : H2.length = H'.length := by rw [hH2]; simp
  have hH2q : H2[q]? = some (some (.vec 2 sz xs)) := by rw [hH2]; exact List.getElem?_set_self (by simp; omega)
  have hH2r : H2[r']? = some none := by rw [hH2, List.getElem?_set_ne hqr, List.getElem?_set_self hr'l]
  have hH2n : ∀ r, r ≠ q → r ≠ r' → H2[r]? = H'[r]? := fun r h1 h2 => by rw [hH2, List.getElem?_set_ne (fun e => h1 e.symm), List.getElem?_set_ne (fun e => h2 e.symm)]
  have hcase : ∀ (r : Nat) (o : HObj), H2[r]? = some (some o) → (r = q ∧ o = .vec 2 sz xs) ∨ (r ≠ q ∧ r ≠ r' ∧ H'[r]? = some (some o)) := fun r o hr => by
    by_cases h1 : r = q
    · subst h1
      rw [hH2q] at hr
      injection hr with hr
      injection hr with hr
      exact .inl ⟨rfl, hr.symm⟩
    · by_cases h2 : r = r'
      · subst h2
        rw [hH2r] at hr
        cases hr
      · rw [hH2n r h1 h2] at hr
        exact .inr ⟨h1, h2, hr⟩
  have f : Fr0 w' β' H' w' β2 H2 := by
    refine ⟨rfl, rfl, rfl, Nat.le_refl _, by rw [hH2l]; exact Nat.le_refl _, ?_, fun _ _ _ => rfl, ?_, fun r hr => hβn r (hr.ne hH'q (fun h => h)), fun r s hs => ?_⟩
    · intro r o' _ ho'
      rcases hcase r o' ho' with ⟨rfl, rfl⟩ | ⟨h1, _, h3⟩
      · exact ⟨_, hH'q, ⟨Nat.zero_le _, fun e => by omega⟩, fun hn => absurd hβ'q hn⟩
      · exact ⟨o', h3, Evo.refl _, fun _ _ => hβn r h1⟩
    · rintro bb ⟨r, M, ⟨o', hl', hln⟩, hb⟩
      rcases hcase r o' hl' with ⟨rfl, _⟩ | ⟨h1, _, h3⟩
      · rw [hβq] at hb
        exact .inr ⟨r', M, ⟨_, hr', fun h => h⟩, hb⟩
      · rw [hβn r h1] at hb
        exact .inr ⟨r, M, ⟨_, h3, hln⟩, hb⟩
    · rcases hcase r _ hs with ⟨_, h2⟩ | ⟨h1, _, h3⟩
      · cases h2
      · exact ⟨h3, hβn r h1⟩
  have hrel : HRel w' β2 H2 := by
    refine k1.hrel.step0 f ?_ ?_
    · intro r o' ho'
      rcases hcase r o' ho' with ⟨rfl, rfl⟩ | ⟨h1, _, h3⟩
      · refine .inr ?_
        rw [hβq]
        cases hb : β' r' with
        | none => trivial
        | nil => rw [hb] at hob; exact hob
        | blk bb N =>
          rw [hb] at hob
          obtain ⟨vs, e, _, c2, c3, c4, c5, c6, c7⟩ := hob
          exact ⟨vs, e, tyG_two _, c2, c3, c4, c5, c6, fun i x j c v h1 h2 h3 => (c7 i x j c v h1 h2 h3).mono0 f⟩
      · exact .inl ⟨h3, hβn r h1, fun _ _ _ => rfl⟩
    · rintro r s bb M M' ⟨o1, h1⟩ ⟨o2, h2⟩ hb hb'
      rcases hcase r o1 h1 with ⟨rfl, _⟩ | ⟨n1, n2, l1⟩
      · rcases hcase s o2 h2 with ⟨rfl, _⟩ | ⟨n3, n4, l2⟩
        · rfl
        · rw [hβq] at hb
          rw [hβn s n3] at hb'
          exact absurd (k1.hrel.inj r' s bb M M' ⟨_, hr'⟩ ⟨_, l2⟩ hb hb').symm n4
      · rcases hcase s o2 h2 with ⟨rfl, _⟩ | ⟨n3, n4, l2⟩
        · rw [hβq] at hb'
          rw [hβn r n1] at hb
          exact absurd (k1.hrel.inj r r' bb M M' ⟨_, l1⟩ ⟨_, hr'⟩ hb hb') n2
        · rw [hβn r n1] at hb
          rw [hβn s n3] at hb'
          exact k1.hrel.inj r s bb M M' ⟨_, l1⟩ ⟨_, l2⟩ hb hb'
  have ft : Fr0 w β H w' β2 H2 := k2.toFr0.trans f
  have hml : m.length = T'.length := hs.mlen
  have hpT : p < T'.length := by have := lt_of_get q1; omega
  have hT'p : T'[p]? = some (some (.vec 0 0 [])) := q3.trans hd
  have hsr : SRel c.imps c.nt w' β2 H2 m ⟨E', T'.set p (some (.vec 2 sz xs)), c.B, c.D⟩ a := by
    refine ⟨hrel, hs.size, fun k => (hs.env k).mono0 ft, by simpa using hml, hs.nodup, fun j r ob hj hob' => ?_, hs.imp, fun r hr hm => ?_, fun r hr => hs.fut r (by omega), hs.own, fun p hp => by simpa using hs.scE p hp, fun j ob hob' => ?_, hs.defs, fun j n hj => ?_⟩
    · by_cases hjp : j = p
      · subst hjp
        rw [q1] at hj
        injection hj with hj
        subst hj
        simp only at hob'
        rw [List.getElem?_set_self hpT] at hob'
        injection hob' with hob'
        subst hob'
        exact hH2q
      · simp only at hob'
        rw [List.getElem?_set_ne (fun e => hjp e.symm)] at hob'
        have hrq : r ≠ q := fun e => hjp (hs.inj hj (e ▸ q1))
        have hrl := hs.lt hj
        rw [hH2n r hrq (by omega), hold r hrl]
        exact hs.loc j r ob hj hob'
    · have hrq : r ≠ q := fun e => hm (e ▸ List.mem_of_getElem? q1)
      by_cases hrr : r = r'
      · subst hrr
        have : c.B r = none := hs.fut r hnew
        simp only
        rw [hH2r, this]
      · rw [hH2n r hrq hrr]
        rcases Nat.lt_or_ge r H.length with h1 | h1
        · rw [hold r h1]
          exact hs.base r h1 hm
        · have : c.B r = none := hs.fut r h1
          simp only
          rw [hbase r (by omega) hrr, this, List.getElem?_eq_none h1]
          rfl
    · simp only [List.length_set] at hob' ⊢
      by_cases hjp : j = p
      · subst hjp
        rw [List.getElem?_set_self hpT] at hob'
        injection hob' with hob'
        injection hob' with hob'
        subst hob'
        trivial
      · rw [List.getElem?_set_ne (fun e => hjp e.symm)] at hob'
        exact hs.scT j ob hob'
    · obtain ⟨r, b', N', d1, d2, d3, d4⟩ := hs.marks j n hj
      have hnp : n ≠ p := fun e => by
        subst e
        simp only at d2
        rw [hT'p] at d2
        cases d2
      have hrq : r ≠ q := fun e => hnp (hs.inj d1 (e ▸ q1))
      refine ⟨r, b', N', d1, by simp only; rw [List.getElem?_set_ne (fun e => hnp e.symm)]; exact d2, ?_, d4⟩
      rw [hβn r hrq]
      have hH0 := hs.loc n r _ d1 d2
      exact dfr_stays k2 (by simpa [HObj.conv] using hH0) d3 (by rw [hold r (hs.lt d1), hH0]; rfl)
  refine ⟨v, w', β2, H2, call_steps ho (hg.wanted (fun t ht => e2 t (List.mem_append_left _ ht)) hs) hop hq hen k4 k6, hsr, ft, fun s hsl hn hne => ?_, ?_⟩
  · have hsq : s ≠ q := fun e => hne p rfl (e ▸ q1)
    rw [hβn s hsq]
    exact k2.virt s hsl hn
  · simp only [V.conv, Ref.conv, q1]
    simp only [V.conv, Ref.conv, List.getElem?_cons_zero] at k3
    have hv : ∀ g2 sz2 xs2, H'[r']? = some (some (.vec g2 sz2 xs2)) → g2 = g0 ∧ sz2 = sz ∧ xs2 = xs := fun g2 sz2 xs2 h2 => by
      rw [hr'] at h2
      injection h2 with h2
      injection h2 with h2
      injection h2 with e0 e1 e2
      exact ⟨e0.symm, e1.symm, e2.symm⟩
    generalize hn : xs.length = n at k3
    cases k3 with
    | oslNil _ _ sz2 xs2 ad hH' hβ =>
      exact .oslNil q 2 sz xs ad hH2q (hβq.trans hβ)
    | oslBlk _ _ _ _ sz2 xs2 bb N ad cap' hH' hβ hl' hN hcap ha hlen' =>
      obtain ⟨_, rfl, rfl⟩ := hv _ _ _ hH'
      exact .oslBlk q 2 0 n sz2 xs2 bb N ad cap' hH2q (hβq.trans hβ) hl' hN hcap ha hlen'
    | oslStale _ _ _ _ g' sz' xs' _ hH' hg' =>
      obtain ⟨e, _, _⟩ := hv _ _ _ hH'
      omega
    | oslDead _ _ _ _ _ hd' => rw [hr'] at hd'; cases hd'

/-! ### The evaluation of such a region -/
/-- A call of one of these functions. -/
def isMk (mk : List FuncId) : Op → Bool
  | .call { callee := .value (.func h), .. } => memN mk h
  | _ => false
def evdN (mk : List FuncId) (c : Cx) (ops : List Oper) (gt : List Tmp) : List Oper → Nat → Env → Heap → (Env → Heap → List Sig → Prop) → Prop
  | [], _, E, T, K => K E T []
  | o :: os, p, E, T, K =>
    let next (x : V) (T' : Heap) (g touch keys : List Nat) : Prop := bif (makesS o.op || isMk mk o.op) then putR c.nt gt o.dst x E fun E' => evdN mk c ops gt os (p + 1) E' T' fun En Tn ss => K En Tn (⟨o.dst, g, touch, keys⟩ :: ss) else putR c.nt gt o.dst x E fun E' => evdN mk c ops gt os p E' T' fun En Tn ss => K En Tn (⟨o.dst, g, touch, keys⟩ :: ss)
    gK ops o E (fun g => next (.tup []) T g [] []) fun g =>
      lfix (g ++ tmpsOf o.op.operands.toList) fun g =>
      bif makes E o.op then evMk c o.op E T p fun x ob kills tc => lfix tc fun tc => lfix (keysOf kills) fun ks => appC T (kills ++ [(p, some ob)]) fun T' => next x T' g (p :: tc) (p :: ks)
      else bif isMk mk o.op then match o.op with
        | .call { callee := .value f, args, .. } => match opd E f with
          | .fn (.func h) first cap => opds E args.toList fun vs => ∃ (sz : Nat) (xs : List V), Fun c.P h [] (first ++ vs ++ cap) (fun x T' => ∃ g0, x = .osl (.loc 0) g0 0 xs.length ∧ T' = [some (.vec g0 sz xs)]) ∧ V.pureL (first ++ vs ++ cap) = true ∧ lget T p = some (some (.vec 0 0 [])) ∧
            appC T [(p, some (.vec 2 sz xs))] fun T' => next (.osl (.loc p) 2 0 xs.length) T' g [p] [p]
          | _ => False
        | _ => False
      else match o.op with
        | .call { callee := .value f, args, .. } => match opd E f with
          | .fn (.func h) first cap => opds E args.toList fun vs => frzAll (first ++ vs ++ cap) T False fun ws _ => lfix (keysOf (killsOf (first ++ vs ++ cap))) fun ks =>
            ∃ x, Pure c.P h ws (fun y => y = x) ∧ V.pureL ws = true ∧ bif flatB x then next x T g ks [] else appC T (killsOf (first ++ vs ++ cap)) fun T' => next x T' g ks ks
          | _ => False
        | op => evOp c op E T False fun x T' => lfix (touch E op) fun tc => lfix (wr E op) fun ks => next x T' g tc ks

theorem evdN_sound {mk : List FuncId} {c : Cx} {ops : Array Oper} {gt : List Tmp} : ∀ (os : List Oper) (i p : Nat) (E : Env) (T : Heap) (K : Env → Heap → List Sig → Prop), evdN mk c ops.toList gt os p E T K → (∀ k, os[k]? = ops[i + k]?) → i + os.length = ops.size →
    ∃ rs ss En Tn, RunP c ops i p E T rs ss En Tn ∧ K En Tn ss
  | [], i, p, E, T, K, h, _, hi => ⟨[], [], E, T, ⟨by simpa using hi, rfl, rfl⟩, h⟩
  | o :: os, i, p, E, T, K, h, hos, hi => by
    unfold evdN at h
    extract_lets next at h
    have ho : ops[i]? = some o := by have := hos 0; simpa using this.symm
    have hos' : ∀ k, os[k]? = ops[i + 1 + k]? := fun k => by have := hos (k + 1); rw [List.getElem?_cons_succ] at this; rw [this, sa]
    have hi' : i + 1 + os.length = ops.size := by simp at hi; omega
    have hlt : i < ops.size := by simp at hi; omega
    -- what follows, from a fact
    have go : ∀ (r : Rec) (g tc ks : List Nat), Fact c ops i E T r → r.dst = o.dst → next r.x (app T r.eff) g tc ks → (∀ t ∈ r.reads, t ∈ g) → (∀ k ∈ r.touch, k ∈ tc) → (∀ k ∈ keysOf r.eff, k ∈ ks) →
        (∀ q, r.virt = some q → q = p ∧ p ∈ tc ∧ p < T.length ∧ (makesS o.op || isMk mk o.op) = true) → ∃ rs ss En Tn, RunP c ops i p E T rs ss En Tn ∧ K En Tn ss := by
      intro r g tc ks hf hd hn h1 h2 h3 h4
      have hn : putR c.nt gt o.dst r.x E fun E' => evdN mk c ops.toList gt os (bif (makesS o.op || isMk mk o.op) then p + 1 else p) E' (app T r.eff) fun En Tn ss => K En Tn (⟨o.dst, g, tc, ks⟩ :: ss) := by
        have h0 := hn
        simp only [next] at h0
        cases hm : (makesS o.op || isMk mk o.op) <;> (rw [hm] at h0; exact h0)
      obtain ⟨x', hk, hdst, hx⟩ := putR_sound hn
      obtain ⟨rs, ss, En, Tn, k1, k2⟩ := evdN_sound os (i + 1) _ _ _ _ hk hos' hi'
      refine ⟨{ r with x := x' } :: rs, ⟨o.dst, g, tc, ks⟩ :: ss, En, Tn, ⟨hf.put hx, by rw [hd]; exact hdst, ⟨hd.symm, h1, h2, h3, fun q hq => ?_⟩, hlt, (bif (makesS o.op || isMk mk o.op) then p + 1 else p), ?_, ?_, ?_⟩, k2⟩
      · obtain ⟨e, hp, _⟩ := h4 q hq
        rw [e]
        exact hp
      · cases (makesS o.op || isMk mk o.op) <;> simp
      · intro q hq
        obtain ⟨e, _, hp, hm⟩ := h4 q hq
        rw [hm]
        exact ⟨e, Nat.le_refl _, hp⟩
      · rw [hd]
        exact k1
    rcases gK_sound h with ⟨gs, hg, h⟩ | ⟨gs, hg, h⟩
    · exact go _ gs [] [] (fact_skip ho hg) rfl h (fun t ht => ht) (fun k hk => hk) (fun k hk => hk) (fun q hq => by cases hq)
    · rw [lfix_eq] at h
      cases hm : makes E o.op with
      | true =>
        rw [hm] at h
        simp only [cond_true] at h
        obtain ⟨x, ob, kills, tc, hk, hf, hp⟩ := fact_mk (gs := gs) ho hg h
        rw [lfix_eq, lfix_eq, appC_eq] at hk
        refine go _ _ _ _ hf rfl hk (fun t ht => ht) (fun k hk => List.mem_cons_of_mem _ hk) (fun k hk => ?_) (fun q hq => ?_)
        · rw [keysOf_append] at hk
          rcases List.mem_append.1 hk with h | h
          · exact List.mem_cons_of_mem _ h
          · simp only [keysOf, List.mem_singleton] at h
            rw [h]
            exact List.mem_cons_self
        · injection hq with hq
          subst hq
          exact ⟨rfl, List.mem_cons_self, hp, by rw [makes_S hm]; rfl⟩
      | false =>
        rw [hm] at h
        simp only [cond_false] at h
        cases hmk : isMk mk o.op with
        | true =>
          simp only [hmk, cond_true] at h
          split at h
          · rename_i f args ts hop
            split at h
            · rename_i h' first cap hfv
              rw [opds_eq] at h
              obtain ⟨sz, xs, hfu, hpl, hlp, hk⟩ := h
              rw [appC_eq] at hk
              rw [lget_eq] at hlp
              exact go _ _ _ _ (fact_call_make ho hg hop hfv hpl hlp hfu) rfl hk (fun t ht => ht) (fun k hk => by cases hk) (fun k hk => hk) (fun q hq => by
                injection hq with hq
                subst hq
                exact ⟨rfl, List.mem_singleton.2 rfl, lt_of_get hlp, by rw [hmk]; simp⟩)
            · exact h.elim
          · exact h.elim
        | false =>
        simp only [hmk, cond_false] at h
        split at h
        · rename_i f args ts hop
          split at h
          · rename_i h' first cap hfv
            rw [opds_eq] at h
            rcases frzAll_det (F := False) _ T _ h with h | ⟨ws, h, hdet⟩
            · exact h.elim
            rw [lfix_eq] at h
            obtain ⟨x, hpu, hpl, hk⟩ := h
            cases hx : flatB x with
            | true =>
              rw [hx] at hk
              exact go _ _ _ _ (fact_call_flat ho hg hop hfv hpl hx hdet hpu) rfl hk (fun t ht => ht) (fun k hk => hk) (fun k hk => by cases hk) (fun q hq => by cases hq)
            | false =>
              rw [hx] at hk
              simp only [cond_false] at hk
              rw [appC_eq] at hk
              exact go _ _ _ _ (fact_call_frz ho hg hop hfv hpl hdet hpu) rfl hk (fun t ht => ht) (fun k hk => hk) (fun k hk => hk) (fun q hq => by cases hq)
          · exact h.elim
        · rcases fact_op ho hg hm h with h | ⟨x, eff, hk, hf, hw⟩
          · exact h.elim
          rw [lfix_eq, lfix_eq] at hk
          refine go _ _ _ _ hf rfl hk (fun t ht => ht) (fun k hk => hk) (fun k hk => ?_) (fun q hq => by cases hq)
          have : ∀ (es : List (Nat × Option HObj)), k ∈ keysOf es → ∃ e ∈ es, e.1 = k := by
            intro es
            induction es with
            | nil => intro h; cases h
            | cons e es ih =>
              intro h
              rcases List.mem_cons.1 h with rfl | h
              · exact ⟨e, List.mem_cons_self, rfl⟩
              · obtain ⟨e', h1, h2⟩ := ih h
                exact ⟨e', List.mem_cons_of_mem _ h1, h2⟩
          obtain ⟨e, he, rfl⟩ := this eff hk
          exact hw e he

def dumsN (mk : List FuncId) : List Oper → Heap
  | [] => []
  | o :: os => bif (makesS o.op || isMk mk o.op) then some (dummyOf o.op) :: dumsN mk os else dumsN mk os
theorem dumsN_mem (mk : List FuncId) : ∀ (os : List Oper) (x : Option HObj), x ∈ dumsN mk os → ∃ d, x = some d ∧ (d = .box [] ∨ d = .vec 0 0 [])
  | [], x, h => by cases h
  | o :: os, x, h => by
    rw [dumsN] at h
    cases hb : (makesS o.op || isMk mk o.op) with
    | false => rw [hb] at h; exact dumsN_mem mk os x h
    | true =>
      rw [hb] at h
      rcases List.mem_cons.1 h with rfl | h
      · refine ⟨_, rfl, ?_⟩
        unfold dummyOf
        split <;> simp
      · exact dumsN_mem mk os x h
theorem goes_draw_ofN (mk : List FuncId) {c : Cx} {ops : Array Oper} {id : Nat} {k : List Item} {E : Env} {T : Heap} {rs : List Rec} {ss : List Sig} {En : Env} {Tn : Heap} (h : RunP c ops 0 T.length E (T ++ dumsN mk ops.toList) rs ss En Tn) (hc : chk ops.toList ss 0 [] [] = true) (hk : Goes c k En Tn) : Goes c (.code (.region id ops true) :: k) E T := by
  obtain ⟨hG, rfl, rfl, hp⟩ := good_of_run h
  refine goes_step fun w β H m a b cs hs h1 h2 h3 => ?_
  -- the draw
  have hsched : ∃ md t, Region.schedule (c.P.follows .mixedOrders) ops (w.tape w.drawn (.order b.fn id)) = Region.linearise md ops t := by
    unfold Region.schedule
    split
    · exact ⟨_, _, rfl⟩
    · exact ⟨_, _, rfl⟩
  obtain ⟨md, t, hmd⟩ := hsched
  have hf0 : Fr w β H { w with drawn := w.drawn + 1 } β H := Fr.of_heap rfl rfl rfl rfl
  have hs0 : SRel c.imps c.nt { w with drawn := w.drawn + 1 } β H m ⟨E, T, c.B, c.D⟩ a := hs.same hf0 (hs.hrel.of_heap rfl rfl rfl rfl)
  obtain ⟨β1, H1, m1, k1, k2, k3, k4⟩ := reserveAll (dumsN mk ops.toList) (dumsN_mem mk _) hs0
  have hml : m1.length = (T ++ dumsN mk ops.toList).length := k1.mlen
  have hzero : ∀ j, (fun _ : Nat => false) j = (Array.replicate ops.size false).getD j false := fun j => by
    by_cases hj : j < ops.size
    · simp [Array.getD, hj]
    · simp [Array.getD, hj]
  obtain ⟨w2, β2, H2, a2, g1, g2, g3, g4⟩ := run_draw md hG hc k1.scE ops.size t (Array.replicate ops.size false) (fun _ => false) { w with drawn := w.drawn + 1 } β1 H1 m1 a b cs k hzero (by simp)
    (by unfold unl; exact Nat.le_trans (List.length_filter_le _ _) (by simp)) (fun i hi => by cases hi) (by
      rw [envS_none _ _ _ fun _ _ => rfl, heapS_none _ _ _ fun _ _ => rfl]
      exact k1) (fun j r p hj _ hv => by
        obtain ⟨q, q1, q2, _⟩ := k4 p (hG.virt j r p hj hv) (by have := hp j r p hj hv; simpa using this)
        exact ⟨q, q1, q2⟩) (fun j r _ hj => by cases hj) h1 h2
  refine ⟨w2, β2, H2, m1, a2, k, ⟨_, _, c.B, c.D⟩, ?_, g2, ?_, hk⟩
  · refine .head stepR_region_draw ?_
    rw [hmd]
    exact g1.trans (.one stepR_region_end)
  · refine ⟨(hf0.toFr0.trans k2.toFr0).trans g3, fun r hr hn => ?_⟩
    have hn1 := k2.virt r hr hn
    refine g4 r (Nat.lt_of_lt_of_le hr k2.len) hn1 fun p hp hq => ?_
    by_cases hlt : p < T.length + (dumsN mk ops.toList).length
    · obtain ⟨q, q1, _, q3⟩ := k4 p hp hlt
      rw [hq] at q1
      injection q1 with q1
      omega
    · have := lt_of_get hq
      rw [hml, List.length_append] at this
      omega
theorem goes_drawN (mk : List FuncId) {c : Cx} {ops : Array Oper} {id : Nat} {k : List Item} {E : Env} {T : Heap} (n : Nat) (h : catC T (dumsN mk ops.toList) fun T0 => evdN mk c ops.toList (guardTmps ops.toList ops.toList) ops.toList T.length E T0 fun En Tn ss => chk ops.toList ss 0 [] [] = true ∧ evp c n k En Tn) :
    Goes c (.code (.region id ops true) :: k) E T := by
  rw [catC_eq] at h
  obtain ⟨rs, ss, En, Tn, h1, h2, h3⟩ := evdN_sound (mk := mk) ops.toList 0 T.length E _ _ h (fun k => by rw [Nat.zero_add, Array.getElem?_toList]) (by simp)
  exact goes_draw_ofN mk h1 h2 (evp_sound n _ _ _ _ h3)
end Bow
/- AE45: own memory under names: calls that hand back named memory, calls that write over it, calls that only read it; stores into it. -/
namespace Bow
open Go

def Ext (B B' : Base) : Prop := ∀ q o, B q = some o → B' q = some o
/-- What stands in B' and not in B. -/
def newPart (B B' : Base) : Base := fun q => match B q with | some _ => none | none => B' q
def Base.add (B N : Base) : Base := fun q => match B q with | some o => some o | none => N q
theorem Ext.refl (B : Base) : Ext B B := fun _ _ h => h
theorem Ext.trans {A B C : Base} (h : Ext A B) (k : Ext B C) : Ext A C := fun q o e => k q o (h q o e)
theorem Ext.add (B N : Base) : Ext B (B.add N) := fun q o h => by simp [Base.add, h]
theorem add_new {B N : Base} {q : Nat} {o : HObj} (h : N q = some o) (hb : B q = none) : (B.add N) q = some o := by simp [Base.add, h, hb]
theorem newPart_old {B B' : Base} {q : Nat} {o : HObj} (h : newPart B B' q = some o) : B q = none ∧ B' q = some o := by
  unfold newPart at h
  split at h
  · cases h
  · rename_i hb; exact ⟨hb, h⟩
theorem Ext.eq_add {B B' : Base} (h : Ext B B') : B' = B.add (newPart B B') := by
  funext q
  unfold Base.add newPart
  cases hb : B q with
  | none => rfl
  | some o => exact h q o hb

mutual
theorem V.conv_pure (m : List Nat) : ∀ v : V, (v.conv m).pureB = true
  | .osl r _ _ _ | .ptr r _ | .eptr r _ _ _ | .yld r => by
    cases r with
    | loc k =>
      simp only [V.conv, Ref.conv]
      cases m[k]? <;> rfl
    | abs n => rfl
    | bad => rfl
  | .agg cs | .tup cs => by simp only [V.conv, V.pureB]; exact V.convL_pure m cs
  | .fn _ a c => by simp only [V.conv, V.pureB, Bool.and_eq_true]; exact ⟨V.convL_pure m a, V.convL_pure m c⟩
  | .iface _ v => by simp only [V.conv, V.pureB]; exact V.conv_pure m v
  | .int .. | .bool _ | .tt | .ff | .str _ | .sl .. | .nilsl | .iptr .. | .nilp | .nilf | .nili | .nilmap | .undef => rfl
theorem V.convL_pure (m : List Nat) : ∀ vs : List V, V.pureL (V.convL m vs) = true
  | [] => rfl
  | v :: vs => by simp only [V.convL, V.pureL, Bool.and_eq_true]; exact ⟨V.conv_pure m v, V.convL_pure m vs⟩
end

/-! ### Functions that hand back memory of their own, under names -/
@[irreducible] def FunN (P : Program) (g : FuncId) (args : List V) (Q : V → Base → Prop) : Prop :=
  Enterable P g ∧ ∀ (w : World) (β : Nat → Loc) (H : Heap) (B : Base) (vals : Array Value) (cs : List Frame), SRel [] 0 w β H [] ⟨[], [], B, []⟩ bare → args.length = vals.size →
    (∀ (j : Nat) (x : V) (v : Value), args[j]? = some x → vals[j]? = some v → Rep w β H x v) →
    ∃ (x : V) (N : Base) (v : Value) (w' : World) (β' : Nat → Loc) (H' : Heap) (fr : Frame), Q x N ∧ (∀ q o, N q = some o → B q = none) ∧ SRel [] 0 w' β' H' [] ⟨[], [], B.add N, []⟩ bare ∧ Fr w β H w' β' H' ∧ Rep w' β' H' x v ∧ x.pureB = true ∧
      Steps P (lone (Frame.enter P g vals .normal) cs w) (lone fr cs w') ∧ fr.fn = g ∧ fr.leaving P w' (.returned v)

theorem FunN.mono {P : Program} {g : FuncId} {args : List V} {Q Q' : V → Base → Prop} (h : FunN P g args Q) (hq : ∀ x N, Q x N → Q' x N) : FunN P g args Q' := by
  unfold FunN at *
  refine ⟨h.1, fun w β H B vals cs hs hl hr => ?_⟩
  obtain ⟨x, N, v, w', β', H', fr, k, r⟩ := h.2 w β H B vals cs hs hl hr
  exact ⟨x, N, v, w', β', H', fr, hq _ _ k, r⟩

/-- What a body's end has to be, there. -/
def XN (P : Program) (rs : Array ResultVar) (B : Base) (Q : V → Base → Prop) (e : Exit) (s : St) : Prop :=
  (match e with | .normal | .ret => True | _ => False) ∧ s.D = [] ∧ Ext B s.B ∧ resK P [] s.B rs.toList s.E s.T False fun xs => frz (resV xs) s.T False fun x _ => x.pureB = true ∧ ∃ y, Wk x y ∧ y.pureB = true ∧ Q y (newPart B s.B)

theorem funN_of_goes {P : Program} {g : FuncId} {fn : Func} {body : Code} {args : List V} {Q : V → Base → Prop} (n : Nat) (hf : P.funcs[g]? = some fn) (hn : (fn.name == "runtime.NumGoroutine") = false) (hb : fn.body = some body) (hnt : Nat.ble args.length fn.ntmps = true)
    (h : ∀ B : Base, evp { P := P, nt := fn.ntmps, fn := g, ro := none, imps := [], X := XN P fn.results B Q, B := B, D := [] } n [.code body] (env0 0 args) []) : FunN P g args Q := by
  unfold FunN
  refine ⟨⟨fn, hf, hn, by rw [hb]; rfl⟩, fun w β H B vals cs hs hl hr => ?_⟩
  have hnt := Nat.le_of_ble_eq_true hnt
  have gg := evp_sound _ _ _ _ _ (h B)
  unfold Goes at gg
  let b : Frame := { fn := g, tmps := #[], todo := [], defers := [], mode := .run, kind := .normal }
  let a : Act := { tmps := vals ++ Array.replicate (fn.ntmps - vals.size) Go.undef, defers := [] }
  have henter : Frame.enter P g vals .normal = b.atR a [.code body] := by
    simp [Frame.enter, Frame.atR, hf, hb, b, a]
  have hasz : a.tmps.size = fn.ntmps := by simp [a]; omega
  have hrc : ∀ (j : Nat) (x : V) (v : Value), args[j]? = some x → vals[j]? = some v → Rep w β H (x.conv []) v := fun j x v hj hv => by
    rw [conv_of_rep [] x (hr j x v hj hv)]
    exact hr j x v hj hv
  have hget : ∀ k, Rep w β H ((lk (env0 0 args) k).conv []) (a.tmps.getD k Go.undef) := by
    intro k
    rw [lk_env0]
    simp only [Nat.zero_le, if_true, Nat.sub_zero]
    cases hk : args[k]? with
    | none => exact .undef _
    | some x =>
      have hkl := lt_of_get hk
      have hkv : k < vals.size := by omega
      have e : a.tmps.getD k Go.undef = vals[k] := by
        simp only [a, Array.getD_eq_getD_getElem?]
        rw [Array.getElem?_append_left hkv]
        simp [hkv]
      rw [e]
      exact hrc k x vals[k] hk (Array.getElem?_eq_getElem hkv)
  have hs0 : SRel [] fn.ntmps w β H [] ⟨env0 0 args, [], B, []⟩ a := by
    refine ⟨hs.hrel, hasz, hget, hs.mlen, hs.nodup, hs.loc, hs.imp, hs.base, hs.fut, hs.own, fun p hp => ?_, hs.scT, rfl, by simp⟩
    obtain ⟨k, hk, hx⟩ := List.mem_iff_getElem.1 (env0_mem 0 args p hp)
    have hkv : k < vals.size := by omega
    exact sc_of_rep (m := []) p.2 (hrc k p.2 vals[k] (by rw [List.getElem?_eq_getElem hk, hx]) (Array.getElem?_eq_getElem hkv))
  obtain ⟨e, s', w', β', H', m', a', hX, hs', hfr, hend⟩ := gg w β H [] a b cs hs0 rfl rfl rfl
  obtain ⟨E', T1, B', D'⟩ := s'
  obtain ⟨he, hD, hB, hres⟩ := hX
  simp only at hD hB hres
  subst hD
  rcases resK_sound (c := { P := P, nt := fn.ntmps, fn := g, ro := none, imps := [], X := fun _ _ => True, B := B', D := [] }) _ _ _ _ hres with h | ⟨xs, hq, hx⟩
  · exact h.elim
  obtain ⟨vs, h1, h2, h3⟩ := hx w' β' H' m' a' hs'
  have hrun := run_results h1
  have hrep : Rep w' β' H' ((resV xs).conv m') (if h : vs.toArray.size = 1 then vs.toArray[0] else .tuple vs.toArray) := by
    by_cases h1 : vs.length = 1
    · rw [dif_pos (by simpa using h1)]
      match xs, h2, h3 with
      | [x], _, h3 => exact h3 0 x _ rfl (by simp [h1])
      | [], h2, _ => simp at h2; omega
      | _ :: _ :: _, h2, _ => simp at h2; omega
    · rw [dif_neg (by simpa using h1)]
      have e : resV xs = .tup xs := by
        match xs, h2 with
        | [x], h2 => simp at h2; omega
        | [], _ => rfl
        | _ :: _ :: _, _ => rfl
      rw [e]
      simp only [V.conv, V.convL_eq]
      refine .tup _ _ (by simp [h2]) fun j c v hj hv => ?_
      simp only [List.getElem?_map, Option.map_eq_some_iff] at hj
      obtain ⟨x, hj, rfl⟩ := hj
      exact h3 j x v hj (by simpa using hv)
  -- what is handed back is frozen; the rest is let go
  rcases frz_sound hq with hq | ⟨x', T2, hq, hfz⟩
  · exact hq.elim
  obtain ⟨H1, g1, g2, g3⟩ := hfz.2 _ _ _ _ _ _ _ _ _ _ hs'.bare
  obtain ⟨m2, H2, e1, e2, e3⟩ := SRel.dropTo (T := []) T2 g1 (by simp) (by simp) (by simp) (by simp)
  have hm2 : m2 = [] := List.length_eq_zero_iff.1 e1.mlen
  subst hm2
  have hrep' := (g3 0 _ x' _ rfl rfl hrep).mono e2
  obtain ⟨hp0, y, hw, hyp, hq⟩ := hq
  have hrep' := hw _ _ _ _ hrep'
  rw [hB.eq_add] at e1
  have hdef : a'.defers = [] := List.length_eq_zero_iff.1 hs'.defs
  cases e with
  | normal =>
    refine ⟨y, newPart B B', _, w', β', H2, { b.atR a' [] with mode := .returning }, hq, fun q o h => (newPart_old h).1, e1, (hfr.trans g2).trans e2, hrep', hyp, ?_, rfl, ?_⟩
    · rw [henter]
      exact Steps.trans hend (.one (stepR_end rfl))
    · exact ⟨rfl, hdef, rfl, fn, hf, hrun⟩
  | ret =>
    obtain ⟨k, hend⟩ := hend
    refine ⟨y, newPart B B', _, w', β', H2, { b.atR a' (.code .ret :: k) with mode := .returning }, hq, fun q o h => (newPart_old h).1, e1, (hfr.trans g2).trans e2, hrep', hyp, ?_, rfl, ?_⟩
    · rw [henter]
      exact Steps.trans hend (.one (stepR_ret rfl))
    · exact ⟨rfl, hdef, rfl, fn, hf, hrun⟩
  | exit id => exact he.elim
  | goto l => exact he.elim
  | panic ch => exact he.elim
  | outgrown => exact he.elim

section
variable {w w' : World} {β β' : Nat → Loc} {H H' : Heap}
/-- What a function with nothing of its own sees of a world. -/
theorem seen {imps : List Nat} {nt : Nat} {m : List Nat} {s : St} {a : Act} (hs : SRel imps nt w β H m s a) : SRel [] 0 w β H [] ⟨[], [], fun r => (H[r]?).getD none, []⟩ bare := by
  refine ⟨hs.hrel, rfl, fun k => by simp [lk, V.conv]; exact .undef _, rfl, List.nodup_nil, by simp, rfl, fun r h _ => ?_, fun r h1 => ?_, by simp, by simp, by simp, rfl, by simp⟩
  · simp [h]
  · simp [List.getElem?_eq_none h1]
end

/-- Out of a function whose objects all are there when it ends. -/
theorem funN_of_fun {P : Program} {g : FuncId} {args : List V} {Q : V → Heap → Prop} (h : Fun P g [] args Q) (ha : V.pureL args = true) (hl : ∀ x T', Q x T' → allLive T' = true) :
    FunN P g args fun x N => ∃ x' T' m', Q x' T' ∧ x = x'.conv m' ∧ m'.length = T'.length ∧ m'.Nodup ∧ ∀ (k q : Nat) (o : HObj), m'[k]? = some q → T'[k]? = some (some o) → N q = some (o.conv m') := by
  unfold Fun at h
  unfold FunN
  refine ⟨h.1, fun w β H B vals cs hs hlen hr => ?_⟩
  obtain ⟨x, T', v, w', β', H', m', fr, hq, k1, k2, k3, k4, k5, k6⟩ := h.2 w β H [] B vals cs hs hlen (fun j x v hj hv => by
    rw [pure_conv _ _ (pureL_mem _ ha x (List.mem_of_getElem? hj))]
    exact hr j x v hj hv)
  have hlive := hl x T' hq
  have hml : m'.length = T'.length := k1.mlen
  have hobj : ∀ (k q : Nat), m'[k]? = some q → ∃ o, T'[k]? = some (some o) ∧ H'[q]? = some (some (o.conv m')) := fun k q hk => by
    have hkT : k < T'.length := by have := lt_of_get hk; omega
    have e := List.getElem?_eq_getElem hkT
    obtain ⟨o, ho⟩ := allLive_get hlive k _ e
    rw [ho] at e
    exact ⟨o, e, k1.loc k q _ hk e⟩
  obtain ⟨N, hN⟩ : ∃ N : Base, N = fun q => if q ∈ m' then (H'[q]?).getD none else none := ⟨_, rfl⟩
  have hNm : ∀ (k q : Nat) (o : HObj), m'[k]? = some q → T'[k]? = some (some o) → N q = some (o.conv m') := fun k q o hk ho => by
    obtain ⟨o', e1, e2⟩ := hobj k q hk
    rw [ho] at e1
    injection e1 with e1
    injection e1 with e1
    subst e1
    rw [hN]
    simp [List.mem_of_getElem? hk, e2]
  have hNB : ∀ q o, N q = some o → q ∈ m' ∧ B q = none := fun q o h => by
    rw [hN] at h
    by_cases hm : q ∈ m'
    · obtain ⟨k, hk⟩ := List.getElem?_of_mem hm
      exact ⟨hm, k1.own k q (Nat.zero_le _) hk⟩
    · simp [hm] at h
  refine ⟨_, N, v, w', β', H', fr, ⟨x, T', m', hq, rfl, hml, k1.nodup, hNm⟩, fun q o h => (hNB q o h).2, ?_, k2, k3, V.conv_pure m' x, k4, k5, k6⟩
  refine ⟨k1.hrel, rfl, fun k => by simp [lk, V.conv]; exact .undef _, rfl, List.nodup_nil, by simp, rfl, fun r hr _ => ?_, fun r hr => ?_, by simp, by simp, by simp, rfl, by simp⟩
  · show H'[r]? = some ((B.add N) r)
    by_cases hm : r ∈ m'
    · obtain ⟨k, hk⟩ := List.getElem?_of_mem hm
      obtain ⟨o, e1, e2⟩ := hobj k r hk
      rw [e2, add_new (hNm k r o hk e1) (k1.own k r (Nat.zero_le _) hk)]
    · have h1 := k1.base r hr hm
      simp only at h1
      rw [h1]
      unfold Base.add
      cases hb : B r with
      | some o => rfl
      | none =>
        have : N r = none := by rw [hN]; simp [hm]
        rw [this]
  · show (B.add N) r = none
    have h1 : B r = none := k1.fut r hr
    unfold Base.add
    rw [h1]
    cases hn : N r with
    | none => rfl
    | some o =>
      obtain ⟨k, hk⟩ := List.getElem?_of_mem (hNB r o hn).1
      have := k1.lt hk
      omega

/-- A call of one. -/
theorem call_funN {c : Cx} {g : FuncId} {args : List V} {E : Env} {T : Heap} {K : V → St → Prop} {Q : V → Base → Prop} (hf : FunN c.P g args Q) (ha : V.pureL args = true)
    (h : ∀ x N, Q x N → x.pureB = true → (∀ q o, N q = some o → c.B q = none) → K x ⟨E, T, c.B.add N, c.D⟩) : CallThen c g args E T K := by
  unfold FunN at hf
  obtain ⟨hen, hf⟩ := hf
  unfold CallThen
  refine ⟨hen, fun w β H m a vals cs hs hl hr => ?_⟩
  obtain ⟨x, N, v, w', β', H', fr, hq, hN, k1, k2, k3, hp, k4, k5, k6⟩ := hf w β H _ vals cs (seen hs) hl (fun j x v hj hv => by
    have h1 := hr j x v hj hv
    rwa [pure_conv _ _ (pureL_mem _ ha x (List.mem_of_getElem? hj))] at h1)
  have hlen : H.length ≤ H'.length := k2.len
  have hH' : ∀ q, q < H'.length → H'[q]? = some (Base.add (fun r => (H[r]?).getD none) N q) := fun q hq => k1.base q hq (by simp)
  have hnew : ∀ q o, N q = some o → H.length ≤ q ∧ q < H'.length := fun q o h1 => by
    have h2 : (Base.add (fun r => (H[r]?).getD none) N) q = some o := add_new h1 (hN q o h1)
    have h3 : q < H'.length := by
      rcases Nat.lt_or_ge q H'.length with h3 | h3
      · exact h3
      · have h4 : (Base.add (fun r => (H[r]?).getD none) N) q = none := k1.fut q h3
        rw [h2] at h4
        cases h4
    refine ⟨?_, h3⟩
    rcases Nat.lt_or_ge q H.length with h4 | h4
    · exfalso
      have h5 := hH' q h3
      rw [h2] at h5
      obtain ⟨o1, ho1, _⟩ := k2.evo q o h4 h5
      have := hN q o h1
      simp only [ho1] at this
      cases this
    · exact h4
  have hcB : ∀ q o, N q = some o → c.B q = none := fun q o h1 => hs.fut q (hnew q o h1).1
  have hNold : ∀ q, q < H.length → N q = none := fun q h1 => by
    cases hn : N q with
    | none => rfl
    | some o => have := (hnew q o hn).1; omega
  have hold : ∀ q, q < H.length → H'[q]? = H[q]? := fun q h1 => by
    rw [hH' q (Nat.lt_of_lt_of_le h1 hlen)]
    unfold Base.add
    simp only [hNold q h1, List.getElem?_eq_getElem h1, Option.getD_some]
    cases H[q] <;> rfl
  have hadd : ∀ q, q < H.length → (c.B.add N) q = c.B q := fun q h1 => by
    unfold Base.add
    rw [hNold q h1]
    cases c.B q <;> rfl
  refine ⟨x, _, v, w', β', H', m, fr, h x N hq hp hcB, ?_, k2, by rw [pure_conv _ _ hp]; exact k3, k4, k5, k6, List.prefix_refl _⟩
  refine ⟨k1.hrel, hs.size, fun k => (hs.env k).mono k2, hs.mlen, hs.nodup, fun k r o hk ho => ?_, hs.imp, fun r hr hm => ?_, fun r hr => ?_, fun k r hk hr => ?_, hs.scE, hs.scT, hs.defs, fun j k hj => ?_⟩
  · rw [hold r (hs.lt hk)]
    exact hs.loc k r o hk ho
  · simp only
    rcases Nat.lt_or_ge r H.length with h1 | h1
    · rw [hold r h1, hadd r h1]
      exact hs.base r h1 hm
    · have h2 : c.B r = none := hs.fut r h1
      rw [hH' r hr]
      unfold Base.add
      simp only [List.getElem?_eq_none h1, h2, Option.getD_none]
  · have h1 : c.B r = none := hs.fut r (Nat.le_trans hlen hr)
    have h2 : (Base.add (fun r => (H[r]?).getD none) N) r = none := k1.fut r hr
    unfold Base.add at h2
    simp only [List.getElem?_eq_none (Nat.le_trans hlen hr), Option.getD_none] at h2
    simp only [Base.add, h1, h2]
  · simp only
    rw [hadd r (hs.lt hr)]
    exact hs.own k r hk hr
  · obtain ⟨r, b, M, h1, h2, h3, h4⟩ := hs.marks j k hj
    have hH0 := hs.loc k r _ h1 h2
    exact ⟨r, b, M, h1, h2, dfr_stays k2 (by simpa [HObj.conv] using hH0) h3 (by rw [hold r (hs.lt h1), hH0]; rfl), h4⟩

/-! ### Named memory, read by functions that leave nothing behind -/
inductive Fz (B : Base) : V → V → Prop
  | wk {x y : V} (h : Wk x y) : Fz B x y
  | row (r g sz : Nat) (xs : List V) (h : B r = some (.vec g sz xs)) : Fz B (.osl (.abs r) g 0 xs.length) (.sl sz xs)
  | agg (cs ds : List V) (hl : cs.length = ds.length) (h : ∀ (j : Nat) (c d : V), cs[j]? = some c → ds[j]? = some d → Fz B c d) : Fz B (.agg cs) (.agg ds)
  | sl (sz : Nat) (xs ys : List V) (hl : xs.length = ys.length) (hy : ∀ y ∈ ys, okE sz y) (h : ∀ (i : Nat) (x y : V) (j : Nat) (c d : V), xs[i]? = some x → ys[i]? = some y → x.cells[j]? = some c → y.cells[j]? = some d → Fz B c d) : Fz B (.sl sz xs) (.sl sz ys)

theorem Fr0.killAll {w : World} {β : Nat → Loc} {H : Heap} : Fr0 w β H w β (H.map fun _ => none) := by
  have hnone : ∀ r o, (H.map fun _ => (none : Option HObj))[r]? ≠ some (some o) := fun r o h => by rw [List.getElem?_map] at h; cases hh : H[r]? <;> rw [hh] at h <;> cases h
  have hno : ∀ b, ¬ ownB β (H.map fun _ => none) b := fun b ⟨r, N, ⟨o, h, _⟩, _⟩ => hnone r o h
  exact ⟨rfl, rfl, rfl, Nat.le_refl _, by simp, fun r o' _ ho => absurd ho (hnone r o'), fun _ _ _ => rfl, fun b hb => absurd hb (hno b), fun _ _ => rfl, fun r s h => absurd h (hnone r _)⟩
theorem killAll_no {β : Nat → Loc} {H : Heap} (b : Nat) {sz : Nat} : freeB β (H.map fun _ => none) b sz := free_none (fun r o h => by
  rw [List.getElem?_map] at h
  cases hh : H[r]? <;> rw [hh] at h <;> cases h) b sz

theorem Fz.rep {B : Base} {w : World} {β : Nat → Loc} {H : Heap} (hrel : HRel w β H) (hB : ∀ q o, B q = some o → H[q]? = some (some o)) {x y : V} (h : Fz B x y) : ∀ {v : Value}, Rep w β H x v → Rep w β (H.map fun _ => none) y v := by
  induction h with
  | wk h => exact fun {v} hv => (h w β H v hv).mono0 Fr0.killAll
  | row r g sz xs h =>
    intro v hv
    have hH := hB r _ h
    have hob := hrel.obj r _ hH
    have hvec : ∀ sz2 xs2, H[r]? = some (some (.vec g sz2 xs2)) → sz2 = sz ∧ xs2 = xs := fun sz2 xs2 h2 => by
      rw [hH] at h2
      injection h2 with h2
      injection h2 with h2
      injection h2 with _ e1 e2
      exact ⟨e1.symm, e2.symm⟩
    generalize hn : xs.length = n at hv
    cases hv with
    | oslNil _ _ sz2 xs2 ad hH' hβ =>
      rw [hβ] at hob
      have : xs = [] := hob
      subst this
      exact .sl sz [] ad 0 (fun _ => Go.undef) (Nat.le_refl _) (Nat.zero_le _) (by simp) (fun hne => absurd rfl hne) (fun i x j c hi => by simp at hi)
    | oslBlk _ _ _ _ sz2 xs2 b N ad cap hH' hβ hl hN hcap ha hlen =>
      obtain ⟨rfl, rfl⟩ := hvec _ _ hH'
      rw [hβ] at hob
      obtain ⟨vs, e, _, h1, h2, h3, h4, h5, h6⟩ := hob
      subst hn
      refine .sl sz2 xs2 ad cap (fun j => vs.getD j Go.undef) hl (by omega) h5 (fun hne => ?_) (fun i x j c hi hj => ?_)
      · have h0 : 0 < xs2.length := List.length_pos_iff.2 hne
        have := ha (by omega)
        subst this
        refine ⟨_, rfl, killAll_no _, (Array.getElem?_eq_some_iff.1 h1).1, fun j hj => ?_⟩
        have hjv : j < vs.size := by omega
        rw [Nat.zero_mul, at_add, cell_of_row w b j vs e (0, 0) h1]
        simp [hjv]
      · have hlt : i * sz2 + j < vs.size := by
          have e1 := lt_of_get hi
          have e2 := lt_of_get hj
          have e3 := (h5 x (List.mem_of_getElem? hi)).1
          have : (i + 1) * sz2 ≤ xs2.length * sz2 := Nat.mul_le_mul_right _ e1
          rw [Nat.add_mul] at this
          omega
        exact (h6 i x j c (vs.getD (i * sz2 + j) Go.undef) hi hj (by simp [hlt])).mono0 Fr0.killAll
    | oslStale _ _ _ _ g' sz' xs' _ hH' hg =>
      rw [hH] at hH'
      injection hH' with hH'
      injection hH' with hH'
      injection hH' with e0 _ _
      omega
    | oslDead _ _ _ _ _ hd => rw [hH] at hd; cases hd
  | agg cs ds hl h ih =>
    intro v hv
    cases hv with
    | agg _ vs hl' h' =>
      refine .agg ds vs (hl.symm.trans hl') fun j d u hj hu => ?_
      have hjc : j < cs.length := by have := lt_of_get hj; omega
      exact ih j _ d (List.getElem?_eq_getElem hjc) hj (h' j _ u (List.getElem?_eq_getElem hjc) hu)
  | sl sz xs ys hl hy h ih =>
    intro v hv
    generalize hn : xs.length = n at hl
    generalize hq : V.sl sz xs = q at hv
    cases hv with
    | sl sz' xs' a cap vals hcap hmax hsz ha hr =>
      injection hq with e1 e2
      subst e1 e2
      rw [hn, hl]
      refine .sl sz ys a cap vals (by omega) hmax hy (fun hne => ?_) (fun i y j d hi hj => ?_)
      · obtain ⟨ad, k1, _, k3, k4⟩ := ha (fun e => hne (by rw [e] at hn; exact List.length_eq_zero_iff.1 (by simp at hn; omega)))
        exact ⟨ad, k1, killAll_no _, k3, fun j hj => k4 j (by rw [hn, hl]; exact hj)⟩
      · have hix : i < xs.length := by have := lt_of_get hi; omega
        have hx := List.getElem?_eq_getElem hix
        have hc1 := (hsz _ (List.mem_of_getElem? hx)).1
        have hc2 := (hy _ (List.mem_of_getElem? hi)).1
        have hjx : j < (xs[i]).cells.length := by have := lt_of_get hj; omega
        exact ih i _ y j _ d hx hi (List.getElem?_eq_getElem hjx) hj (hr i _ j _ hx (List.getElem?_eq_getElem hjx))
    | _ => cases hq

/-- .. all at once. -/
def FzL (B : Base) : List V → List V → Prop
  | [], [] => True
  | x :: xs, y :: ys => Fz B x y ∧ FzL B xs ys
  | _, _ => False
theorem FzL.get {B : Base} : ∀ {xs ys : List V}, FzL B xs ys → xs.length = ys.length ∧ ∀ (j : Nat) (y : V), ys[j]? = some y → ∃ x, xs[j]? = some x ∧ Fz B x y
  | [], [], _ => ⟨rfl, fun j y h => by simp at h⟩
  | x :: xs, y :: ys, h => by
    obtain ⟨h1, h2⟩ := FzL.get h.2
    refine ⟨by simp [h1], fun j z hz => ?_⟩
    cases j with
    | zero => simp at hz; subst hz; exact ⟨x, rfl, h.1⟩
    | succ j => simpa using h2 j z (by simpa using hz)
  | [], _ :: _, h => h.elim
  | _ :: _, [], h => h.elim

/-- A call that is handed named memory, and hands back a number, a truth value or a text. -/
theorem call_flatN {c : Cx} {g : FuncId} {args args' : List V} {E : Env} {T : Heap} {K : V → St → Prop} {x : V} (hf : Pure c.P g args' (fun y => y = x)) (hz : FzL c.B args args') (hi : c.imps = []) (ha : V.pureL args = true) (ha' : V.pureL args' = true) (hx : flatB x = true) (h : K x ⟨E, T, c.B, c.D⟩) : CallThen c g args E T K := by
  have hen : Enterable c.P g := by
    unfold Pure Fun at hf
    exact hf.1
  unfold CallThen
  refine ⟨hen, fun w β H m a vals cs hs hl hr => ?_⟩
  obtain ⟨hzl, hzg⟩ := hz.get
  obtain ⟨y, v, w', β', H', fr, rfl, hp, g3, hb, g4, g5, g6⟩ := pure_still (β := β) (H := H.map fun _ => none) hf ha' cs (hzl.symm.trans hl) (fun j y v hj hv => by
    obtain ⟨x0, h1, h2⟩ := hzg j y hj
    have h3 := hr j x0 v h1 hv
    rw [pure_conv _ _ (pureL_mem _ ha x0 (List.mem_of_getElem? h1))] at h3
    exact h2.rep hs.hrel (fun q o hq => hs.baseAt (by rw [hi]; simp) hq) h3)
  have g2' : Fr w β H w' β H := Fr.of_below hb
  exact ⟨y, _, v, w', β, H, m, fr, h, hs.same g2' (hs.hrel.of_below hb), g2', by rw [pure_conv _ _ hp]; exact g3.flat hx, g4, g5, g6, List.prefix_refl _⟩

/-! ### Functions that write over named memory -/
/-- The same rows, of the same shapes. -/
def ShpEq (B B' : Base) : Prop := ∀ r g sz xs, B r = some (.vec g sz xs) → ∃ xs' : List V, B' r = some (.vec g sz xs') ∧ xs'.length = xs.length
theorem ShpEq.refl (B : Base) : ShpEq B B := fun _ _ _ xs h => ⟨xs, h, rfl⟩
theorem ShpEq.trans {A B C : Base} (h : ShpEq A B) (k : ShpEq B C) : ShpEq A C := fun r g sz xs e => by
  obtain ⟨xs', h1, h2⟩ := h r g sz xs e
  obtain ⟨xs'', k1, k2⟩ := k r g sz xs' h1
  exact ⟨xs'', k1, k2.trans h2⟩
/-! ### Stores into named memory -/
section
variable {c : Cx} {E : Env} {T : Heap} {ops : Array Oper} {i : Nat} {rest : List Nat} {k : List Item} {o : Oper}

theorem goes_fieldA {t : TypeId} {x : Operand} {f r g ix off sz : Nat} {xs : List V} {fs : Array Field} {fd : Field} {ti : TypeInfo} (n : Nat) (ho : lget ops.toList i = some o) (hg : o.guard = none) (hop : o.op = .fieldAddr t x f) (hx : opd E x = .eptr (.abs r) g ix off)
    (ht : tyU c.P t = some (.struct fs)) (hfd : lget fs.toList f = some fd) (hti : tyI c.P fd.type = some ti) (hsz : Nat.ble 1 ti.size = true) (hi : r ∉ c.imps) (hB : c.B r = some (.vec g sz xs))
    (h : putE c.nt o.dst (.eptr (.abs r) g ix (off + fd.offset)) E False fun E' => evp c n (.inRegion ops rest :: k) E' T) : Goes c (.inRegion ops (i :: rest) :: k) E T := by
  refine goes_opTo n ho hg hop (OpTo.still fun o hop w β H m a hs => ?_) (fun cl h => by cases h) h
  have hp := opd_rep hs x
  have hH : H[r]? = some (some (.vec g sz xs)) := hs.baseAt hi hB
  rw [lget_eq] at hfd
  have hf : fs[f]? = some fd := by simpa using hfd
  simp only [hx, V.conv, Ref.conv] at hp
  generalize hq : a.eval x = q at hp
  cases hp with
  | eptrLive _ _ _ _ sz' xs' b N hH' hβ hi =>
    refine ⟨.pointer (some ((⟨b, ix * sz' + off, none⟩ : Addr).add fd.offset)), by simp [execOp, hop, hq, run_fieldAt (tyU_sound ht) hf (tyI_sound hti) (Nat.le_of_ble_eq_true hsz)], ?_⟩
    rw [add_none, Nat.add_assoc]
    exact .eptrLive r g ix _ sz' xs' b N hH' hβ hi
  | eptrStale _ _ _ _ g' sz' xs' _ hH' hg =>
    rw [hH] at hH'
    injection hH' with hH'
    injection hH' with hH'
    injection hH' with e0 _ _
    omega
  | eptrDead _ _ _ _ _ hd => rw [hH] at hd; cases hd

theorem over_has {α : Type} (xs cs : List α) (n : Nat) (h : n + cs.length ≤ xs.length) : ∃ ys, over xs n cs ys := by
  refine ⟨xs.take n ++ cs ++ xs.drop (n + cs.length), h, by simp; omega, fun j => ?_⟩
  rcases Nat.lt_or_ge j n with h1 | h1
  · rw [if_neg (by omega), List.append_assoc, List.getElem?_append_left (by simp; omega), List.getElem?_take, if_pos h1]
  · rcases Nat.lt_or_ge j (n + cs.length) with h2 | h2
    · rw [if_pos ⟨h1, h2⟩, List.getElem?_append_left (by simp; omega), List.getElem?_append_right (by simp; omega)]
      have : min n xs.length = n := by omega
      simp [this]
    · rw [if_neg (by omega), List.getElem?_append_right (by simp; omega)]
      have e1 : min n xs.length = n := by omega
      simp only [List.length_append, List.length_take, e1, List.getElem?_drop]
      rw [Nat.add_sub_cancel' h2]

theorem goes_storeA {t : TypeId} {x y : Operand} {r g ix off sz : Nat} {xs : List V} {ti : TypeInfo} (n : Nat) (ho : lget ops.toList i = some o) (hg : o.guard = none) (hop : o.op = .store t x y) (hx : opd E x = .eptr (.abs r) g ix off)
    (hb : (Nat.beq (lcount (opd E y).cells 0) ti.size && onesB (opd E y).cells && V.pureL (opd E y).cells) = true) (ht : tyI c.P t = some ti) (hi : r ∉ c.imps) (hB : c.B r = some (.vec g sz xs)) (hl : ix < xs.length) (hoff : off + ti.size ≤ sz)
    (h : ∀ B' xs', xs'.length = xs.length → B' r = some (.vec g sz xs') → (∀ q, q ≠ r → B' q = c.B q) → putE c.nt o.dst (.tup []) E False fun E' => evp { c with B := B' } n (.inRegion ops rest :: k) E' T) :
    Goes c (.inRegion ops (i :: rest) :: k) E T := by
  rw [lget_eq, Array.getElem?_toList] at ho
  rw [lcount_eq] at hb
  simp only [Bool.and_eq_true, Nat.add_zero] at hb
  have hsz := Nat.eq_of_beq_eq_true hb.1.1
  refine goes_step fun w β H m a fb cs hs _ _ _ => ?_
  have hp := opd_rep hs x
  have hH : H[r]? = some (some (.vec g sz xs)) := hs.baseAt hi hB
  have hrm : r ∉ m := hs.notIn hB hi
  simp only [hx, V.conv, Ref.conv] at hp
  have hob := hs.hrel.obj r _ hH
  generalize hv : a.eval x = q at hp
  cases hp with
  | eptrStale _ _ _ _ g' sz' xs' _ hH' hg =>
    rw [hH] at hH'
    injection hH' with hH'
    injection hH' with hH'
    injection hH' with e0 _ _
    omega
  | eptrDead _ _ _ _ _ hd => rw [hH] at hd; cases hd
  | eptrLive _ _ _ _ sz' xs' b N hH' hβ hi' =>
  rw [hH] at hH'
  injection hH' with hH'
  injection hH' with hH'
  injection hH' with _ e1 e2
  subst e1 e2
  obtain ⟨x0, hx0⟩ : ∃ x0, xs[ix]? = some x0 := ⟨_, List.getElem?_eq_getElem hl⟩
  rw [hβ] at hob
  obtain ⟨vs, e, hty, hbk, hN, hle, hpos, hok, hc⟩ := hob
  have hy : Rep w β H ((opd E y).conv m) (a.eval y) := opd_rep hs y
  obtain ⟨hyl, hyc, hy1⟩ := rep_cells hy (by rw [cells_conv, onesB_conv]; exact hb.1.2)
  rw [cells_conv, pureL_conv _ _ hb.2] at hyl hyc
  obtain ⟨hx0l, hx0o⟩ := hok x0 (List.mem_of_getElem? hx0)
  obtain ⟨cs', ho'⟩ := over_has x0.cells (opd E y).cells off (by omega)
  have hixl := hl
  have hrow : ix * sz + sz ≤ vs.size := by
    have : (ix + 1) * sz ≤ xs.length * sz := Nat.mul_le_mul_right _ hixl
    rw [Nat.add_mul] at this
    omega
  have hofit : off + (opd E y).cells.length ≤ x0.cells.length := ho'.1
  have hfit : ix * sz + off + (a.eval y).cells.size ≤ vs.size := by omega
  have hrun := run_storeCells_at c.P b (ix * sz + off) e (a.eval y).cells.toList 0 vs w hbk (by simpa using hfit) hy1
  have hI := tyI_sound ht
  obtain ⟨vs', hvs'⟩ : ∃ vs', vs' = (vs.toList.take (ix * sz + off + 0) ++ (a.eval y).cells.toList ++ vs.toList.drop (ix * sz + off + 0 + (a.eval y).cells.toList.length)).toArray := ⟨_, rfl⟩
  rw [← hvs'] at hrun
  have hheap : (w.setRow b vs').heap[b]? = some (.cells vs' e (0, 0)) := setRow_heap w b vs _ e _ hbk
  have hother : ∀ q, q ≠ b → (w.setRow b vs').heap[q]? = w.heap[q]? := fun q hq => setRow_other w b q _ hq
  have hvsz : vs'.size = vs.size := by rw [hvs']; simp; omega
  have hget : ∀ j, vs'[j]? = if ix * sz + off ≤ j ∧ j < ix * sz + off + (a.eval y).cells.size then (a.eval y).cells[j - (ix * sz + off)]? else vs[j]? := by
    intro j
    rw [hvs']
    simp only [Nat.add_zero, Array.length_toList, List.getElem?_toArray]
    rcases Nat.lt_or_ge j (ix * sz + off) with h1 | h1
    · rw [if_neg (by omega), List.getElem?_append_left (by simp; omega), List.getElem?_append_left (by simp; omega), List.getElem?_take, if_pos h1]
      simp
    · rcases Nat.lt_or_ge j (ix * sz + off + (a.eval y).cells.size) with h2 | h2
      · rw [if_pos ⟨h1, h2⟩, List.getElem?_append_left (by simp; omega), List.getElem?_append_right (by simp; omega)]
        have : min (ix * sz + off) vs.size = ix * sz + off := by omega
        simp [this]
      · rw [if_neg (by omega), List.getElem?_append_right (by simp; omega)]
        have e1 : min (ix * sz + off) vs.size = ix * sz + off := by omega
        simp only [List.length_append, List.length_take, Array.length_toList, e1, List.getElem?_drop]
        rw [Nat.add_sub_cancel' h2]
        simp
  have hones : onesB cs' = true := by
    rw [onesB_iff]
    intro z hz
    obtain ⟨j, hj, rfl⟩ := List.mem_iff_getElem.1 hz
    have := ho'.2.2 j
    rw [List.getElem?_eq_getElem hj] at this
    split at this
    · exact (onesB_iff _).1 hb.1.2 _ (List.mem_of_getElem? this.symm)
    · exact (onesB_iff _).1 hx0o _ (List.mem_of_getElem? this.symm)
  have hcs' : cs'.length = sz := ho'.2.1.trans hx0l
  have hmk : (mkE x0 cs').cells = cs' := mkE_cells x0 cs' hones
  obtain ⟨xs', hxs'⟩ : ∃ xs', xs' = xs.set ix (mkE x0 cs') := ⟨_, rfl⟩
  have hxl : xs'.length = xs.length := by rw [hxs']; simp
  have hfr : Fr w β H (w.setRow b vs') β (H.set r (some (.vec g sz xs'))) := Fr.turn hH hβ ⟨Nat.le_refl _, fun _ => ⟨rfl, hxl.symm⟩⟩ rfl rfl rfl (by simp [World.setRow]) hother
  have hok' : ∀ x ∈ xs', okE sz x := fun x hx => by
    rw [hxs'] at hx
    rcases List.mem_or_eq_of_mem_set hx with h1 | h1
    · exact hok x h1
    · subst h1
      exact ⟨by rw [hmk]; exact hcs', by rw [hmk]; exact hones⟩
  have hrel : HRel (w.setRow b vs') β (H.set r (some (.vec g sz xs'))) := by
    refine hs.hrel.turn hH hβ ⟨Nat.le_refl _, fun _ => ⟨rfl, hxl.symm⟩⟩ rfl rfl rfl (by simp [World.setRow]) hother ⟨vs', e, hty, hheap, by omega, by rw [hxl]; omega, hpos, hok', fun i1 z j z1 u hi1 hj hu => ?_⟩
    refine Rep.mono ?_ hfr
    rw [hget] at hu
    have hzl := (hok' z (List.mem_of_getElem? hi1)).1
    have hjl := lt_of_get hj
    rw [hxs'] at hi1
    by_cases hii : i1 = ix
    · subst hii
      rw [List.getElem?_set_self hixl] at hi1
      injection hi1 with hi1
      subst hi1
      rw [hmk, ho'.2.2 j] at hj
      split at hj
      · rename_i hjj
        rw [if_pos (by omega)] at hu
        refine hyc (j - off) z1 u hj ?_
        rw [← hu]
        congr 1
        omega
      · rename_i hjj
        rw [if_neg (by omega)] at hu
        exact hc i1 x0 j z1 u hx0 hj hu
    · rw [List.getElem?_set_ne (fun e => hii e.symm)] at hi1
      have hne : ¬ (ix * sz + off ≤ i1 * sz + j ∧ i1 * sz + j < ix * sz + off + (a.eval y).cells.size) := by
        rintro ⟨q1, q2⟩
        rcases Nat.lt_or_gt_of_ne hii with h3 | h3
        · have : (i1 + 1) * sz ≤ ix * sz := Nat.mul_le_mul_right _ h3
          rw [Nat.add_mul] at this
          omega
        · have : (ix + 1) * sz ≤ i1 * sz := Nat.mul_le_mul_right _ h3
          rw [Nat.add_mul] at this
          omega
      rw [if_neg hne] at hu
      exact hc i1 z j z1 u hi1 hj hu
  obtain ⟨B', hB'⟩ : ∃ B' : Base, B' = fun q => if q = r then some (.vec g sz xs') else c.B q := ⟨_, rfl⟩
  have hBr : B' r = some (.vec g sz xs') := by rw [hB']; simp
  have hBn : ∀ q, q ≠ r → B' q = c.B q := fun q hq => by rw [hB']; simp [hq]
  have hrl := lt_of_get hH
  have hset : SRel c.imps c.nt (w.setRow b vs') β (H.set r (some (.vec g sz xs'))) m ⟨E, T, B', c.D⟩ a := by
    refine ⟨hrel, hs.size, fun k => (hs.env k).mono hfr, hs.mlen, hs.nodup, fun j q ob hj hob => ?_, hs.imp, fun q hq hqm => ?_, fun q hq => ?_, fun j q hj hq => ?_, hs.scE, hs.scT, hs.defs, hs.marks⟩
    · have hqr : q ≠ r := fun e => hrm (e ▸ List.mem_of_getElem? hj)
      rw [List.getElem?_set_ne (fun e => hqr e.symm)]
      exact hs.loc j q ob hj hob
    · simp only
      by_cases hqr : q = r
      · subst hqr
        rw [List.getElem?_set_self hrl, hBr]
      · rw [List.getElem?_set_ne (fun e => hqr e.symm), hBn q hqr]
        exact hs.base q (by simpa using hq) hqm
    · have hqr : q ≠ r := fun e => by subst e; simp at hq; omega
      simp only
      rw [hBn q hqr]
      exact hs.fut q (by simpa using hq)
    · have hqr : q ≠ r := fun e => hrm (e ▸ List.mem_of_getElem? hq)
      simp only
      rw [hBn q hqr]
      exact hs.own j q hj hq
  obtain ⟨E', hk, hd⟩ := (putE_some (h B' xs' hxl hBr hBn)).resolve_left id
  have hput := hset.putTo (d := o.dst) (x := .tup []) (v := Go.undef) (E' := E') (.tup [] #[] rfl fun j z u h1 _ => by simp at h1) hd
  refine ⟨w.setRow b vs', β, _, m, a.put o.dst Go.undef, _, ⟨E', T, B', c.D⟩, op_step (c := c) ho (wanted_none hg _) (fun cl e => by rw [hop] at e; cases e) (nx := .skip) ?_ (.inr ⟨rfl, rfl⟩), hput, hfr, evp_sound n _ _ _ _ hk⟩
  simp [execOp, hop, Instr.storeAt, Instr.sureAddr, hv, storeVar, run_sizeOf' hI, ← hsz, ← hyl, hrun]
end
end Bow
/- AE46: a nil slice in a cell of a box, as own memory; named results that say less. -/
namespace Bow
open Go

section
variable {c : Cx} {E : Env} {T : Heap}
theorem goes_nilCell {todo : List Item} (kb j sz : Nat) {cs : List V} (hk : lget T kb = some (some (.box cs))) (hj : cs[j]? = some .nilsl) (h : Goes c todo E (List.set (T ++ [some (HObj.vec 0 sz [])]) kb (some (HObj.box (cs.set j (.osl (.loc T.length) 0 0 0)))))) : Goes c todo E T := by
  rw [lget_eq] at hk
  refine goes_step fun w β H m a b cs0 hs _ _ _ => ?_
  obtain ⟨β', H', k1, k2, k3⟩ := hs.newNil 0 sz none
  have hk2 : (T ++ [some (HObj.vec 0 sz [])])[kb]? = some (some (.box cs)) := by rw [List.getElem?_append_left (lt_of_get hk)]; exact hk
  obtain ⟨r, hr, hH⟩ := k1.at hk2
  have hob := k1.hrel.obj r _ hH
  have hfr : Fr w β' H' w β' (H'.set r (some ((HObj.box (cs.set j (.osl (.loc T.length) 0 0 0))).conv (m ++ [H.length])))) := Fr.swap hH trivial
  have hrel : HRel w β' (H'.set r (some ((HObj.box (cs.set j (.osl (.loc T.length) 0 0 0))).conv (m ++ [H.length])))) := by
    refine k1.hrel.swap hH trivial ?_
    simp only [HObj.conv]
    cases hβ : β' r with
    | none => trivial
    | nil => rw [hβ] at hob; exact hob
    | blk bb N =>
      rw [hβ] at hob
      obtain ⟨vs, e, q1, q2, q3, q4⟩ := hob
      rw [V.convL_eq, List.length_map] at q3
      refine ⟨vs, e, q1, q2, by rw [V.convL_eq]; simpa using q3, fun i x v hi hv => ?_⟩
      rw [V.convL_eq, List.getElem?_map, Option.map_eq_some_iff] at hi
      obtain ⟨y, hy, rfl⟩ := hi
      by_cases hij : i = j
      · subst hij
        rw [List.getElem?_set_self (lt_of_get hj)] at hy
        injection hy with hy
        subst hy
        have h0 := q4 i .nilsl v (by rw [V.convL_eq, List.getElem?_map, hj]; rfl) hv
        cases h0
        exact k3.mono (by rw [← HObj.conv]; exact hfr)
      · rw [List.getElem?_set_ne (fun e => hij e.symm)] at hy
        exact (q4 i _ v (by rw [V.convL_eq, List.getElem?_map, hy]; rfl) hv).mono (by rw [← HObj.conv]; exact hfr)
  have hm : m.length = T.length := hs.mlen
  have hsc0 : (HObj.box cs).sc (m ++ [H.length]).length := by
    have h1 := k1.scT kb _ hk2
    have h2 : (m ++ [H.length]).length = (T ++ [some (HObj.vec 0 sz [])]).length := k1.mlen
    rw [h2]
    exact h1
  have hset := k1.setAt (o' := some (.box (cs.set j (.osl (.loc T.length) 0 0 0)))) (w' := w) hr (fun o1 e1 => by
      injection e1 with e1
      subst e1
      show V.scL _ _
      rw [V.scL_iff]
      have hsc' := (V.scL_iff _ _).1 hsc0
      intro v hv
      rcases List.mem_or_eq_of_mem_set hv with hv | hv
      · exact hsc' v hv
      · subst hv
        show T.length < (m ++ [H.length]).length
        simp only [List.length_append, List.length_singleton]
        omega)
    (fun hm => absurd hm (k1.notD hk2 (by simp))) hfr hrel
  exact ⟨w, β', _, m ++ [H.length], a, todo, ⟨E, _, c.B, c.D⟩, .refl _ _, hset, k2.trans hfr, h⟩
end

theorem funN_wk {P : Program} {g : FuncId} {args : List V} {Q : V → Base → Prop} (h : FunN P g args fun x N => ∃ y, Wk x y ∧ y.pureB = true ∧ Q y N) : FunN P g args Q := by
  unfold FunN at *
  refine ⟨h.1, fun w β H B vals cs hs hl hr => ?_⟩
  obtain ⟨x, N, v, w', β', H', fr, ⟨y, q1, q2, q3⟩, k1, k2, k3, k4, k5, k6⟩ := h.2 w β H B vals cs hs hl hr
  exact ⟨y, N, v, w', β', H', fr, q3, k1, k2, k3, q1 _ _ _ _ k4, q2, k6⟩
end Bow
/- W76: treeops.Bare, seen to hand back rows of its own. -/
namespace Bow
open Go Go.Proofs

/-- The names of an operation's rows, and their generations. -/
structure Ns where
  p : Nat
  gp : Nat
  t : Nat
  gt : Nat
  s : Nat
  gs : Nat
def opN (ns : Ns) (o : OpT) : V := .agg [.int .u8 o.kind, .osl (.abs ns.p) ns.gp 0 (o.path.map intV).length, .int .i64 o.at_, .osl (.abs ns.t) ns.gt 0 (o.to.map intV).length, .int .u64 o.id, .bool o.leaf, .str o.label, .str o.key, .str o.value, .bool o.gone, .osl (.abs ns.s) ns.gs 0 (o.pieces.map pieceV).length]
structure NsOk (N : Base) (ns : Ns) (o : OpT) : Prop where
  path : N ns.p = some (.vec ns.gp 1 (o.path.map intV))
  to : N ns.t = some (.vec ns.gt 1 (o.to.map intV))
  pieces : N ns.s = some (.vec ns.gs 3 (o.pieces.map pieceV))
theorem NsOk.ext {N N' : Base} {ns : Ns} {o : OpT} (h : NsOk N ns o) (e : Ext N N') : NsOk N' ns o := ⟨e _ _ h.path, e _ _ h.to, e _ _ h.pieces⟩

def BareQ (o : OpT) (x : V) (T' : Heap) : Prop := ∃ (kp gp kt gt ks gs : Nat) (l e : V), x = .agg [.int .u8 o.kind, .osl (.loc kp) gp 0 (o.path.map intV).length, .int .i64 o.at_, .osl (.loc kt) gt 0 (o.to.map intV).length, .int .u64 o.id, l, .str o.label, .str o.key, .str o.value, e, .osl (.loc ks) gs 0 (o.pieces.map pieceV).length] ∧
  (Wk l (.bool o.leaf) ∧ l.pureB = true) ∧ (Wk e (.bool o.gone) ∧ e.pureB = true) ∧ (lget T' kp = some (some (.vec gp 1 (o.path.map intV))) ∧ lget T' kt = some (some (.vec gt 1 (o.to.map intV))) ∧ lget T' ks = some (some (.vec gs 3 (o.pieces.map pieceV)))) ∧ allLive T' = true
theorem bareQ_of {o o' : OpT} {x : V} {T' : Heap} (e : o = o') (h : BareQ o' x T') : BareQ o x T' := e ▸ h

theorem w_someIntF (p : List Int) (h : p.length ≤ 1000000) : Fun Tryz.prog 117 [] [pathV p] (fun x T' => ∃ g0, x = .osl (.loc 0) g0 0 (p.map intV).length ∧ T' = [some (.vec g0 1 (p.map intV))]) := by
  refine fun_fn 100 Tryz.func117 rfl rfl rfl fun imps B hi => ?_
  refine ⟨Nat.le_trans (Nat.mul_le_mul_right _ (show (p.map intV).length ≤ 1000000 by simpa using h)) (by decide), ?_⟩
  exact ⟨trivial, rfl, rfl, 0, rfl, rfl⟩
theorem w_somePieceF (p : List PieceT) (h : p.length ≤ 1000000) : Fun Tryz.prog 118 [] [piecesV p] (fun x T' => ∃ g0, x = .osl (.loc 0) g0 0 (p.map pieceV).length ∧ T' = [some (.vec g0 3 (p.map pieceV))]) := by
  refine fun_fn 100 Tryz.func118 rfl rfl rfl fun imps B hi => ?_
  refine ⟨Nat.le_trans (Nat.mul_le_mul_right _ (show (p.map pieceV).length ≤ 1000000 by simpa using h)) (by decide), ?_⟩
  exact ⟨trivial, rfl, rfl, 0, rfl, rfl⟩

set_option maxHeartbeats 2000000 in
set_option maxRecDepth 100000 in
theorem w_BareF (o : OpT) (ho : o.Lt 1000000) : Fun Tryz.prog 61 [] [opV o] (BareQ (bareO o)) := by
  refine fun_fn 100 Tryz.func61 rfl rfl rfl fun imps B hi => ?_
  have : imps = [] := List.length_eq_zero_iff.1 hi
  subst this
  show Goes _ _ _ _
  refine goes_drawN [117] 0 ?_
  refine ⟨1, o.path.map intV, w_someIntF o.path ho.path, rfl, rfl, ?_⟩
  refine ⟨by kernel_rfl, ?_⟩
  refine ⟨by kernel_rfl, ?_⟩
  show Goes _ _ _ _
  refine goes_nilCell 3 3 1 rfl rfl ?_
  refine goes_nilCell 3 10 3 rfl rfl ?_
  refine go 100 ?_
  refine ⟨fun g1 => go 100 ?_, fun g1 => go 100 ?_⟩
  · have g1 := eq_of g1
    have e : bareO o = { noOp 1 with path := o.path, at_ := o.at_, id := o.id, leaf := o.leaf, label := o.label } := by simp only [bareO, g1]; rfl
    show Goes _ _ _ _
    refine goes_draw 100 ?_
    refine ⟨by kernel_rfl, ?_⟩
    exact ⟨trivial, rfl, rfl, bareQ_of e ⟨2, 2, 4, 0, 5, 0, .bool o.leaf, .ff, by rw [← g1]; rfl, ⟨.refl _, rfl⟩, ⟨Wk.ff, rfl⟩, ⟨rfl, rfl, rfl⟩, rfl⟩⟩
  refine ⟨fun g2 => go 100 ?_, fun g2 => go 100 ?_⟩
  · have g2 := eq_of g2
    have e : bareO o = { noOp 2 with path := o.path } := by simp only [bareO, g2]; rfl
    exact ⟨trivial, rfl, rfl, bareQ_of e ⟨2, 2, 4, 0, 5, 0, .ff, .ff, by rw [← g2]; rfl, ⟨Wk.ff, rfl⟩, ⟨Wk.ff, rfl⟩, ⟨rfl, rfl, rfl⟩, rfl⟩⟩
  refine ⟨fun g3 => go 100 ?_, fun g3 => go 100 ?_⟩
  · have g3 := eq_of g3
    have e : bareO o = { noOp 3 with path := o.path, at_ := o.at_, to := o.to } := by simp only [bareO, g3]; rfl
    show Goes _ _ _ _
    refine goes_drawN [117] 100 ?_
    refine ⟨1, o.to.map intV, w_someIntF o.to ho.to, rfl, rfl, ?_⟩
    refine ⟨by kernel_rfl, ?_⟩
    exact ⟨trivial, rfl, rfl, bareQ_of e ⟨2, 2, 6, 2, 5, 0, .ff, .ff, by rw [← g3]; rfl, ⟨Wk.ff, rfl⟩, ⟨Wk.ff, rfl⟩, ⟨rfl, rfl, rfl⟩, rfl⟩⟩
  refine ⟨fun g4 => go 100 ?_, fun g4 => go 100 ?_⟩
  · have g4 := eq_of g4
    show Goes _ _ _ _
    refine goes_draw 100 ?_
    refine ⟨by kernel_rfl, ?_⟩
    refine ⟨fun h => go 100 ?_, fun h => go 100 ?_⟩
    · have h : o.gone = false := by simpa using h
      have e : bareO o = { noOp 4 with path := o.path, key := o.key, gone := o.gone, value := o.value } := by simp only [bareO, g4, h]; rfl
      exact ⟨trivial, rfl, rfl, bareQ_of e ⟨2, 2, 4, 0, 5, 0, .ff, .bool o.gone, by rw [← g4]; rfl, ⟨Wk.ff, rfl⟩, ⟨.refl _, rfl⟩, ⟨rfl, rfl, rfl⟩, rfl⟩⟩
    · have h : o.gone = true := by simpa using h
      have e : bareO o = { noOp 4 with path := o.path, key := o.key, gone := o.gone, value := [] } := by simp only [bareO, g4, h]; rfl
      exact ⟨trivial, rfl, rfl, bareQ_of e ⟨2, 2, 4, 0, 5, 0, .ff, .bool o.gone, by rw [← g4]; rfl, ⟨Wk.ff, rfl⟩, ⟨.refl _, rfl⟩, ⟨rfl, rfl, rfl⟩, rfl⟩⟩
  refine ⟨fun g5 => go 100 ?_, fun g5 => go 100 ?_⟩
  · have g5 := eq_of g5
    have e : bareO o = { noOp 5 with path := o.path, label := o.label } := by simp only [bareO, g5]; rfl
    exact ⟨trivial, rfl, rfl, bareQ_of e ⟨2, 2, 4, 0, 5, 0, .ff, .ff, by rw [← g5]; rfl, ⟨Wk.ff, rfl⟩, ⟨Wk.ff, rfl⟩, ⟨rfl, rfl, rfl⟩, rfl⟩⟩
  refine ⟨fun g6 => go 100 ?_, fun g6 => go 4 ?_⟩
  · have g6 := eq_of g6
    have e : bareO o = { noOp 6 with path := o.path, pieces := o.pieces } := by simp only [bareO, g6]; rfl
    show CallThen _ _ _ _ _ _
    refine call_sub [] (w_somePieceF o.pieces ho.pieces) rfl rfl trivial rfl rfl rfl ?_
    rintro x T1 ⟨g0, rfl, rfl⟩
    refine ⟨rfl, ?_⟩
    exact ⟨trivial, rfl, rfl, bareQ_of e ⟨2, 2, 4, 0, 6, g0, .ff, .ff, by rw [← g6]; rfl, ⟨Wk.ff, rfl⟩, ⟨Wk.ff, rfl⟩, ⟨rfl, rfl, rfl⟩, rfl⟩⟩
  · have g1 := ne_of g1
    have g2 := ne_of g2
    have g3 := ne_of g3
    have g4 := ne_of g4
    have g5 := ne_of g5
    have g6 := ne_of g6
    have e : bareO o = noOp o.kind := by
      unfold bareO
      rw [show (o.kind == 1) = false by simpa using g1, show (o.kind == 2) = false by simpa using g2, show (o.kind == 3) = false by simpa using g3, show (o.kind == 4) = false by simpa using g4, show (o.kind == 5) = false by simpa using g5, show (o.kind == 6) = false by simpa using g6]
      rfl
    show Goes _ _ _ _
    refine goes_nilCell 3 1 1 rfl rfl ?_
    refine go 100 ?_
    exact ⟨trivial, rfl, rfl, bareQ_of e ⟨6, 0, 4, 0, 5, 0, .ff, .ff, rfl, ⟨Wk.ff, rfl⟩, ⟨Wk.ff, rfl⟩, ⟨rfl, rfl, rfl⟩, rfl⟩⟩

theorem w_BareN (o : OpT) (ho : o.Lt 1000000) : FunN Tryz.prog 61 [opV o] (fun x N => ∃ ns, x = opN ns (bareO o) ∧ NsOk N ns (bareO o)) := by
  refine funN_wk ((funN_of_fun (w_BareF o ho) rfl fun x T' h => ?_).mono fun x N => ?_)
  · obtain ⟨kp, gp, kt, gt, ks, gs, l, e, _, _, _, _, h⟩ := h
    exact h
  rintro ⟨x', T', m', ⟨kp, gp, kt, gt, ks, gs, l, e, rfl, ⟨l1, l2⟩, ⟨e1, e2⟩, ⟨h1, h2, h3⟩, _⟩, rfl, hl, _, hN⟩
  simp only [lget_eq] at h1 h2 h3
  have get : ∀ (k : Nat) (o : HObj), T'[k]? = some (some o) → ∃ q, m'[k]? = some q := fun k o h => ⟨_, List.getElem?_eq_getElem (by have := lt_of_get h; omega)⟩
  obtain ⟨q1, k1⟩ := get _ _ h1
  obtain ⟨q2, k2⟩ := get _ _ h2
  obtain ⟨q3, k3⟩ := get _ _ h3
  refine ⟨opN ⟨q1, gp, q2, gt, q3, gs⟩ (bareO o), ?_, rfl, _, rfl, ⟨hN kp q1 _ k1 h1, hN kt q2 _ k2 h2, hN ks q3 _ k3 h3⟩⟩
  simp only [V.conv, V.convL, Ref.conv, k1, k2, k3, pure_conv m' l l2, pure_conv m' e e2]
  exact Wk.agg ⟨.refl _, .refl _, .refl _, .refl _, .refl _, l1, .refl _, .refl _, .refl _, e1, .refl _, trivial⟩
end Bow
/- W77: lists of operations whose rows have names; lists.bare, square.Behind, square.Both, lists.Both, seen to hand back memory of their own. -/
namespace Bow
open Go Go.Proofs

def OpsOk (N : Base) (zs : List (Ns × OpT)) : Prop := ∀ z ∈ zs, NsOk N z.1 z.2
theorem OpsOk.ext {N N' : Base} {zs : List (Ns × OpT)} (h : OpsOk N zs) (e : Ext N N') : OpsOk N' zs := fun z hz => (h z hz).ext e
theorem OpsOk.nil (N : Base) : OpsOk N [] := fun z hz => by cases hz
theorem OpsOk.snoc {N : Base} {zs : List (Ns × OpT)} {ns : Ns} {o : OpT} (h : OpsOk N zs) (k : NsOk N ns o) : OpsOk N (zs ++ [(ns, o)]) := fun z hz => by
  rcases List.mem_append.1 hz with hz | hz
  · exact h z hz
  · rw [List.mem_singleton.1 hz]; exact k

end Bow
/- W78: bowerlaw12.spoil, which writes over an operation's own rows. -/
namespace Bow
open Go Go.Proofs

/-- The operation's rows stand there, whatever they hold. -/
structure NsShp (B : Base) (ns : Ns) (o : OpT) : Prop where
  path : ∃ xs : List V, B ns.p = some (.vec ns.gp 1 xs) ∧ xs.length = (o.path.map intV).length
  to : ∃ xs : List V, B ns.t = some (.vec ns.gt 1 xs) ∧ xs.length = (o.to.map intV).length
  pieces : ∃ xs : List V, B ns.s = some (.vec ns.gs 3 xs) ∧ xs.length = (o.pieces.map pieceV).length
theorem NsOk.shp {B : Base} {ns : Ns} {o : OpT} (h : NsOk B ns o) : NsShp B ns o := ⟨⟨_, h.path, rfl⟩, ⟨_, h.to, rfl⟩, ⟨_, h.pieces, rfl⟩⟩
theorem NsShp.to' {B B' : Base} {ns : Ns} {o : OpT} (h : NsShp B ns o) (k : ShpEq B B') : NsShp B' ns o := by
  obtain ⟨⟨xs, h1, e1⟩, ⟨ys, h2, e2⟩, ⟨zs, h3, e3⟩⟩ := h
  obtain ⟨xs', k1, f1⟩ := k _ _ _ _ h1
  obtain ⟨ys', k2, f2⟩ := k _ _ _ _ h2
  obtain ⟨zs', k3, f3⟩ := k _ _ _ _ h3
  exact ⟨⟨xs', k1, f1.trans e1⟩, ⟨ys', k2, f2.trans e2⟩, ⟨zs', k3, f3.trans e3⟩⟩
theorem NsShp.ext {B B' : Base} {ns : Ns} {o : OpT} (h : NsShp B ns o) (e : Ext B B') : NsShp B' ns o := by
  obtain ⟨⟨xs, h1, e1⟩, ⟨ys, h2, e2⟩, ⟨zs, h3, e3⟩⟩ := h
  exact ⟨⟨xs, e _ _ h1, e1⟩, ⟨ys, e _ _ h2, e2⟩, ⟨zs, e _ _ h3, e3⟩⟩
/-- One row written over. -/
theorem shp_step {B B0 B' : Base} {r g sz : Nat} {xs xs' : List V} {m : List Nat} (h0 : ShpEq B0 B) (q0 : ∀ q, q ∉ m → B q = B0 q) (hr : B r = some (.vec g sz xs)) (hm : r ∈ m) (h1 : B' r = some (.vec g sz xs')) (hl : xs'.length = xs.length) (hq : ∀ q, q ≠ r → B' q = B q) : ShpEq B0 B' ∧ ∀ q, q ∉ m → B' q = B0 q := by
  refine ⟨h0.trans fun r' g' sz' ys hy => ?_, fun q hqm => ?_⟩
  · by_cases e : r' = r
    · subst e
      rw [hr] at hy
      injection hy with hy
      injection hy with a1 a2 a3
      subst a1 a2 a3
      exact ⟨xs', h1, hl⟩
    · exact ⟨ys, by rw [hq r' e]; exact hy, rfl⟩
  · rw [hq q (fun e => hqm (e ▸ hm)), q0 q hqm]

end Bow
/- SP28: where a node is, number by number (the document's answer), in plain Lean. -/
namespace Bow
open Go

end Bow
/- W67: the document's answer of chapter 11: Moves, parent, child, Node, Gap, Undo. -/
namespace Bow
open Go Go.Proofs

end Bow
/- SP27: two edits behind each other, place by place, in plain Lean: as leaftext goes, by runs, it is the same. -/
namespace Bow
open Go

def Later (l : List PieceT) : Prop := ∀ p ∈ l, 0 < p.keep ∧ 0 ≤ p.drop
/-! ### What a maker makes is normal -/
/-! ### A row that stands at a run -/
def Run (n : Int) (d s : Bool) (r : List PieceT) : Prop :=
  (s = false ∧ d = false ∧ n = 0 ∧ r = []) ∨ (s = true ∧ 0 < n ∧ ∃ p l, r = p :: l ∧ 0 ≤ p.drop ∧ Later l ∧ ((d = false ∧ n = p.keep) ∨ (d = true ∧ p.keep = 0 ∧ p.put = [] ∧ n = p.drop)))
theorem Run.put {n : Int} {d s : Bool} {r : List PieceT} (h : Run n d s r) : rowPut r = ([], r) := by
  rcases h with ⟨_, _, _, rfl⟩ | ⟨_, hn, p, l, rfl, _, _, ⟨_, rfl⟩ | ⟨_, hk, hp, _⟩⟩
  · rfl
  · rw [rowPut, decide_eq_true hn]; rfl
  · rw [rowPut, hp]; simp
theorem Run.run {n : Int} {d s : Bool} {r : List PieceT} (h : Run n d s r) : rowRun r = ((n, d, s), r) := by
  rcases h with ⟨rfl, rfl, rfl, rfl⟩ | ⟨rfl, hn, p, l, rfl, _, _, ⟨rfl, rfl⟩ | ⟨rfl, hk, hp, rfl⟩⟩
  · rfl
  · rw [rowRun, decide_eq_true hn]; rfl
  · rw [rowRun, decide_eq_false (by omega : ¬ 0 < p.keep), decide_eq_true hn]; rfl
theorem Run.take {n j : Int} {d s : Bool} {r : List PieceT} (h : Run n d s r) (_ : 0 ≤ j) (hs : s = true → j < n) : Run (bif s then n - j else 0) d s (rowTake j r) := by
  rcases h with ⟨rfl, rfl, rfl, rfl⟩ | ⟨rfl, hn, p, l, rfl, hd, hl, ⟨rfl, rfl⟩ | ⟨rfl, hk, hp, rfl⟩⟩
  · exact .inl ⟨rfl, rfl, rfl, rfl⟩
  · have := hs rfl
    rw [rowTake, decide_eq_true hn]
    exact .inr ⟨rfl, by rw [cond_true]; omega, _, l, rfl, hd, hl, .inl ⟨rfl, rfl⟩⟩
  · have := hs rfl
    rw [rowTake, decide_eq_false (by omega : ¬ 0 < p.keep)]
    exact .inr ⟨rfl, by rw [cond_true]; omega, _, l, rfl, by show 0 ≤ p.drop - j; omega, hl, .inr ⟨rfl, hk, hp, rfl⟩⟩
theorem Run.take_take {n j : Int} {d s : Bool} {r : List PieceT} (h : Run n d s r) (_ : 0 ≤ j) (hs : s = true → j < n) : rowTake 1 (rowTake j r) = rowTake (j + 1) r := by
  rcases h with ⟨rfl, rfl, rfl, rfl⟩ | ⟨rfl, hn, p, l, rfl, hd, hl, ⟨rfl, rfl⟩ | ⟨rfl, hk, hp, rfl⟩⟩
  · rfl
  · have := hs rfl
    rw [rowTake, decide_eq_true hn, cond_true, rowTake, decide_eq_true (by show 0 < p.keep - j; omega), cond_true, rowTake, decide_eq_true hn, cond_true, show p.keep - j - 1 = p.keep - (j + 1) by omega]
  · have := hs rfl
    have e : decide (0 < p.keep) = false := decide_eq_false (by omega)
    rw [rowTake, e, cond_false, rowTake, e, cond_false, rowTake, e, cond_false, show p.drop - j - 1 = p.drop - (j + 1) by omega]
/-! ### Makers, byte by byte -/
theorem modL_modL (f g : PieceT → PieceT) : ∀ l : List PieceT, modL f (modL g l) = modL (fun p => f (g p)) l
  | [] => rfl
  | [p] => rfl
  | [p, q] => rfl
  | p :: q :: r :: l => by
    have ih := modL_modL f g (q :: r :: l)
    simp only [modL] at ih ⊢
    rw [ih]
theorem Mk.last_done (m : Mk) : ¬ 0 < m.last.keep ∧ m.last.l ≠ [] := by
  refine ⟨?_, m.last_ne⟩
  unfold Mk.last
  cases h : decide (0 < m.keep) || m.l.isEmpty with
  | true => simp
  | false =>
    rw [Bool.or_eq_false_iff] at h
    exact of_decide_eq_false h.1
theorem Mk.last_of {m : Mk} (h1 : ¬ 0 < m.keep) (h2 : m.l ≠ []) : m.last = m := by
  unfold Mk.last
  rw [decide_eq_false h1]
  cases h : m.l with
  | nil => exact absurd h h2
  | cons p l => rfl
theorem drop_drop (m : Mk) {j : Int} (hj : 0 < j) : (m.drop j).drop 1 = m.drop (j + 1) := by
  obtain ⟨h1, h2⟩ := m.last_done
  unfold Mk.drop
  rw [decide_eq_true hj, decide_eq_true (by omega : (0 : Int) < j + 1), cond_true, cond_true]
  rw [Mk.last_of (m := ⟨modL (fun p => { p with drop := p.drop + j }) m.last.l, m.last.keep⟩) h1 (modL_ne h2)]
  simp only [modL_modL]
  simp only [show (decide ((0 : Int) < 1)) = true from rfl, cond_true, Int.add_assoc]
/-! ### Place by place -/
def Tr.one (prior : Bool) (s : Tr) : Tr :=
  match s.puts prior with
  | ⟨p, q, x, y⟩ => Tr.does ⟨rowTake 1 (rowRun p).2, rowTake 1 (rowRun q).2, x, y⟩ 1 (rowRun p).1.2.1 (rowRun q).1.2.1
def Tr.bytes (prior : Bool) : Nat → Tr → Tr
  | 0, s => s
  | k + 1, s => Tr.bytes prior k (s.one prior)
/-! ### An edit, place by place -/
/-! ### The document's answer -/
end Bow
/- SP31: the document's normal form and views, step by step, in plain Lean. -/
namespace Bow
open Go

/-! ### Views -/
/-! ### Places -/
end Bow
/- W70: the document's answer of chapter 5: norm, Extent, view, behind, Transform. -/
namespace Bow
open Go Go.Proofs

/-! ### norm -/
/-! ### Extent -/
/-! ### view -/
/-! ### behind -/
/-! ### Transform -/
end Bow
/- W71: the document's answer of chapter 12: what becomes of an operation behind another one. -/
namespace Bow
open Go Go.Proofs

end Bow
/- W72: the document's Behind and Both (chapter 12); the law SquareBehind, walked. -/
namespace Bow
open Go Go.Proofs

end Bow
/- AE47: a function whose named memory nobody looks at any more. -/
namespace Bow
open Go

/-- Names let go. -/
theorem letGo {w : World} {β : Nat → Loc} {H : Heap} {B N : Base} (h : SRel [] 0 w β H [] ⟨[], [], B.add N, []⟩ bare) : ∃ H2, SRel [] 0 w β H2 [] ⟨[], [], B, []⟩ bare ∧ Fr w β H w β H2 := by
  have hH : ∀ q, q < H.length → H[q]? = some ((B.add N) q) := fun q hq => h.base q hq (by simp)
  obtain ⟨H2, hH2⟩ : ∃ H2 : Heap, H2 = (List.range H.length).map B := ⟨_, rfl⟩
  have hl : H2.length = H.length := by rw [hH2]; simp
  have hg : ∀ q, q < H.length → H2[q]? = some (B q) := fun q hq => by rw [hH2]; simp [hq]
  have hsub : ∀ q o, H2[q]? = some (some o) → H[q]? = some (some o) := fun q o hq => by
    have hlt : q < H.length := by rw [← hl]; exact lt_of_get hq
    rw [hg q hlt] at hq
    injection hq with hq
    rw [hH q hlt, Ext.add B N q o hq]
  have f : Fr w β H w β H2 := by
    refine ⟨⟨rfl, rfl, rfl, Nat.le_refl _, by rw [hl]; exact Nat.le_refl _, fun r o' _ ho => ⟨o', hsub r o' ho, Evo.refl _, fun _ _ => rfl⟩, fun _ _ _ => rfl, ?_, fun _ _ => rfl, fun r s hs => ⟨hsub r _ hs, rfl⟩⟩, fun _ _ h => h⟩
    rintro b ⟨r, M, ⟨o, ho, hn⟩, hb⟩
    exact .inr ⟨r, M, ⟨o, hsub r o ho, hn⟩, hb⟩
  refine ⟨H2, ⟨?_, rfl, fun k => by simp [lk, V.conv]; exact .undef _, rfl, List.nodup_nil, by simp, rfl, fun r hr _ => ?_, fun r hr => ?_, by simp, by simp, by simp, rfl, by simp⟩, f⟩
  · refine h.hrel.step f (fun r o ho => .inl ⟨hsub r o ho, rfl, fun _ _ _ => rfl⟩) ?_
    rintro r r' b M M' ⟨o, ho⟩ ⟨o', ho'⟩ hb hb'
    exact h.hrel.inj r r' b M M' ⟨o, hsub r o ho⟩ ⟨o', hsub r' o' ho'⟩ hb hb'
  · exact hg r (by rw [← hl]; exact hr)
  · have h1 : (B.add N) r = none := h.fut r (by rw [← hl]; exact hr)
    show B r = none
    cases hb : B r with
    | none => rfl
    | some o => rw [Ext.add B N r o hb] at h1; cases h1
theorem pure_of_funN {P : Program} {g : FuncId} {args : List V} {Q : V → Prop} (h : FunN P g args fun x _ => Q x) (ha : V.pureL args = true) : Pure P g args Q := by
  unfold FunN at h
  unfold Pure Fun
  refine ⟨h.1, fun w β H m B vals cs hs hl hr => ?_⟩
  have hm : m = [] := List.length_eq_zero_iff.1 hs.mlen
  subst hm
  obtain ⟨x, N, v, w', β', H', fr, hq, hN, k1, k2, k3, k4, k5⟩ := h.2 w β H B vals cs hs hl (fun j x v hj hv => by
    have h1 := hr j x v hj hv
    rwa [pure_conv _ _ (pureL_mem _ ha x (List.mem_of_getElem? hj))] at h1)
  obtain ⟨H2, e1, e2⟩ := letGo k1
  exact ⟨x, [], v, w', β', H2, [], fr, ⟨rfl, k4, hq⟩, e1, k2.trans e2, by rw [pure_conv _ _ k4]; exact k3.mono e2, k5⟩
end Bow
/- W79: the law SquareBoth, walked. -/
namespace Bow
open Go Go.Proofs

theorem OpsOk.add {B N : Base} {zs : List (Ns × OpT)} (h : OpsOk N zs) (hN : ∀ q o, N q = some o → B q = none) : OpsOk (B.add N) zs := h.ext fun q o e => add_new e (hN q o e)
/-- All these operations' rows stand there. -/
def AllShp (B : Base) (zs : List (Ns × OpT)) : Prop := ∀ z ∈ zs, NsShp B z.1 z.2
theorem AllShp.to' {B B' : Base} {zs : List (Ns × OpT)} (h : AllShp B zs) (k : ShpEq B B') : AllShp B' zs := fun z hz => (h z hz).to' k
theorem NsShp.names {B : Base} {ns : Ns} {o : OpT} (h : NsShp B ns o) : ∀ q ∈ [ns.p, ns.t, ns.s], ∃ ob, B q = some ob := by
  obtain ⟨⟨xs, h1, _⟩, ⟨ys, h2, _⟩, ⟨zs, h3, _⟩⟩ := h
  intro q hq
  simp only [List.mem_cons, List.not_mem_nil, or_false] at hq
  rcases hq with rfl | rfl | rfl
  · exact ⟨_, h1⟩
  · exact ⟨_, h2⟩
  · exact ⟨_, h3⟩
/-- Names that nobody held ahead. -/
def NewNs (B : Base) (ns : Ns) : Prop := ∀ q ∈ [ns.p, ns.t, ns.s], B q = none
theorem NsOk.fresh {B N : Base} {ns : Ns} {o : OpT} (h : NsOk N ns o) (hN : ∀ q ob, N q = some ob → B q = none) : NewNs B ns := by
  intro q hq
  simp only [List.mem_cons, List.not_mem_nil, or_false] at hq
  rcases hq with rfl | rfl | rfl
  · exact hN _ _ h.path
  · exact hN _ _ h.to
  · exact hN _ _ h.pieces
theorem ext_step {B Bc B' : Base} {ns : Ns} (h : Ext B Bc) (hn : NewNs B ns) (hq : ∀ q, q ∉ [ns.p, ns.t, ns.s] → B' q = Bc q) : Ext B B' := fun q o e => by
  rw [hq q (fun hm => by rw [hn q hm] at e; cases e)]
  exact h q o e
end Bow
/- W28: the chapter's examples. -/
namespace Bow
open Go Go.Proofs

def leafT8 (l t : List UInt8) : Tree := .mk 0 true l [] t []
def nodeT (l : List UInt8) (ss : List Tree) : Tree := .mk 0 false l [] [] ss
def workT : Tree := nodeT [114] [nodeT [97] [leafT8 [120] [104, 105], nodeT [99] []], leafT8 [98] [98, 101, 101]]
def work1 : OpT := { noOp 1 with path := [0], at_ := 1, label := [110] }
def work2 : OpT := { noOp 3 with path := [0, 0], at_ := 2 }
def work3 : OpT := { noOp 3 with path := [0], at_ := 1 }
def work4 : OpT := { noOp 6 with path := [0, 0], pieces := [⟨2, 0, [33]⟩] }
def made1 : Tree := nodeT [114] [nodeT [97] [leafT8 [120] [104, 105], nodeT [110] [], nodeT [99] []], leafT8 [98] [98, 101, 101]]
def made2 : Tree := nodeT [114] [nodeT [97] [nodeT [99] []], leafT8 [98] [98, 101, 101], leafT8 [120] [104, 105]]
def made4 : Tree := nodeT [114] [nodeT [97] [leafT8 [120] [104, 105, 33], nodeT [99] []], leafT8 [98] [98, 101, 101]]

theorem okOp {o : OpT} (h : (Nat.ble o.path.length 1000000 && Nat.ble o.to.length 1000000 && Nat.ble o.label.length 1000000 && Nat.ble o.key.length 1000000 && Nat.ble o.value.length 1000000 && Nat.ble o.pieces.length 1000000 && Nat.ble (putsLen o.pieces) 1000000) = true) : o.Ok := by
  simp only [Bool.and_eq_true, Nat.ble_eq] at h
  obtain ⟨⟨⟨⟨⟨⟨h1, h2⟩, h3⟩, h4⟩, h5⟩, h6⟩, h7⟩ := h
  exact ⟨⟨h1, h2, h3, h4, h5, h6⟩, by omega⟩
theorem w_work1 : Pure Tryz.prog 51 [nodeV workT, opV work1] (fun x => x = ApplyV (made1, 0)) :=
  w_Apply_ok workT work1 made1 (by decide) (okOp (by decide)) (by decide) (w_apply workT work1 made1 (by decide) (okOp (by decide)) (by intro x h; cases h) (Does.ins (nodeT [97] [leafT8 [120] [104, 105], nodeT [99] []]) rfl rfl (by decide) (by decide)))
theorem w_work2 : Pure Tryz.prog 51 [nodeV workT, opV work2] (fun x => x = ApplyV (made2, 0)) :=
  w_Apply_ok workT work2 made2 (by decide) (okOp (by decide)) (by decide) (w_apply workT work2 made2 (by decide) (okOp (by decide)) (by intro x h; cases h) (Does.mov (leafT8 [120] [104, 105]) workT rfl (by decide) rfl (by decide) rfl (by decide) (by decide)))
theorem w_work3 : Pure Tryz.prog 51 [nodeV workT, opV work3] (fun x => x = ApplyV (workT, 0)) :=
  w_Apply_ok workT work3 workT (by decide) (okOp (by decide)) (by decide) (w_apply workT work3 workT (by decide) (okOp (by decide)) (by intro x h; cases h) (Does.mov (nodeT [97] [leafT8 [120] [104, 105], nodeT [99] []]) workT rfl (by decide) rfl (by decide) rfl (by decide) (by decide)))
theorem w_work4 : Pure Tryz.prog 51 [nodeV workT, opV work4] (fun x => x = ApplyV (made4, 0)) :=
  w_Apply_ok workT work4 made4 (by decide) (okOp (by decide)) (by decide) (w_apply workT work4 made4 (by decide) (okOp (by decide)) (by intro x h; cases h) (Does.edt (leafT8 [120] [104, 105]) rfl rfl))
end Bow
/- W29: the chapter's examples, all. -/
namespace Bow
open Go Go.Proofs

/-- A node as a literal lays it. -/
def litV (leaf l t k : V) : V := .agg [.int .u64 0, leaf, l, .nilsl, t, k]
theorem wkL_lit {lf : Bool} {lv : V} {l t : List UInt8} {k : V} {ss : List Tree} (h1 : Wk lv (.bool lf)) (h2 : Wk k (.sl 6 (ss.map nodeV))) : WkL (litV lv (.str l) (.str t) k).cells (nodeV (.mk 0 lf l [] t ss)).cells := by
  refine ⟨.refl _, h1, .refl _, Wk.nil 2, .refl _, ?_, trivial⟩
  show Wk k (.sl 6 (Tree.subV _))
  rw [subV_eq]
  exact h2

theorem wk_work : WkL [.int .u64 0, .ff, .str [114], .nilsl, .str [], .sl 6 [litV .ff (.str [97]) (.str []) (.sl 6 [litV .tt (.str [120]) (.str [104, 105]) .nilsl, litV .ff (.str [99]) (.str []) .nilsl]), litV .tt (.str [98]) (.str [98, 101, 101]) .nilsl]] (nodeV workT).cells := by
  refine wkL_lit (lv := .ff) Wk.ff (Wk.sl ?_)
  refine ⟨⟨wkL_lit Wk.ff (Wk.sl ?_), okE_node _⟩, ⟨wkL_lit (ss := []) Wk.tt (Wk.nil 6), okE_node _⟩, trivial⟩
  exact ⟨⟨wkL_lit (ss := []) Wk.tt (Wk.nil 6), okE_node _⟩, ⟨wkL_lit (ss := []) Wk.ff (Wk.nil 6), okE_node _⟩, trivial⟩

theorem w_workV1 : Pure Tryz.prog 49 [nodeV workT, opV { noOp 3 with path := [0], to := [0, 0] }] (fun x => x = .int .i64 84) :=
  w_Valid workT _ (by decide) (okOp (by decide))
theorem w_workV2 : Pure Tryz.prog 49 [nodeV workT, opV (noOp 2)] (fun x => x = .int .i64 82) :=
  w_Valid workT _ (by decide) (okOp (by decide))

set_option maxRecDepth 100000 in
theorem w_works08 : Pure Tryz.prog 18 [] (fun x => x = .bool true) := by
  refine pure_wk (pure_fn 17 Tryz.func18 rfl rfl rfl fun B => ?_)
  refine ⟨⟨rfl, rfl, trivial⟩, rfl, rfl, ⟨rfl, rfl, trivial⟩, ?_⟩
  show Goes _ _ _ _
  refine goes_freezeIn 1 [2] rfl rfl rfl ?_
  show Goes _ _ _ _
  refine goes_wkbox 2 (nodeV workT).cells rfl rfl rfl wk_work ?_
  refine go 300 ?_
  refine ⟨⟨rfl, trivial⟩, ?_⟩
  show CallThen _ _ _ _ _ _
  refine call_pure_frz ?_
  refine ⟨rfl, rfl, _, pure_args w_work1 ⟨.refl _, wk_op ⟨.refl _, .refl _, .refl _, Wk.nil 1, .refl _, Wk.ff, .refl _, .refl _, .refl _, Wk.ff, Wk.nil 3, trivial⟩, trivial⟩ rfl rfl, rfl, ?_⟩
  rintro x rfl
  refine ⟨⟨rfl, rfl, trivial⟩, ?_⟩
  show CallThen _ _ _ _ _ _
  refine call_pure_frz ?_
  refine ⟨rfl, rfl, _, pure_args w_work2 ⟨.refl _, wk_op ⟨.refl _, .refl _, .refl _, Wk.nil 1, .refl _, Wk.ff, .refl _, .refl _, .refl _, Wk.ff, Wk.nil 3, trivial⟩, trivial⟩ rfl rfl, rfl, ?_⟩
  rintro x rfl
  refine ⟨⟨rfl, trivial⟩, ?_⟩
  show CallThen _ _ _ _ _ _
  refine call_pure_frz ?_
  refine ⟨rfl, rfl, _, pure_args w_work3 ⟨.refl _, wk_op ⟨.refl _, .refl _, .refl _, Wk.nil 1, .refl _, Wk.ff, .refl _, .refl _, .refl _, Wk.ff, Wk.nil 3, trivial⟩, trivial⟩ rfl rfl, rfl, ?_⟩
  rintro x rfl
  refine ⟨⟨rfl, rfl, trivial⟩, ⟨rfl, trivial⟩, ?_⟩
  show CallThen _ _ _ _ _ _
  refine call_pure_frz ?_
  refine ⟨rfl, rfl, rfl, rfl, _, pure_args w_work4 ⟨.refl _, wk_op ⟨.refl _, .refl _, .refl _, Wk.nil 1, .refl _, Wk.ff, .refl _, .refl _, .refl _, Wk.ff, .refl _, trivial⟩, trivial⟩ rfl rfl, rfl, ?_⟩
  rintro x rfl
  iterate 5 refine ⟨fun g => absurd rfl (ne_of' g), fun _ => go 300 ?_⟩
  refine ⟨Int.le_refl 0, _, rfl, ⟨fun g => absurd rfl (ne_of' g), fun _ => go 300 ?_⟩⟩
  refine ⟨fun g => absurd rfl (ne_of' g), fun _ => go 300 ?_⟩
  refine ⟨Int.le_refl 0, _, rfl, ⟨fun g => absurd rfl (ne_of' g), fun _ => go 300 ?_⟩⟩
  refine ⟨Int.le_refl 0, _, rfl, ⟨fun g => absurd rfl (ne_of' g), fun _ => go 300 ?_⟩⟩
  refine ⟨Int.le_refl 0, _, rfl, by decide, _, rfl, ?_⟩
  refine ⟨fun _ => go 300 ?_, fun g => absurd rfl (of_decide_eq_false g)⟩
  refine ⟨by decide, _, rfl, ?_⟩
  refine ⟨fun _ => go 300 ?_, fun g => absurd rfl (of_decide_eq_false g)⟩
  show CallThen _ _ _ _ _ _
  refine call_pure (w_Same workT workT (by decide)) rfl ?_
  rintro x rfl
  refine ⟨fun _ => go 300 ?_, fun g => absurd ((sameT_refl true workT).symm.trans g) (by decide)⟩
  refine ⟨by decide, _, rfl, by decide, _, rfl, ?_⟩
  refine ⟨fun _ => go 300 ?_, fun g => absurd rfl (of_decide_eq_false g)⟩
  refine ⟨⟨rfl, trivial⟩, ⟨rfl, rfl, trivial⟩, ?_⟩
  show CallThen _ _ _ _ _ _
  refine call_pure_frz ?_
  refine ⟨rfl, rfl, rfl, rfl, _, pure_args w_workV1 ⟨.refl _, wk_op ⟨.refl _, .refl _, .refl _, .refl _, .refl _, Wk.ff, .refl _, .refl _, .refl _, Wk.ff, Wk.nil 3, trivial⟩, trivial⟩ rfl rfl, rfl, ?_⟩
  rintro x rfl
  refine ⟨fun _ => go 300 ?_, fun g => absurd g (by decide)⟩
  show CallThen _ _ _ _ _ _
  refine call_pure_frz ?_
  refine ⟨_, pure_args w_workV2 ⟨.refl _, wk_op ⟨.refl _, Wk.nil 1, .refl _, Wk.nil 1, .refl _, Wk.ff, .refl _, .refl _, .refl _, Wk.ff, Wk.nil 3, trivial⟩, trivial⟩ rfl rfl, rfl, ?_⟩
  rintro x rfl
  exact ⟨trivial, rfl, rfl, rfl, leaf_b rfl⟩
end Bow
/- W30: the laws' functions: TreeopsFormed, TreeopsValid. -/
namespace Bow
open Go Go.Proofs

set_option maxRecDepth 100000 in
theorem w_TreeopsFormed (o : OpT) : Pure Tryz.prog 15 [opV o] (fun x => x = .bool true) := by
  refine pure_wk (pure_fn 300 Tryz.func15 rfl rfl rfl fun B => ?_)
  refine goes_draw 300 ?_
  refine ⟨_, w_LightX o 500 (by decide), rfl, ?_⟩
  have ok : (!lightB o 500) = false → o.Ok := fun g => light_ok (by simpa using g) (by decide)
  have pl : ∀ h : o.Ok, ∀ p ∈ o.pieces, p.put.length ≤ 1000000000 := fun h p hp => by have := put_le p hp; have := h.puts; omega
  refine ⟨fun g => ⟨_, w_works08, rfl, ?_⟩, fun g => ⟨_, w_Formed o (ok g).lt (pl (ok g)), rfl, _, w_refFormed o (ok g).lt (pl (ok g)), rfl, ⟨fun q => ⟨_, w_works08, rfl, ?_⟩, fun q => ?_⟩⟩⟩
  · exact ⟨by kernel_rfl, trivial, rfl, rfl, rfl, leaf_b rfl⟩
  · exact ⟨by kernel_rfl, trivial, rfl, rfl, rfl, leaf_b rfl⟩
  · exact absurd q (by simp)

set_option maxRecDepth 100000 in
theorem w_TreeopsValid (t : Tree) (o : OpT) : Pure Tryz.prog 11 [nodeV t, opV o] (fun x => x = .bool true) := by
  refine pure_wk (pure_fn 300 Tryz.func11 rfl rfl rfl fun B => ?_)
  show CallThen _ _ _ _ _ _
  refine call_pure (w_Weight t 600 (by decide)) rfl ?_
  rintro x ⟨w, rfl, w1, w2, w3⟩
  refine ⟨fun g => go 300 ?_, fun g => go 300 ?_⟩
  · show CallThen _ _ _ _ _ _
    refine call_pure w_works08 rfl ?_
    rintro x rfl
    exact ⟨trivial, rfl, rfl, rfl, leaf_b rfl⟩
  have g : (w : Int) ≤ 600 := not_lt_of g
  have hw : t.weight ≤ 600 := by have := w3 (by omega); omega
  have hw' : t.weight ≤ 1000000 := by omega
  show CallThen _ _ _ _ _ _
  refine call_pure (w_LightX o 500 (by decide)) rfl ?_
  rintro x rfl
  refine ⟨fun g => go 300 ?_, fun g => go 300 ?_⟩
  · show CallThen _ _ _ _ _ _
    refine call_pure w_works08 rfl ?_
    rintro x rfl
    exact ⟨trivial, rfl, rfl, rfl, leaf_b rfl⟩
  have ok : o.Ok := light_ok (by simpa using g) (by decide)
  refine goes_draw 300 ?_
  refine ⟨_, w_Valid t o hw' ok, rfl, _, w_refValid t o hw' ok, rfl, ⟨fun q => ⟨_, w_works08, rfl, ?_⟩, fun q => ?_⟩⟩
  · exact ⟨by kernel_rfl, trivial, rfl, rfl, rfl, leaf_b rfl⟩
  · exact absurd q (by simp)
end Bow
/- W40: the law's function TreeopsApply. -/
namespace Bow
open Go Go.Proofs

set_option maxHeartbeats 1000000 in
set_option maxRecDepth 100000 in
theorem w_TreeopsApply (t : Tree) (o : OpT) : Pure Tryz.prog 12 [nodeV t, opV o] (fun x => x = .bool true) := by
  refine pure_wk (pure_fn 300 Tryz.func12 rfl rfl rfl fun B => ?_)
  show CallThen _ _ _ _ _ _
  refine call_pure (w_Weight t 600 (by decide)) rfl ?_
  rintro x ⟨w, rfl, w1, w2, w3⟩
  refine ⟨fun g => go 300 ?_, fun g => go 300 ?_⟩
  · show CallThen _ _ _ _ _ _
    refine call_pure w_works08 rfl ?_
    rintro x rfl
    exact ⟨trivial, rfl, rfl, rfl, leaf_b rfl⟩
  have g : (w : Int) ≤ 600 := not_lt_of g
  have hw : t.weight ≤ 600 := by have := w3 (by omega); omega
  have hw' : t.weight ≤ 1000000 := by omega
  show CallThen _ _ _ _ _ _
  refine call_pure (w_LightX o 500 (by decide)) rfl ?_
  rintro x rfl
  refine ⟨fun g => go 300 ?_, fun g => go 300 ?_⟩
  · show CallThen _ _ _ _ _ _
    refine call_pure w_works08 rfl ?_
    rintro x rfl
    exact ⟨trivial, rfl, rfl, rfl, leaf_b rfl⟩
  have ok : o.Ok := light_ok (by simpa using g) (by decide)
  have hlt := (lightB_iff o 500).1 (by simpa using g)
  have hrw : (applyR t o).1.weight ≤ 1000000 := by
    have := applyR_weight t o
    have := hlt.1.label
    have := hlt.1.key
    have := hlt.1.value
    have := hlt.2
    unfold costO at *
    omega
  show CallThen _ _ _ _ _ _
  refine call_pure (w_refIDs t hw') rfl ?_
  rintro x rfl
  show CallThen _ _ _ _ _ _
  refine call_pure (w_refLong t hw') rfl ?_
  rintro x rfl
  show CallThen _ _ _ _ _ _
  refine call_pure (w_Apply t o (by omega) ok) rfl ?_
  rintro x rfl
  show CallThen _ _ _ _ _ _
  refine call_pure (w_refApply t o (by omega) ok) rfl ?_
  rintro x rfl
  show CallThen _ _ _ _ _ _
  refine call_pure (w_refIDs t hw') rfl ?_
  rintro x rfl
  refine ⟨fun g => absurd rfl (ne_of' g), fun _ => go 300 ?_⟩
  show CallThen _ _ _ _ _ _
  refine call_pure (w_refSameT (applyR t o).1 (applyR t o).1 hrw) rfl ?_
  rintro x rfl
  refine ⟨fun g => absurd g (by rw [sameT_refl]; decide), fun _ => go 300 ?_⟩
  refine ⟨fun g => absurd rfl (ne_of' g), fun _ => go 300 ?_⟩
  show CallThen _ _ _ _ _ _
  refine call_pure (w_refLong t hw') rfl ?_
  rintro x rfl
  refine ⟨fun g => absurd rfl (ne_of' g), fun _ => go 300 ?_⟩
  show Goes _ _ _ _
  refine goes_iter (ι := Nat) (fun i => i ≤ (idsT t).length) (fun i => (idsT t).length - i) (fun i => [(12, .int .i64 i), (5, idsV (idsT t)), (11, idsV (idsT t))]) (fun _ => []) 0 300 (fun _ => rfl) (fun _ => rfl) ⟨Nat.zero_le _, ⟨⟨rfl, rfl⟩, ⟨rfl, rfl⟩, ⟨rfl, rfl⟩, trivial⟩, trivial⟩ ?_
  rintro i k1 next
  refine ⟨fun hlt => go 300 ?_, fun hge => go 300 ?_⟩
  · have hi : i < (idsT t).length := by simpa using hlt
    have hx : ((idsT t).map idV)[i]? = some (idV (idsT t)[i]) := by simp [hi]
    have hsz := size_le_weight t
    have hil := idsT_len t
    show Goes _ _ _ _
    refine goes_draw 300 ⟨Int.natCast_nonneg i, _, hx, Int.natCast_nonneg i, _, hx, ?_⟩
    refine ⟨by kernel_rfl, ?_⟩
    refine ⟨fun g => absurd rfl (ne_of' g), fun _ => go 300 ?_⟩
    refine ⟨by constructor <;> omega, ?_⟩
    exact next (i + 1) _ _ ⟨hi, by omega, ⟨⟨rfl, rfl⟩, ⟨rfl, rfl⟩, ⟨rfl, rfl⟩, trivial⟩, trivial⟩
  · show CallThen _ _ _ _ _ _
    refine call_pure w_works08 rfl ?_
    rintro x rfl
    exact ⟨trivial, rfl, rfl, rfl, leaf_b rfl⟩
end Bow
/- AE53: named memory, lent to a function that leaves nothing behind: what it hands back lies elsewhere, where the sizes of its slices' elements tell so. -/
namespace Bow
open Go

/-! ### No pointer, no slice of elements of these sizes -/
mutual
def V.apart (ss : List Nat) : V → Bool
  | .int .. | .bool _ | .tt | .ff | .str _ | .nilsl | .nilp | .nilf | .nili | .nilmap | .undef => true
  | .sl sz xs => !ss.contains sz && V.apartL ss xs
  | .agg cs => V.apartL ss cs
  | .tup cs => V.apartL ss cs
  | .iface _ v => v.apart ss
  | _ => false
def V.apartL (ss : List Nat) : List V → Bool
  | [] => true
  | v :: vs => v.apart ss && V.apartL ss vs
end
theorem apartL_get {ss : List Nat} : ∀ {vs : List V}, V.apartL ss vs = true → ∀ v ∈ vs, v.apart ss = true
  | [], _, v, h => by cases h
  | x :: vs, hg, v, h => by
    simp only [V.apartL, Bool.and_eq_true] at hg
    rcases List.mem_cons.1 h with rfl | h
    · exact hg.1
    · exact apartL_get hg.2 v h
theorem apart_cells {ss : List Nat} {x : V} (h : x.apart ss = true) : ∀ c ∈ x.cells, c.apart ss = true := by
  cases x with
  | agg cs =>
    simp only [V.apart] at h
    exact apartL_get (vs := cs) h
  | _ =>
    intro c hc
    simp only [V.cells, List.mem_singleton] at hc
    subst hc
    exact h
/-! ### All own memory, sealed -/
def sealO (s : Nat) : HObj → HObj
  | .held t => .held t
  | _ => .held s
def sealH (L : Nat → Nat) (H : Heap) : Heap := H.mapIdx fun r o => o.map (sealO (L r))
theorem seal_get {L : Nat → Nat} {H : Heap} {r : Nat} : (sealH L H)[r]? = (H[r]?).map fun o => o.map (sealO (L r)) := by simp [sealH]
theorem sealO_is (s : Nat) (o : HObj) : isSeal (sealO s o) := by cases o <;> trivial
theorem sealO_held (s : Nat) (o : HObj) : ∃ t, sealO s o = .held t := by cases o <;> exact ⟨_, rfl⟩
theorem sealO_open {s : Nat} {o : HObj} (h : ¬ isSeal o) : sealO s o = .held s := by cases o <;> first | rfl | exact absurd trivial h
theorem seal_of {L : Nat → Nat} {H : Heap} {r : Nat} {o : HObj} (h : (sealH L H)[r]? = some (some o)) : ∃ o', H[r]? = some (some o') ∧ o = sealO (L r) o' := by
  rw [seal_get] at h
  rcases e : H[r]? with - | - | o'
  · rw [e] at h; cases h
  · rw [e] at h; cases h
  · rw [e] at h
    injection h with h
    injection h with h
    exact ⟨o', rfl, h.symm⟩
theorem seal_no {L : Nat → Nat} {β : Nat → Loc} {H : Heap} (b : Nat) : ¬ ownB β (sealH L H) b := by
  rintro ⟨r, N, ⟨o, h, hn⟩, _⟩
  obtain ⟨o', _, rfl⟩ := seal_of h
  exact hn (sealO_is _ _)
theorem seal_free {L : Nat → Nat} {β : Nat → Loc} {H : Heap} {b sz : Nat} (h : freeB β H b sz) : freeB β (sealH L H) b sz := by
  refine ⟨seal_no b, fun r s N hr hb => ?_⟩
  obtain ⟨o, ho, e⟩ := seal_of hr
  by_cases hs : isSeal o
  · cases o <;> first | exact hs.elim | skip
    injection e with e
    subst e
    exact h.2 r _ N ho hb
  · exact (h.1 ⟨r, N, ⟨o, ho, hs⟩, hb⟩).elim
theorem HRel.sealed {w : World} {β : Nat → Loc} {H : Heap} (h : HRel w β H) (L : Nat → Nat) : HRel w β (sealH L H) := by
  refine ⟨fun r o ho => ?_, fun r r' b N N' hl hl' hb hb' => ?_⟩
  · obtain ⟨o', ho', rfl⟩ := seal_of ho
    obtain ⟨t, e⟩ := sealO_held (L r) o'
    rw [e]
    cases e2 : β r with
    | none => trivial
    | nil => trivial
    | blk b N => exact h.lt ⟨o', ho'⟩ e2
  · obtain ⟨o, ho⟩ := hl
    obtain ⟨o', ho'⟩ := hl'
    obtain ⟨z, hz, _⟩ := seal_of ho
    obtain ⟨z', hz', _⟩ := seal_of ho'
    exact h.inj r r' b N N' ⟨z, hz⟩ ⟨z', hz'⟩ hb hb'
theorem Rep.sealed {w : World} {β : Nat → Loc} {H : Heap} {v : V} {u : Value} (h : Rep w β H v u) (L : Nat → Nat) : v.apart [] = true → Rep w β (sealH L H) v u := by
  induction h with
  | int k n => exact fun _ => .int k n
  | bool b => exact fun _ => .bool b
  | tt => exact fun _ => .tt
  | ff => exact fun _ => .ff
  | str s h => exact fun _ => .str s h
  | nilsl => exact fun _ => .nilsl
  | nilp => exact fun _ => .nilp
  | nilf => exact fun _ => .nilf
  | nili => exact fun _ => .nili
  | nilmap => exact fun _ => .nilmap
  | undef v => exact fun _ => .undef v
  | sl sz xs a cap vals hcap hmax hsz ha hr ih =>
    intro hp
    simp only [V.apart, Bool.and_eq_true] at hp
    refine .sl sz xs a cap vals hcap hmax hsz (fun hne => ?_) (fun i x j c h1 h2 => ih i x j c h1 h2 (apart_cells (apartL_get hp.2 x (List.mem_of_getElem? h1)) c (List.mem_of_getElem? h2)))
    obtain ⟨ad, e, h1, h2⟩ := ha hne
    exact ⟨ad, e, seal_free h1, h2⟩
  | agg cs vs hl h ih =>
    intro hp
    simp only [V.apart] at hp
    exact .agg cs vs hl fun j c v hj hv => ih j c v hj hv (apartL_get hp c (List.mem_of_getElem? hj))
  | tup cs vs hl h ih =>
    intro hp
    simp only [V.apart] at hp
    exact .tup cs vs hl fun j c v hj hv => ih j c v hj hv (apartL_get hp c (List.mem_of_getElem? hj))
  | iface t x v h ih =>
    intro hp
    simp only [V.apart] at hp
    exact .iface t x v (ih hp)
  | _ => intro hp; simp [V.apart] at hp
/-- .. and back: what lies apart does not lie in what was sealed. -/
theorem Rep.unsealed {w : World} {β β' : Nat → Loc} {H H' : Heap} {L : Nat → Nat} {ss : List Nat} (hL : ∀ r, L r ∈ ss) (hH : ∀ r o, (sealH L H)[r]? = some (some o) → H'[r]? = some (some o) ∧ β' r = β r) {v : V} {u : Value} (h : Rep w β' H' v u) : v.apart ss = true → Rep w β H v u := by
  induction h with
  | int k n => exact fun _ => .int k n
  | bool b => exact fun _ => .bool b
  | tt => exact fun _ => .tt
  | ff => exact fun _ => .ff
  | str s h => exact fun _ => .str s h
  | nilsl => exact fun _ => .nilsl
  | nilp => exact fun _ => .nilp
  | nilf => exact fun _ => .nilf
  | nili => exact fun _ => .nili
  | nilmap => exact fun _ => .nilmap
  | undef v => exact fun _ => .undef v
  | sl sz xs a cap vals hcap hmax hsz ha hr ih =>
    intro hp
    simp only [V.apart, Bool.and_eq_true, Bool.not_eq_true'] at hp
    refine .sl sz xs a cap vals hcap hmax hsz (fun hne => ?_) (fun i x j c h1 h2 => ih i x j c h1 h2 (apart_cells (apartL_get hp.2 x (List.mem_of_getElem? h1)) c (List.mem_of_getElem? h2)))
    obtain ⟨ad, e, h1, h2⟩ := ha hne
    refine ⟨ad, e, ⟨?_, fun r s N hr hb => ?_⟩, h2⟩
    · rintro ⟨r, N, ⟨o, ho, hs⟩, hb⟩
      obtain ⟨k1, k2⟩ := hH r (.held (L r)) (by rw [seal_get, ho]; simp [sealO_open hs])
      have := h1.2 r _ N k1 (k2.trans hb)
      have h3 := hL r
      rw [this] at h3
      have h4 := hp.1
      rw [List.contains_iff_mem.2 h3] at h4
      cases h4
    · obtain ⟨k1, k2⟩ := hH r (.held s) (by rw [seal_get, hr]; rfl)
      exact h1.2 r s N k1 (k2.trans hb)
  | agg cs vs hl h ih =>
    intro hp
    simp only [V.apart] at hp
    exact .agg cs vs hl fun j c v hj hv => ih j c v hj hv (apartL_get hp c (List.mem_of_getElem? hj))
  | tup cs vs hl h ih =>
    intro hp
    simp only [V.apart] at hp
    exact .tup cs vs hl fun j c v hj hv => ih j c v hj hv (apartL_get hp c (List.mem_of_getElem? hj))
  | iface t x v h ih =>
    intro hp
    simp only [V.apart] at hp
    exact .iface t x v (ih hp)
  | _ => intro hp; simp [V.apart] at hp

/-! ### Named rows, lent -/
inductive Lz (B : Base) (L : Nat → Nat) : V → V → Prop
  | wk {x y : V} (h : Wk x y) (hy : y.apart [] = true) : Lz B L x y
  | row (r g sz : Nat) (xs : List V) (h : B r = some (.vec g sz xs)) (hL : L r = sz) (hx : V.apartL [] xs = true) : Lz B L (.osl (.abs r) g 0 xs.length) (.sl sz xs)
  | agg (cs ds : List V) (hl : cs.length = ds.length) (h : ∀ (j : Nat) (c d : V), cs[j]? = some c → ds[j]? = some d → Lz B L c d) : Lz B L (.agg cs) (.agg ds)
  | sl (sz : Nat) (xs ys : List V) (hl : xs.length = ys.length) (hy : ∀ y ∈ ys, okE sz y) (h : ∀ (i : Nat) (x y : V) (j : Nat) (c d : V), xs[i]? = some x → ys[i]? = some y → x.cells[j]? = some c → y.cells[j]? = some d → Lz B L c d) : Lz B L (.sl sz xs) (.sl sz ys)

theorem Lz.rep {B : Base} {L : Nat → Nat} {w : World} {β : Nat → Loc} {H : Heap} (hrel : HRel w β H) (hB : ∀ q o, B q = some o → H[q]? = some (some o)) {x y : V} (h : Lz B L x y) : ∀ {v : Value}, Rep w β H x v → Rep w β (sealH L H) y v := by
  induction h with
  | wk h hy => exact fun {v} hv => (h w β H v hv).sealed L hy
  | row r g sz xs h hL hx =>
    intro v hv
    have hH := hB r _ h
    have hob := hrel.obj r _ hH
    have hvec : ∀ sz2 xs2, H[r]? = some (some (.vec g sz2 xs2)) → sz2 = sz ∧ xs2 = xs := fun sz2 xs2 h2 => by
      rw [hH] at h2
      injection h2 with h2
      injection h2 with h2
      injection h2 with _ e1 e2
      exact ⟨e1.symm, e2.symm⟩
    generalize hn : xs.length = n at hv
    cases hv with
    | oslNil _ _ sz2 xs2 ad hH' hβ =>
      rw [hβ] at hob
      have : xs = [] := hob
      subst this
      exact .sl sz [] ad 0 (fun _ => Go.undef) (Nat.le_refl _) (Nat.zero_le _) (by simp) (fun hne => absurd rfl hne) (fun i x j c hi => by simp at hi)
    | oslBlk _ _ _ _ sz2 xs2 b N ad cap hH' hβ hl hN hcap ha hlen =>
      obtain ⟨rfl, rfl⟩ := hvec _ _ hH'
      rw [hβ] at hob
      obtain ⟨vs, e, _, h1, h2, h3, h4, h5, h6⟩ := hob
      subst hn
      refine .sl sz2 xs2 ad cap (fun j => vs.getD j Go.undef) hl (by omega) h5 (fun hne => ?_) (fun i x j c hi hj => ?_)
      · have h0 : 0 < xs2.length := List.length_pos_iff.2 hne
        have := ha (by omega)
        subst this
        refine ⟨_, rfl, ⟨seal_no _, fun q s N' hq hb => ?_⟩, (Array.getElem?_eq_some_iff.1 h1).1, fun j hj => ?_⟩
        · obtain ⟨o, ho, e⟩ := seal_of hq
          have : q = r := hrel.inj q r b N' N ⟨o, ho⟩ ⟨_, hH⟩ hb hβ
          subst this
          rw [hH] at ho
          injection ho with ho
          injection ho with ho
          subst ho
          injection e with e
          exact e.trans hL
        · have hjv : j < vs.size := by omega
          rw [Nat.zero_mul, at_add, cell_of_row w b j vs e (0, 0) h1]
          simp [hjv]
      · have hlt : i * sz2 + j < vs.size := by
          have e1 := lt_of_get hi
          have e2 := lt_of_get hj
          have e3 := (h5 x (List.mem_of_getElem? hi)).1
          have : (i + 1) * sz2 ≤ xs2.length * sz2 := Nat.mul_le_mul_right _ e1
          rw [Nat.add_mul] at this
          omega
        exact (h6 i x j c (vs.getD (i * sz2 + j) Go.undef) hi hj (by simp [hlt])).sealed L (apart_cells (apartL_get hx x (List.mem_of_getElem? hi)) c (List.mem_of_getElem? hj))
    | oslStale _ _ _ _ g' sz' xs' _ hH' hg =>
      rw [hH] at hH'
      injection hH' with hH'
      injection hH' with hH'
      injection hH' with e0 _ _
      omega
    | oslDead _ _ _ _ _ hd => rw [hH] at hd; cases hd
  | agg cs ds hl h ih =>
    intro v hv
    cases hv with
    | agg _ vs hl' h' =>
      refine .agg ds vs (hl.symm.trans hl') fun j d u hj hu => ?_
      have hjc : j < cs.length := by have := lt_of_get hj; omega
      exact ih j _ d (List.getElem?_eq_getElem hjc) hj (h' j _ u (List.getElem?_eq_getElem hjc) hu)
  | sl sz xs ys hl hy h ih =>
    intro v hv
    generalize hn : xs.length = n at hl
    generalize hq : V.sl sz xs = q at hv
    cases hv with
    | sl sz' xs' a cap vals hcap hmax hsz ha hr =>
      injection hq with e1 e2
      subst e1 e2
      rw [hn, hl]
      refine .sl sz ys a cap vals (by omega) hmax hy (fun hne => ?_) (fun i y j d hi hj => ?_)
      · obtain ⟨ad, k1, k2, k3, k4⟩ := ha (fun e => hne (by rw [e] at hn; exact List.length_eq_zero_iff.1 (by simp at hn; omega)))
        exact ⟨ad, k1, seal_free k2, k3, fun j hj => k4 j (by rw [hn, hl]; exact hj)⟩
      · have hix : i < xs.length := by have := lt_of_get hi; omega
        have hx := List.getElem?_eq_getElem hix
        have hc1 := (hsz _ (List.mem_of_getElem? hx)).1
        have hc2 := (hy _ (List.mem_of_getElem? hi)).1
        have hjx : j < (xs[i]).cells.length := by have := lt_of_get hj; omega
        exact ih i _ y j _ d hx hi (List.getElem?_eq_getElem hjx) hj (hr i _ j _ hx (List.getElem?_eq_getElem hjx))
    | _ => cases hq

/-- .. all at once. -/
def LzL (B : Base) (L : Nat → Nat) : List V → List V → Prop
  | [], [] => True
  | x :: xs, y :: ys => Lz B L x y ∧ LzL B L xs ys
  | _, _ => False
theorem LzL.get {B : Base} {L : Nat → Nat} : ∀ {xs ys : List V}, LzL B L xs ys → xs.length = ys.length ∧ ∀ (j : Nat) (y : V), ys[j]? = some y → ∃ x, xs[j]? = some x ∧ Lz B L x y
  | [], [], _ => ⟨rfl, fun j y h => by simp at h⟩
  | x :: xs, y :: ys, h => by
    obtain ⟨h1, h2⟩ := LzL.get h.2
    refine ⟨by simp [h1], fun j z hz => ?_⟩
    cases j with
    | zero => simp at hz; subst hz; exact ⟨x, rfl, h.1⟩
    | succ j => simpa using h2 j z (by simpa using hz)
  | [], _ :: _, h => h.elim
  | _ :: _, [], h => h.elim

/-- A call that is lent named memory, and hands back what lies apart from it. -/
theorem call_lend {c : Cx} {g : FuncId} {args args' : List V} {E : Env} {T : Heap} {K : V → St → Prop} {Q : V → Prop} (L : Nat → Nat) (ss : List Nat) (hL : ∀ r, L r ∈ ss) (hf : Pure c.P g args' Q) (hz : LzL c.B L args args') (hi : c.imps = []) (ha : V.pureL args = true) (ha' : V.pureL args' = true)
    (hx : ∀ x, Q x → x.apart ss = true) (h : ∀ x, Q x → K x ⟨E, T, c.B, c.D⟩) : CallThen c g args E T K := by
  unfold Pure Fun at hf
  unfold CallThen
  refine ⟨hf.1, fun w β H m a vals cs hs hl hr => ?_⟩
  obtain ⟨hzl, hzg⟩ := hz.get
  have hs0 : SRel [] 0 w β (sealH L H) [] ⟨[], [], fun r => ((sealH L H)[r]?).getD none, []⟩ bare := by
    refine ⟨hs.hrel.sealed L, rfl, fun k => by simp [lk, V.conv]; exact .undef _, rfl, List.nodup_nil, by simp, rfl, fun r h _ => ?_, fun r h1 => ?_, by simp, by simp, by simp, rfl, by simp⟩
    · simp only
      rw [List.getElem?_eq_getElem h]
      rfl
    · simp only
      rw [List.getElem?_eq_none h1]
      rfl
  obtain ⟨x, T', v, w', β', H', m', fr, ⟨rfl, hp, hq⟩, k1, k2, k3, k4⟩ := hf.2 w β (sealH L H) [] _ vals cs hs0 (hzl.symm.trans hl) (fun j y v hj hv => by
    obtain ⟨x0, h1, h2⟩ := hzg j y hj
    have h3 := hr j x0 v h1 hv
    rw [pure_conv _ _ (pureL_mem _ ha x0 (List.mem_of_getElem? h1))] at h3
    rw [pure_conv _ _ (pureL_mem _ ha' y (List.mem_of_getElem? hj))]
    exact h2.rep hs.hrel (fun q o hq => hs.baseAt (by rw [hi]; simp) hq) h3)
  have hm' : m' = [] := List.length_eq_zero_iff.1 k1.mlen
  subst hm'
  have hb : RowKit.Below w.heap.size w w' := ⟨k2.os, k2.tape, k2.output, k2.size, fun q hq => k2.keep q hq (seal_no q)⟩
  have g2 : Fr w β H w' β H := Fr.of_below hb
  rw [pure_conv _ _ hp] at k3
  refine ⟨x, _, v, w', β, H, m, fr, h x hq, hs.same g2 (hs.hrel.of_below hb), g2, ?_, k4.1, k4.2.1, k4.2.2, List.prefix_refl _⟩
  rw [pure_conv _ _ hp]
  refine k3.unsealed hL (fun r o ho => ?_) (hx x hq)
  have hlt : r < (sealH L H).length := lt_of_get ho
  have hH' : H'[r]? = some (some o) := by
    have := k1.base r (Nat.lt_of_lt_of_le hlt k2.len) (by simp)
    simp only at this
    rw [this, ho]
    rfl
  refine ⟨hH', ?_⟩
  obtain ⟨o', _, rfl⟩ := seal_of ho
  obtain ⟨t, e⟩ := sealO_held (L r) o'
  rw [e] at hH'
  exact (k2.seals r t hH').2
end Bow
/- W90: the law TreeopsSame, walked. -/
namespace Bow
open Go Go.Proofs

theorem apart_int {ss : List Nat} : ∀ l : List Int, V.apartL ss (l.map intV) = true
  | [] => rfl
  | i :: l => by rw [List.map_cons, V.apartL, apart_int l]; rfl
theorem apart_attrs {ss : List Nat} : ∀ l : List (List UInt8 × List UInt8), V.apartL ss (l.map attrV) = true
  | [] => rfl
  | i :: l => by rw [List.map_cons, V.apartL, apart_attrs l]; rfl
theorem apart_pieces {ss : List Nat} : ∀ l : List PieceT, V.apartL ss (l.map pieceV) = true
  | [] => rfl
  | i :: l => by rw [List.map_cons, V.apartL, apart_pieces l]; rfl
mutual
theorem apart_node {ss : List Nat} (h : ss.contains 2 = false ∧ ss.contains 6 = false) : ∀ t : Tree, (nodeV t).apart ss = true
  | .mk i l b a c s => by
    rw [show nodeV (.mk i l b a c s) = .agg [.int .u64 i, .bool l, .str b, .sl 2 (a.map attrV), .str c, .sl 6 (nodesV s)] from rfl]
    simp only [V.apart, V.apartL, h.1, h.2, apart_attrs, apart_nodes h s, Bool.not_false, Bool.and_self]
theorem apart_nodes {ss : List Nat} (h : ss.contains 2 = false ∧ ss.contains 6 = false) : ∀ l : List Tree, V.apartL ss (nodesV l) = true
  | [] => by rw [nodesV]; rfl
  | s :: l => by
    have h1 := apart_node h s
    rw [nodesV, V.apartL, apart_nodes h l, Bool.and_true]
    exact h1
end
theorem Lz.aggL {B : Base} {L : Nat → Nat} {xs ys : List V} (h : LzL B L xs ys) : Lz B L (.agg xs) (.agg ys) := by
  have key : ∀ {xs ys : List V}, LzL B L xs ys → ∀ (j : Nat) (c d : V), xs[j]? = some c → ys[j]? = some d → Lz B L c d := by
    intro xs
    induction xs with
    | nil => intro ys h j c d hc; simp at hc
    | cons x xs ih =>
      intro ys h j c d hc hd
      cases ys with
      | nil => exact h.elim
      | cons y ys =>
        cases j with
        | zero => simp at hc hd; subst hc hd; exact h.1
        | succ j => exact ih h.2 j c d (by simpa using hc) (by simpa using hd)
  exact .agg xs ys h.get.1 (key h)
theorem lz_op {B : Base} {ns : Ns} {o : OpT} (h : NsOk B ns o) : Lz B (fun r => if r = ns.s then 3 else 1) (opN ns o) (opV o) := by
  have n1 : ns.p ≠ ns.s := fun e => by
    have := h.path
    rw [e, h.pieces] at this
    injection this with this
    injection this with _ this _
    cases this
  have n2 : ns.t ≠ ns.s := fun e => by
    have := h.to
    rw [e, h.pieces] at this
    injection this with this
    injection this with _ this _
    cases this
  have w : ∀ {x : V}, x.apart [] = true → Lz B (fun r => if r = ns.s then 3 else 1) x x := fun hx => .wk (.refl _) hx
  exact Lz.aggL ⟨w rfl, .row _ _ 1 _ h.path (by simp [n1]) (apart_int _), w rfl, .row _ _ 1 _ h.to (by simp [n2]) (apart_int _), w rfl, w rfl, w rfl, w rfl, w rfl, w rfl, .row _ _ 3 _ h.pieces (by simp) (apart_pieces _), trivial⟩
theorem sameO_bare2 (o : OpT) : sameO o (bareO o) = true := by
  unfold sameO
  rw [bare_bare]
  exact eqO_refl _

set_option maxHeartbeats 4000000 in
set_option maxRecDepth 100000 in
theorem w_TreeopsSame (t : Tree) (a b : OpT) : Pure Tryz.prog 16 [nodeV t, opV a, opV b] (fun x => x = .bool true) := by
  have hw := w_works08
  refine pure_of_funN (funN_of_goes 60 Tryz.func16 rfl rfl rfl fun B => ?_) rfl
  show CallThen _ _ _ _ _ _
  refine call_pure (w_Weight t 300 (by decide)) rfl ?_
  rintro z ⟨w, rfl, w1, w2, w3⟩
  refine ⟨fun _ => go 60 ?_, fun g0 => go 60 ?_⟩
  · show CallThen _ _ _ _ _ _
    refine call_pure hw rfl ?_
    rintro x rfl
    exact ⟨trivial, rfl, Ext.refl _, rfl, leaf_b rfl⟩
  have g0 : t.weight ≤ 300 := by
    have := of_decide_eq_false g0
    have := w3 (by omega)
    omega
  show CallThen _ _ _ _ _ _
  refine call_pure (w_LightX a 300 (by decide)) rfl ?_
  rintro x rfl
  refine ⟨fun g1 => go 60 ?_, fun g1 => go 60 ?_⟩
  · show CallThen _ _ _ _ _ _
    refine call_pure hw rfl ?_
    rintro x rfl
    exact ⟨trivial, rfl, Ext.refl _, rfl, leaf_b rfl⟩
  have ha := light_ok (top := 300) (o := a) (by simpa using g1) (by decide)
  show CallThen _ _ _ _ _ _
  refine call_pure (w_LightX b 300 (by decide)) rfl ?_
  rintro x rfl
  refine ⟨fun g2 => go 60 ?_, fun g2 => go 60 ?_⟩
  · show CallThen _ _ _ _ _ _
    refine call_pure hw rfl ?_
    rintro x rfl
    exact ⟨trivial, rfl, Ext.refl _, rfl, leaf_b rfl⟩
  have hb := light_ok (top := 300) (o := b) (by simpa using g2) (by decide)
  have hla := ((lightB_iff a 300).1 (by simpa using g1)).1
  have hc : costO a ≤ 10000 := by
    have h1 := ((lightB_iff a 300).1 (by simpa using g1))
    have h2 := h1.1.label
    have h3 := h1.1.key
    have h4 := h1.1.value
    unfold costO
    omega
  have c1 := w_Apply t a (by omega) ha
  have c2 := w_Apply t (bareO a) (by omega) (bare_ok ha)
  rw [bare_applyR] at c2
  have hbn := w_BareN a ha.lt
  have hbr := w_refBare a ha.lt
  have hbp := w_Bare a ha.lt
  have okd := bare_ok ha
  have e3 := w_SameO a (bareO a) ha.lt okd.lt
  rw [sameO_bare2] at e3
  have wx := applyR_weight t a
  obtain ⟨⟨y, e⟩, hr⟩ : ∃ r, applyR t a = r := ⟨_, rfl⟩
  rw [hr] at c1 c2 wx
  have c3 := w_Same y y (by simp only at wx; omega)
  rw [sameT_refl] at c3
  clear hr
  generalize bareO a = d at c2 hbn hbr hbp okd e3
  have d1 := w_refSame d.path d.path okd.lt.path
  have d2 := w_refSame d.to d.to okd.lt.to
  have d3 := w_kitSamePieces d.pieces d.pieces okd.lt.pieces
  rw [decide_eq_true rfl] at d1 d2 d3
  obtain ⟨np, hkp⟩ : ∃ np, (d.path.map intV).length = np := ⟨_, rfl⟩
  obtain ⟨nq, hkq⟩ : ∃ nq, (d.pieces.map pieceV).length = nq := ⟨_, rfl⟩
  have hnp : np ≤ 1000000 := by have := okd.lt.path; rw [← hkp, List.length_map]; exact this
  have hnq : nq ≤ 1000000 := by have := okd.lt.pieces; rw [← hkq, List.length_map]; exact this
  have e1 := w_SameO a b ha.lt hb.lt
  have e2 := w_refSameO a b ha.lt hb.lt
  show CallThen _ _ _ _ _ _
  refine call_funN hbn rfl ?_
  rintro z N ⟨ns, rfl, n2⟩ _ hN
  have nz : NewNs B ns := n2.fresh hN
  have n2 := n2.ext (N' := Base.add B N) fun q o e => add_new e (hN q o e)
  have hE := Ext.add B N
  clear hN
  generalize Base.add B N = B1 at n2 hE ⊢
  show CallThen _ _ _ _ _ _
  refine call_pure hbr rfl ?_
  rintro z rfl
  show CallThen _ _ _ _ _ _
  refine call_pure c1 rfl ?_
  rintro z rfl
  show CallThen _ _ _ _ _ _
  refine call_lend (fun r => if r = ns.s then 3 else 1) [1, 3] (fun r => by split <;> decide) c2 ⟨.wk (.refl _) (apart_node (by decide) t), lz_op n2, trivial⟩ rfl rfl rfl ?_ ?_
  · rintro z rfl
    show V.apart [1, 3] (.tup [nodeV y, .int .i64 e]) = true
    simp only [V.apart, V.apartL, apart_node (ss := [1, 3]) (by decide), Bool.and_self]
  rintro z rfl
  refine ⟨fun g => absurd g (by simp), fun _ => go 60 ?_⟩
  refine ⟨fun g => absurd g (by simp), fun _ => go 60 ?_⟩
  refine ⟨fun g => absurd g (by simp), fun _ => go 60 ?_⟩
  refine ⟨fun g => absurd g (by simp), fun _ => go 60 ?_⟩
  refine ⟨fun g => absurd g (by simp), fun _ => go 60 ?_⟩
  refine ⟨fun g => absurd g (by simp), fun _ => go 60 ?_⟩
  refine ⟨fun g => absurd g (by simp), fun _ => go 60 ?_⟩
  refine ⟨fun g => absurd g (by simp), fun _ => go 60 ?_⟩
  show CallThen _ _ _ _ _ _
  refine call_flatN d1 ⟨.row _ _ 1 _ n2.path, .wk (.refl _), trivial⟩ rfl rfl rfl rfl ?_
  refine ⟨fun g => (by cases g), fun _ => go 60 ?_⟩
  show CallThen _ _ _ _ _ _
  refine call_flatN d2 ⟨.row _ _ 1 _ n2.to, .wk (.refl _), trivial⟩ rfl rfl rfl rfl ?_
  refine ⟨fun g => (by cases g), fun _ => go 60 ?_⟩
  show CallThen _ _ _ _ _ _
  refine call_flatN d3 ⟨.row _ _ 3 _ n2.pieces, .wk (.refl _), trivial⟩ rfl rfl rfl rfl ?_
  refine ⟨fun g => (by cases g), fun _ => go 60 ?_⟩
  have s0 := n2.shp
  clear n2 c2 c1 d1 d2 d3 hla hc g0 g1 g2 w3
  show Goes { P := Tryz.prog, nt := Tryz.f16.ntmps, fn := 16, ro := none, imps := [], X := XN Tryz.prog Tryz.f16.results B (fun x _ => x = .bool true), B := B1, D := [] } _ _ _
  refine goes_iterB (ι := Nat) (fun i B' => i ≤ np ∧ Ext B B' ∧ NsShp B' ns d) (fun i => np - i) (fun i => [(13, .int .i64 i), (12, .int .i64 e), (11, .ptr (.loc 6) 0), (10, .int .i64 e), (9, .ptr (.loc 5) 0), (7, .ptr (.loc 3) 0), (5, .ptr (.loc 2) 0), (4, .ptr (.loc 1) 0)])
    (fun _ => [some (.box (nodeV t).cells), some (.box (opV a).cells), some (.box (opV b).cells), some (.box (opN ns d).cells), some (.box (opV d).cells), some (.box (nodeV y).cells), some (.box (nodeV y).cells)]) 0 60 (fun _ => rfl) (fun _ => rfl)
    ⟨⟨Nat.zero_le _, hE, s0⟩, ⟨⟨rfl, rfl⟩, ⟨rfl, rfl⟩, ⟨rfl, rfl⟩, ⟨rfl, rfl⟩, ⟨rfl, rfl⟩, ⟨rfl, rfl⟩, ⟨rfl, rfl⟩, ⟨rfl, rfl⟩, trivial⟩, ⟨⟨rfl, rfl⟩, ⟨rfl, rfl⟩, ⟨rfl, rfl⟩, ⟨rfl, rfl⟩, ⟨rfl, rfl⟩, ⟨rfl, rfl⟩, ⟨rfl, rfl⟩, trivial⟩⟩ ?_
  clear s0 hE
  rintro i Bc ⟨k1, kE, k2⟩ next
  obtain ⟨⟨xs, h1, e1'⟩, _, _⟩ := id k2
  rw [hkp] at e1'
  show Goes _ _ _ _
  refine goes_lenA 60 rfl rfl rfl rfl rfl List.not_mem_nil h1 ?_
  refine ⟨fun hlt => go 60 ?_, fun hge => go 60 ?_⟩
  · have hi : i < np := by have := lt_of hlt; rw [hkp] at this; omega
    show Goes _ _ _ _
    refine goes_indexA 60 rfl rfl rfl rfl rfl rfl rfl rfl List.not_mem_nil h1 (Int.natCast_nonneg i) (by rw [hkp]; omega) ?_
    show Goes _ _ _ _
    refine goes_storeA 60 rfl rfl rfl rfl rfl rfl List.not_mem_nil h1 (by rw [e1', Nat.zero_add]; exact hi) (Nat.le_refl _) fun B' xs' hx hr hq => ?_
    refine ⟨by constructor <;> omega, ?_⟩
    show Goes _ _ _ _
    obtain ⟨s1, hm⟩ := shp_step (ShpEq.refl Bc) (m := [ns.p, ns.t, ns.s]) (fun _ _ => rfl) h1 (by simp) hr hx hq
    exact next (i + 1) B' _ _ ⟨⟨hi, ext_step kE nz hm, k2.to' s1⟩, by omega, ⟨⟨rfl, rfl⟩, ⟨rfl, rfl⟩, ⟨rfl, rfl⟩, ⟨rfl, rfl⟩, ⟨rfl, rfl⟩, ⟨rfl, rfl⟩, ⟨rfl, rfl⟩, ⟨rfl, rfl⟩, trivial⟩, ⟨⟨rfl, rfl⟩, ⟨rfl, rfl⟩, ⟨rfl, rfl⟩, ⟨rfl, rfl⟩, ⟨rfl, rfl⟩, ⟨rfl, rfl⟩, ⟨rfl, rfl⟩, trivial⟩⟩
  clear next
  show Goes _ _ _ _
  refine goes_iterB (ι := Nat) (fun i B' => i ≤ nq ∧ Ext B B' ∧ NsShp B' ns d) (fun i => nq - i) (fun i => [(14, .int .i64 i), (12, .int .i64 e), (11, .ptr (.loc 6) 0), (10, .int .i64 e), (9, .ptr (.loc 5) 0), (7, .ptr (.loc 3) 0), (5, .ptr (.loc 2) 0), (4, .ptr (.loc 1) 0)])
    (fun _ => [some (.box (nodeV t).cells), some (.box (opV a).cells), some (.box (opV b).cells), some (.box (opN ns d).cells), some (.box (opV d).cells), some (.box (nodeV y).cells), some (.box (nodeV y).cells)]) 0 60 (fun _ => rfl) (fun _ => rfl)
    ⟨⟨Nat.zero_le _, kE, k2⟩, ⟨⟨rfl, rfl⟩, ⟨rfl, rfl⟩, ⟨rfl, rfl⟩, ⟨rfl, rfl⟩, ⟨rfl, rfl⟩, ⟨rfl, rfl⟩, ⟨rfl, rfl⟩, ⟨rfl, rfl⟩, trivial⟩, ⟨⟨rfl, rfl⟩, ⟨rfl, rfl⟩, ⟨rfl, rfl⟩, ⟨rfl, rfl⟩, ⟨rfl, rfl⟩, ⟨rfl, rfl⟩, ⟨rfl, rfl⟩, trivial⟩⟩ ?_
  clear k1 kE k2 h1 e1' hge xs
  rintro i Bc ⟨k1, kE, k2⟩ next
  obtain ⟨_, _, ⟨xs, h1, e1'⟩⟩ := id k2
  rw [hkq] at e1'
  show Goes _ _ _ _
  refine goes_lenA 60 rfl rfl rfl rfl rfl List.not_mem_nil h1 ?_
  refine ⟨fun hlt => go 60 ?_, fun hge => go 60 ?_⟩
  · have hi : i < nq := by have := lt_of hlt; rw [hkq] at this; omega
    show Goes _ _ _ _
    refine goes_indexA 60 rfl rfl rfl rfl rfl rfl rfl rfl List.not_mem_nil h1 (Int.natCast_nonneg i) (by rw [hkq]; omega) ?_
    show Goes _ _ _ _
    refine goes_fieldA 60 rfl rfl rfl rfl rfl rfl rfl rfl List.not_mem_nil h1 ?_
    show Goes _ _ _ _
    refine goes_storeA 60 rfl rfl rfl rfl rfl rfl List.not_mem_nil h1 (by rw [e1', Nat.zero_add]; exact hi) (by decide) fun B' xs' hx hr hq => ?_
    refine ⟨by constructor <;> omega, ?_⟩
    show Goes _ _ _ _
    obtain ⟨s1, hm⟩ := shp_step (ShpEq.refl Bc) (m := [ns.p, ns.t, ns.s]) (fun _ _ => rfl) h1 (by simp) hr hx hq
    exact next (i + 1) B' _ _ ⟨⟨hi, ext_step kE nz hm, k2.to' s1⟩, by omega, ⟨⟨rfl, rfl⟩, ⟨rfl, rfl⟩, ⟨rfl, rfl⟩, ⟨rfl, rfl⟩, ⟨rfl, rfl⟩, ⟨rfl, rfl⟩, ⟨rfl, rfl⟩, ⟨rfl, rfl⟩, trivial⟩, ⟨⟨rfl, rfl⟩, ⟨rfl, rfl⟩, ⟨rfl, rfl⟩, ⟨rfl, rfl⟩, ⟨rfl, rfl⟩, ⟨rfl, rfl⟩, ⟨rfl, rfl⟩, trivial⟩⟩
  clear next
  show Goes _ _ _ _
  refine goes_draw 60 ?_
  refine ⟨_, e1, rfl, _, e2, rfl, ?_⟩
  refine ⟨fun q => ?_, fun q => absurd q (by simp)⟩
  refine ⟨_, hbp, rfl, _, e3, rfl, ?_⟩
  refine ⟨fun _ => ?_, fun q => (by cases q)⟩
  refine ⟨fun _ => ?_, fun q => absurd q (by simp)⟩
  refine ⟨_, c3, rfl, ?_⟩
  refine ⟨fun _ => ?_, fun q => (by cases q)⟩
  refine ⟨_, hw, rfl, ?_⟩
  refine ⟨by kernel_rfl, ?_⟩
  exact ⟨trivial, rfl, kE, rfl, leaf_b rfl⟩
end Bow
/- AE55: sums of integers of other kinds than int. -/
namespace Bow
open Go

section
variable {c : Cx} {E : Env} {T : Heap} {ops : Array Oper} {i : Nat} {rest : List Nat} {k : List Item} {o : Oper}
theorem goes_addK {t t' : TypeId} {x y : Operand} {ik : IntKind} {a b : Int} (n : Nat) (ho : lget ops.toList i = some o) (hg : o.guard = none) (hop : o.op = .binOp .add t x y t') (hx : opd E x = .int ik a) (hy : opd E y = .int ik b)
    (h : putE c.nt o.dst (.int ik (ik.wrap (a + b))) E False fun E' => evp c n (.inRegion ops rest :: k) E' T) : Goes c (.inRegion ops (i :: rest) :: k) E T := by
  refine goes_opTo n ho hg hop (fun o hop w β H m a hs => ?_) (fun cl h => by cases h) h
  have e1 := rep_int (by have := opd_rep hs x; rwa [hx] at this)
  have e2 := rep_int (by have := opd_rep hs y; rwa [hy] at this)
  refine ⟨_, _, w, β, H, m, ?_, .inl rfl, hs, Fr.refl w β H, .int _ _, List.prefix_refl m⟩
  simp only [execOp, hop, e1, e2, eqGuard, binOp, ne_eq, not_true_eq_false, if_false]
  rfl
end
end Bow
/- W41: the program's IDs; count. -/
namespace Bow
open Go Go.Proofs

mutual
theorem pre_ids : ∀ (t : Tree) (d : Int), (t.pre d).map (fun p => p.2.id) = idsT t
  | .mk i l a b c ss, d => by rw [Tree.pre, List.map_cons, pres_ids ss (d + 1), idsT]; rfl
theorem pres_ids : ∀ (ss : List Tree) (d : Int), (pres d ss).map (fun p => p.2.id) = idsTs ss
  | [], d => by rw [pres, idsTs]; rfl
  | s :: ss, d => by rw [pres, List.map_append, pre_ids s d, pres_ids ss d, idsTs]
end
theorem foldl_ids : ∀ (l : List (Int × Tree)) (s : Nat × List V), (l.foldl (fun s p => (bump s.1, s.2 ++ [idV p.2.id])) s).2 = s.2 ++ l.map (fun p => idV p.2.id)
  | [], s => by simp
  | a :: l, s => by rw [List.foldl_cons, foldl_ids l]; simp

set_option maxRecDepth 100000 in
theorem w_IDs (t : Tree) (h : t.weight ≤ 1000000) : Pure Tryz.prog 53 [nodeV t] (fun x => x = idsV (idsT t)) := by
  have hsz := size_le_weight t
  refine pure_fn 100 Tryz.func53 rfl rfl rfl fun B => ?_
  show CallThen _ _ _ _ _ _
  refine call_pure (w_nodes t) rfl ?_
  rintro x rfl
  show Goes _ _ _ _
  refine goes_ownBox 1 1 rfl ?_
  refine goes_range_all (σ := Nat × List V) 100 3 (fun s => [some (.box (nodeV t).cells), some (.box [.osl (.loc 2) s.1 0 s.2.length]), some (.vec s.1 1 s.2)]) (fun s p => (bump s.1, s.2 ++ [idV p.2.id])) preV (fun s l => s.2.length + l.length ≤ 1000000) (0, []) (t.pre 0) rfl rfl rfl (w_iter t (by omega)) rfl (fun _ => rfl) (fun _ => rfl) (fun _ => rfl) rfl (fun _ => rfl) (fun _ _ h => by cases h) ?_ ?_ ?_
  · have := pre_length t 0
    simp
    omega
  · intro s a l hI
    simp only [List.length_cons] at hI
    refine ⟨by simp; omega, fun imps B r l h1 h2 => ?_⟩
    show Goes _ _ _ _
    refine goes_beginRound 100 rfl h2 rfl ?_
    refine ⟨⟨rfl, trivial⟩, rfl, rfl, rfl, rfl, room_of (by simp; omega) (by decide), ?_⟩
    refine ⟨rfl, rfl, trivial, ?_⟩
    exact ⟨⟨rfl, rfl⟩, ⟨by simp [idV], rfl⟩, ⟨rfl, rfl⟩, ⟨rfl, rfl⟩, ⟨rfl, rfl⟩, trivial⟩
  · intro s hs
    refine ⟨trivial, rfl, rfl, rfl, rfl, rfl, ?_⟩
    have e : s.2 = (idsT t).map idV := by
      rw [hs, foldl_ids, ← pre_ids t 0, List.map_map]
      rfl
    show V.sl 1 s.2 = _
    rw [e]
    rfl

set_option maxRecDepth 100000 in
theorem w_count (l : List Int) (id : Int) (hl : l.length ≤ 1000000000) : Pure Tryz.prog 55 [idsV l, .int .u64 id] (fun x => x = .int .i64 (l.count id)) := by
  refine pure_fn 300 Tryz.func55 rfl rfl rfl fun B => ?_
  show Goes _ _ _ _
  refine goes_iter (ι := Nat × Nat) (fun i => i.1 ≤ l.length ∧ i.2 ≤ i.1 ∧ i.2 + (l.drop i.1).count id = l.count id) (fun i => l.length - i.1) (fun i => [(6, .int .i64 i.1), (5, .int .i64 i.2), (0, idsV l), (1, .int .u64 id)]) (fun _ => []) (0, 0) 300 (fun _ => rfl) (fun _ => rfl) ⟨⟨Nat.zero_le _, Nat.le_refl _, by simp⟩, ⟨⟨rfl, rfl⟩, ⟨rfl, rfl⟩, ⟨rfl, rfl⟩, ⟨rfl, rfl⟩, trivial⟩, trivial⟩ ?_
  rintro ⟨i, n⟩ ⟨k1, k2, k3⟩ next
  simp only at k1 k2 k3
  refine ⟨fun hlt => go 300 ?_, fun hge => go 300 ?_⟩
  · have hi : i < l.length := by simpa using hlt
    have hx : (l.map idV)[i]? = some (idV l[i]) := by simp [hi]
    rw [List.drop_eq_getElem_cons hi, List.count_cons] at k3
    refine ⟨Int.natCast_nonneg i, _, hx, ?_⟩
    refine ⟨fun g => go 300 ?_, fun g => go 300 ?_⟩
    · have g := eq_of g
      rw [g] at k3
      simp only [beq_self_eq_true, if_true] at k3
      refine ⟨by constructor <;> omega, by constructor <;> omega, ?_⟩
      show Goes _ _ _ _
      exact next (i + 1, n + 1) _ _ ⟨⟨hi, by simp only; omega, by simp only; omega⟩, by simp only; omega, ⟨⟨rfl, rfl⟩, ⟨rfl, rfl⟩, ⟨rfl, rfl⟩, ⟨rfl, rfl⟩, trivial⟩, trivial⟩
    · have g := ne_of g
      have g' : (l[i] == id) = false := by simpa using g
      rw [g'] at k3
      simp only [Bool.false_eq_true, if_false, Nat.add_zero] at k3
      refine ⟨by constructor <;> omega, ?_⟩
      show Goes _ _ _ _
      exact next (i + 1, n) _ _ ⟨⟨hi, by simp only; omega, k3⟩, by simp only; omega, ⟨⟨rfl, rfl⟩, ⟨rfl, rfl⟩, ⟨rfl, rfl⟩, ⟨rfl, rfl⟩, trivial⟩, trivial⟩
  · have hi : l.length ≤ i := by simpa using hge
    rw [List.drop_eq_nil_of_le hi] at k3
    have k3 : n + 0 = l.count id := k3
    exact ⟨trivial, rfl, rfl, rfl, by rw [← k3]; rfl⟩
end Bow
