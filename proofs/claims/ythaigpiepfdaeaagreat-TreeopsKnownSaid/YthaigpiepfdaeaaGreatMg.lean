/- The library, part 7: W42, W43, SP18, W44, SP34, W86, W74, W87, W45, W94, TD1, TD2. -/
import Derived.Test.YthaigpiepfdaeaaGreatMf
import Derived.Test.YthaigpiepfdaeaaGreatMd
import Derived.Test.YthaigpiepfdaeaaGreatMe
import Derived.Test.YthaigpiepfdaeaaGreatRows
import Derived.ChangeShapes
/- W42: the law's function TreeopsRight. -/
namespace Bow
open Go Go.Proofs

theorem cnt_one {t : Tree} {o : OpT} (h : ValidE t o = 0) (hk : o.kind = 1) : ((idsT (applyT t o)).count o.id : Int) = ((idsT t).count o.id : Int) + 1 - ((goneT t o).count o.id : Int) := by
  have := (adds_count o.id).apply h
  have e : moreT o = [o.id] := by unfold moreT; rw [hk]; rfl
  rw [e] at this
  simp at this
  omega
theorem cnt_zero {t : Tree} {o : OpT} {id : Int} (h : ValidE t o = 0) (hk : ¬ (o.kind = 1 ∧ id = o.id)) : ((idsT (applyT t o)).count id : Int) = ((idsT t).count id : Int) + 0 - ((goneT t o).count id : Int) := by
  have := (adds_count id).apply h
  have e : (moreT o).count id = 0 := by
    unfold moreT
    by_cases h1 : o.kind = 1
    · have h2 : o.id ≠ id := fun e => hk ⟨h1, e.symm⟩
      rw [decide_eq_true h1]
      simp [h2]
    · rw [decide_eq_false h1]
      rfl
  rw [e] at this
  omega
theorem len_law {t : Tree} {o : OpT} (h : ValidE t o = 0) : ((idsT (applyT t o)).length : Int) = ((idsT t).length : Int) - ((goneT t o).length : Int) + (bif decide (o.kind = 1) then 1 else 0) := by
  have h1 : (idsT (applyT t o)).length + (goneT t o).length = (idsT t).length + (moreT o).length := adds_len.apply h
  unfold moreT at h1
  generalize decide (o.kind = 1) = b at h1 ⊢
  cases b with
  | false =>
    have h2 : (idsT (applyT t o)).length + (goneT t o).length = (idsT t).length + 0 := h1
    show ((idsT (applyT t o)).length : Int) = ((idsT t).length : Int) - ((goneT t o).length : Int) + 0
    omega
  | true =>
    have h2 : (idsT (applyT t o)).length + (goneT t o).length = (idsT t).length + 1 := h1
    show ((idsT (applyT t o)).length : Int) = ((idsT t).length : Int) - ((goneT t o).length : Int) + 1
    omega

set_option maxHeartbeats 4000000 in
set_option maxRecDepth 100000 in
theorem w_TreeopsRight (t : Tree) (o : OpT) : Pure Tryz.prog 13 [nodeV t, opV o] (fun x => x = .bool true) := by
  refine pure_wk (pure_fn 300 Tryz.func13 rfl rfl rfl fun B => ?_)
  show CallThen _ _ _ _ _ _
  refine call_pure (w_Weight t 600 (by decide)) rfl ?_
  rintro x ⟨w, rfl, w1, w2, w3⟩
  refine ⟨fun g => go 300 ?_, fun g => go 300 ?_⟩
  · show CallThen _ _ _ _ _ _
    refine call_pure w_works08 rfl ?_
    rintro x rfl
    exact ⟨trivial, rfl, rfl, rfl, leaf_b rfl⟩
  have g : (w : Int) ≤ 600 := not_lt_of g
  have hw : t.weight ≤ 600 := by have := w3 (by omega); omega
  have hw' : t.weight ≤ 1000000 := by omega
  show CallThen _ _ _ _ _ _
  refine call_pure (w_LightX o 500 (by decide)) rfl ?_
  rintro x rfl
  refine ⟨fun g => go 300 ?_, fun g => go 300 ?_⟩
  · show CallThen _ _ _ _ _ _
    refine call_pure w_works08 rfl ?_
    rintro x rfl
    exact ⟨trivial, rfl, rfl, rfl, leaf_b rfl⟩
  have ok : o.Ok := light_ok (by simpa using g) (by decide)
  have hlt := (lightB_iff o 500).1 (by simpa using g)
  have hrw := applyR_weight t o
  have hc1 := hlt.1.label
  have hc2 := hlt.1.key
  have hc3 := hlt.1.value
  have hc4 := hlt.2
  unfold costO at hrw
  show CallThen _ _ _ _ _ _
  refine call_pure (w_Apply t o (by omega) ok) rfl ?_
  rintro x rfl
  by_cases hv : ValidE t o = 0
  case neg =>
    have e : applyR t o = (zeroT [], ValidE t o) := by unfold applyR; rw [decide_eq_false hv]; rfl
    rw [e]
    refine ⟨fun _ => go 300 ?_, fun g => absurd (eq_of' g) hv⟩
    show CallThen _ _ _ _ _ _
    refine call_pure (pure_args (args := [nodeV (zeroT []), zeroV .nilsl]) (w_Same (zeroT []) (zeroT []) (by decide)) ⟨.refl _, wk_zero (ss := []) (Wk.nil 6), trivial⟩ rfl rfl) rfl ?_
    rintro x rfl
    refine ⟨fun _ => go 300 ?_, fun g => absurd ((sameT_refl true (zeroT [])).symm.trans g) (by decide)⟩
    show CallThen _ _ _ _ _ _
    refine call_pure w_works08 rfl ?_
    rintro x rfl
    exact ⟨trivial, rfl, rfl, rfl, leaf_b rfl⟩
  have e : applyR t o = (applyT t o, 0) := by unfold applyR; rw [decide_eq_true hv]; rfl
  rw [e] at hrw ⊢
  simp only at hrw
  have hsz1 := size_le_weight t
  have hsz2 := size_le_weight (applyT t o)
  have hln1 := idsT_len t
  have hln2 := idsT_len (applyT t o)
  have hll := len_law hv
  have hright := right_applyT hv
  refine ⟨fun g => absurd rfl (ne_of' g), fun _ => go 300 ?_⟩
  show Goes _ _ _ _
  refine goes_draw 300 ⟨_, w_IDs t hw', rfl, _, w_IDs (applyT t o) (by omega), rfl, ?_⟩
  refine ⟨by kernel_rfl, ?_⟩
  have hgl : (goneT t o).length ≤ t.size := by
    unfold goneT
    cases decide (o.kind = 2) with
    | false => exact Nat.zero_le _
    | true =>
      cases hx : atT t o.path with
      | none => exact Nat.zero_le _
      | some x =>
        have := atT_size hx
        have := idsT_len x
        show (idsT x).length ≤ _
        omega
  refine ⟨fun q => go 300 ?_, fun q => ?_⟩
  · have hk2 : o.kind = 2 := eq_of q
    obtain ⟨x, hx⟩ : ∃ x, atT t o.path = some x := by
      cases good_of hv with
      | del x hk hne hx => exact ⟨x, hx⟩
      | ins y hk | mov x z hk | att y hk | lab y hk | edt y hk => exact absurd (hk.symm.trans hk2) (by decide)
    have hxw := atT_weight hx
    show CallThen _ _ _ _ _ _
    refine call_pure (w_At t o.path ok.lt.path) rfl ?_
    rintro _ rfl
    rw [hx]
    show CallThen _ _ _ _ _ _
    refine call_pure (w_IDs x (by omega)) rfl ?_
    rintro z rfl
    have hgone : idsT x = goneT t o := by unfold goneT; rw [hk2, hx]; rfl
    rw [hgone]
    show Goes _ _ _ _
    refine goes_iter (ι := Nat) (fun i => i ≤ (idsT t).length + 1) (fun i => (idsT t).length + 1 - i) (fun i => [(12, .int .i64 i), (7, idsV (idsT t)), (8, idsV (idsT (applyT t o))), (9, idsV (goneT t o)), (3, .ptr (.loc 1) 0), (5, .ptr (.loc 2) 0)]) (fun _ => [some (.box (nodeV t).cells), some (.box (opV o).cells), some (.box (nodeV (applyT t o)).cells)]) 0 300 (fun _ => rfl) (fun _ => rfl) ⟨Nat.zero_le _, ⟨⟨rfl, rfl⟩, ⟨rfl, rfl⟩, ⟨rfl, rfl⟩, ⟨rfl, rfl⟩, ⟨rfl, rfl⟩, ⟨rfl, rfl⟩, trivial⟩, ⟨⟨rfl, rfl⟩, ⟨rfl, rfl⟩, ⟨rfl, rfl⟩, trivial⟩⟩ ?_
    rintro i k1 next
    refine ⟨by constructor <;> simp <;> omega, ?_⟩
    refine ⟨fun hlt => go 300 ?_, fun hge => go 300 ?_⟩
    · have hi : i < (idsT t).length + 1 := by have := lt_of hlt; simp at this; omega
      refine ⟨fun hl => go 300 ?_, fun hl => go 300 ?_⟩
      · have hj : i < (idsT t).length := by have := lt_of hl; simp at this; omega
        have hx : ((idsT t).map idV)[i]? = some (idV (idsT t)[i]) := by simp [hj]
        refine ⟨Int.natCast_nonneg i, _, hx, ?_⟩
        refine ⟨fun q1 => go 300 ?_, fun q1 => go 300 ?_⟩
        · have hk1 : o.kind = 1 := eq_of q1
          refine ⟨fun q2 => go 300 ?_, fun q2 => go 300 ?_⟩
          · have hid : (idsT t)[i] = o.id := eq_of q2
            show CallThen _ _ _ _ _ _
            refine call_pure (w_count (idsT (applyT t o)) (idsT t)[i] (by omega)) rfl ?_
            rintro x rfl
            show CallThen _ _ _ _ _ _
            refine call_pure (w_count (idsT t) (idsT t)[i] (by omega)) rfl ?_
            rintro x rfl
            have b1 := List.count_le_length (a := (idsT t)[i]) (l := idsT t)
            have b2 := List.count_le_length (a := (idsT t)[i]) (l := goneT t o)
            refine ⟨by constructor <;> omega, ?_⟩
            show CallThen _ _ _ _ _ _
            refine call_pure (w_count (goneT t o) (idsT t)[i] (by omega)) rfl ?_
            rintro x rfl
            refine ⟨by constructor <;> omega, ?_⟩
            refine ⟨fun g => absurd (by rw [hid]; exact cnt_one hv hk1) (ne_of' g), fun _ => go 300 ?_⟩
            refine ⟨by constructor <;> omega, ?_⟩
            show Goes _ _ _ _
            exact next (i + 1) _ _ ⟨by omega, by omega, ⟨⟨rfl, rfl⟩, ⟨rfl, rfl⟩, ⟨rfl, rfl⟩, ⟨rfl, rfl⟩, ⟨rfl, rfl⟩, ⟨rfl, rfl⟩, trivial⟩, ⟨⟨rfl, rfl⟩, ⟨rfl, rfl⟩, ⟨rfl, rfl⟩, trivial⟩⟩
          · have hid : (idsT t)[i] ≠ o.id := ne_of q2
            show CallThen _ _ _ _ _ _
            refine call_pure (w_count (idsT (applyT t o)) (idsT t)[i] (by omega)) rfl ?_
            rintro x rfl
            show CallThen _ _ _ _ _ _
            refine call_pure (w_count (idsT t) (idsT t)[i] (by omega)) rfl ?_
            rintro x rfl
            have b1 := List.count_le_length (a := (idsT t)[i]) (l := idsT t)
            have b2 := List.count_le_length (a := (idsT t)[i]) (l := goneT t o)
            refine ⟨by constructor <;> omega, ?_⟩
            show CallThen _ _ _ _ _ _
            refine call_pure (w_count (goneT t o) (idsT t)[i] (by omega)) rfl ?_
            rintro x rfl
            refine ⟨by constructor <;> omega, ?_⟩
            refine ⟨fun g => absurd (cnt_zero hv fun h => hid h.2) (ne_of' g), fun _ => go 300 ?_⟩
            refine ⟨by constructor <;> omega, ?_⟩
            show Goes _ _ _ _
            exact next (i + 1) _ _ ⟨by omega, by omega, ⟨⟨rfl, rfl⟩, ⟨rfl, rfl⟩, ⟨rfl, rfl⟩, ⟨rfl, rfl⟩, ⟨rfl, rfl⟩, ⟨rfl, rfl⟩, trivial⟩, ⟨⟨rfl, rfl⟩, ⟨rfl, rfl⟩, ⟨rfl, rfl⟩, trivial⟩⟩
        · have hk1 : o.kind ≠ 1 := ne_of q1
          show CallThen _ _ _ _ _ _
          refine call_pure (w_count (idsT (applyT t o)) (idsT t)[i] (by omega)) rfl ?_
          rintro x rfl
          show CallThen _ _ _ _ _ _
          refine call_pure (w_count (idsT t) (idsT t)[i] (by omega)) rfl ?_
          rintro x rfl
          have b1 := List.count_le_length (a := (idsT t)[i]) (l := idsT t)
          have b2 := List.count_le_length (a := (idsT t)[i]) (l := goneT t o)
          refine ⟨by constructor <;> omega, ?_⟩
          show CallThen _ _ _ _ _ _
          refine call_pure (w_count (goneT t o) (idsT t)[i] (by omega)) rfl ?_
          rintro x rfl
          refine ⟨by constructor <;> omega, ?_⟩
          refine ⟨fun g => absurd (cnt_zero hv fun h => hk1 h.1) (ne_of' g), fun _ => go 300 ?_⟩
          refine ⟨by constructor <;> omega, ?_⟩
          show Goes _ _ _ _
          exact next (i + 1) _ _ ⟨by omega, by omega, ⟨⟨rfl, rfl⟩, ⟨rfl, rfl⟩, ⟨rfl, rfl⟩, ⟨rfl, rfl⟩, ⟨rfl, rfl⟩, ⟨rfl, rfl⟩, trivial⟩, ⟨⟨rfl, rfl⟩, ⟨rfl, rfl⟩, ⟨rfl, rfl⟩, trivial⟩⟩
      · skip
        refine ⟨fun q1 => go 300 ?_, fun q1 => go 300 ?_⟩
        · have hk1 : o.kind = 1 := eq_of q1
          refine ⟨fun q2 => go 300 ?_, fun q2 => go 300 ?_⟩
          · skip
            show CallThen _ _ _ _ _ _
            refine call_pure (w_count (idsT (applyT t o)) o.id (by omega)) rfl ?_
            rintro x rfl
            show CallThen _ _ _ _ _ _
            refine call_pure (w_count (idsT t) o.id (by omega)) rfl ?_
            rintro x rfl
            have b1 := List.count_le_length (a := o.id) (l := idsT t)
            have b2 := List.count_le_length (a := o.id) (l := goneT t o)
            refine ⟨by constructor <;> omega, ?_⟩
            show CallThen _ _ _ _ _ _
            refine call_pure (w_count (goneT t o) o.id (by omega)) rfl ?_
            rintro x rfl
            refine ⟨by constructor <;> omega, ?_⟩
            refine ⟨fun g => absurd (cnt_one hv hk1) (ne_of' g), fun _ => go 300 ?_⟩
            refine ⟨by constructor <;> omega, ?_⟩
            show Goes _ _ _ _
            exact next (i + 1) _ _ ⟨by omega, by omega, ⟨⟨rfl, rfl⟩, ⟨rfl, rfl⟩, ⟨rfl, rfl⟩, ⟨rfl, rfl⟩, ⟨rfl, rfl⟩, ⟨rfl, rfl⟩, trivial⟩, ⟨⟨rfl, rfl⟩, ⟨rfl, rfl⟩, ⟨rfl, rfl⟩, trivial⟩⟩
          · exact absurd rfl (ne_of q2)
        · have hk1 : o.kind ≠ 1 := ne_of q1
          show CallThen _ _ _ _ _ _
          refine call_pure (w_count (idsT (applyT t o)) o.id (by omega)) rfl ?_
          rintro x rfl
          show CallThen _ _ _ _ _ _
          refine call_pure (w_count (idsT t) o.id (by omega)) rfl ?_
          rintro x rfl
          have b1 := List.count_le_length (a := o.id) (l := idsT t)
          have b2 := List.count_le_length (a := o.id) (l := goneT t o)
          refine ⟨by constructor <;> omega, ?_⟩
          show CallThen _ _ _ _ _ _
          refine call_pure (w_count (goneT t o) o.id (by omega)) rfl ?_
          rintro x rfl
          refine ⟨by constructor <;> omega, ?_⟩
          refine ⟨fun g => absurd (cnt_zero hv fun h => hk1 h.1) (ne_of' g), fun _ => go 300 ?_⟩
          refine ⟨by constructor <;> omega, ?_⟩
          show Goes _ _ _ _
          exact next (i + 1) _ _ ⟨by omega, by omega, ⟨⟨rfl, rfl⟩, ⟨rfl, rfl⟩, ⟨rfl, rfl⟩, ⟨rfl, rfl⟩, ⟨rfl, rfl⟩, ⟨rfl, rfl⟩, trivial⟩, ⟨⟨rfl, rfl⟩, ⟨rfl, rfl⟩, ⟨rfl, rfl⟩, trivial⟩⟩
    · have hi : i = (idsT t).length + 1 := by have := not_lt_of hge; simp at this; omega
      refine ⟨by constructor <;> simp <;> omega, ?_⟩
      refine ⟨fun q1 => go 300 ?_, fun q1 => go 300 ?_⟩
      · have hk1 : decide (o.kind = 1) = true := decide_eq_true (eq_of q1)
        rw [hk1] at hll
        simp only [cond_true, cond_false] at hll
        refine ⟨by constructor <;> simp <;> omega, ?_⟩
        show CallThen _ _ _ _ _ _
        refine call_pure (w_RightT (applyT t o) (by omega)) rfl ?_
        rintro x rfl
        refine ⟨fun _ => go 300 ?_, fun g => absurd (hright.symm.trans g) (by decide)⟩
        refine ⟨fun _ => go 300 ?_, fun g => absurd (by simp; omega) (ne_of g)⟩
        show CallThen _ _ _ _ _ _
        refine call_pure w_works08 rfl ?_
        rintro x rfl
        exact ⟨trivial, rfl, rfl, rfl, leaf_b rfl⟩
      · have hk1 : decide (o.kind = 1) = false := decide_eq_false (ne_of q1)
        rw [hk1] at hll
        simp only [cond_true, cond_false] at hll
        show CallThen _ _ _ _ _ _
        refine call_pure (w_RightT (applyT t o) (by omega)) rfl ?_
        rintro x rfl
        refine ⟨fun _ => go 300 ?_, fun g => absurd (hright.symm.trans g) (by decide)⟩
        refine ⟨fun _ => go 300 ?_, fun g => absurd (by simp; omega) (ne_of g)⟩
        show CallThen _ _ _ _ _ _
        refine call_pure w_works08 rfl ?_
        rintro x rfl
        exact ⟨trivial, rfl, rfl, rfl, leaf_b rfl⟩
  · have hk2 : o.kind ≠ 2 := ne_of q
    have hgone : goneT t o = [] := by unfold goneT; rw [decide_eq_false hk2]; rfl
    refine go 1 ?_
    show Goes _ _ _ _
    refine goes_wkSlot 9 (v := .nilsl) (v' := idsV (goneT t o)) rfl rfl rfl (by rw [hgone]; exact Wk.nil 1) ?_
    refine go 300 ?_
    show Goes _ _ _ _
    refine goes_iter (ι := Nat) (fun i => i ≤ (idsT t).length + 1) (fun i => (idsT t).length + 1 - i) (fun i => [(12, .int .i64 i), (7, idsV (idsT t)), (8, idsV (idsT (applyT t o))), (9, idsV (goneT t o)), (3, .ptr (.loc 1) 0), (5, .ptr (.loc 2) 0)]) (fun _ => [some (.box (nodeV t).cells), some (.box (opV o).cells), some (.box (nodeV (applyT t o)).cells)]) 0 300 (fun _ => rfl) (fun _ => rfl) ⟨Nat.zero_le _, ⟨⟨rfl, rfl⟩, ⟨rfl, rfl⟩, ⟨rfl, rfl⟩, ⟨rfl, rfl⟩, ⟨rfl, rfl⟩, ⟨rfl, rfl⟩, trivial⟩, ⟨⟨rfl, rfl⟩, ⟨rfl, rfl⟩, ⟨rfl, rfl⟩, trivial⟩⟩ ?_
    rintro i k1 next
    refine ⟨by constructor <;> simp <;> omega, ?_⟩
    refine ⟨fun hlt => go 300 ?_, fun hge => go 300 ?_⟩
    · have hi : i < (idsT t).length + 1 := by have := lt_of hlt; simp at this; omega
      refine ⟨fun hl => go 300 ?_, fun hl => go 300 ?_⟩
      · have hj : i < (idsT t).length := by have := lt_of hl; simp at this; omega
        have hx : ((idsT t).map idV)[i]? = some (idV (idsT t)[i]) := by simp [hj]
        refine ⟨Int.natCast_nonneg i, _, hx, ?_⟩
        refine ⟨fun q1 => go 300 ?_, fun q1 => go 300 ?_⟩
        · have hk1 : o.kind = 1 := eq_of q1
          refine ⟨fun q2 => go 300 ?_, fun q2 => go 300 ?_⟩
          · have hid : (idsT t)[i] = o.id := eq_of q2
            show CallThen _ _ _ _ _ _
            refine call_pure (w_count (idsT (applyT t o)) (idsT t)[i] (by omega)) rfl ?_
            rintro x rfl
            show CallThen _ _ _ _ _ _
            refine call_pure (w_count (idsT t) (idsT t)[i] (by omega)) rfl ?_
            rintro x rfl
            have b1 := List.count_le_length (a := (idsT t)[i]) (l := idsT t)
            have b2 := List.count_le_length (a := (idsT t)[i]) (l := goneT t o)
            refine ⟨by constructor <;> omega, ?_⟩
            show CallThen _ _ _ _ _ _
            refine call_pure (w_count (goneT t o) (idsT t)[i] (by omega)) rfl ?_
            rintro x rfl
            refine ⟨by constructor <;> omega, ?_⟩
            refine ⟨fun g => absurd (by rw [hid]; exact cnt_one hv hk1) (ne_of' g), fun _ => go 300 ?_⟩
            refine ⟨by constructor <;> omega, ?_⟩
            show Goes _ _ _ _
            exact next (i + 1) _ _ ⟨by omega, by omega, ⟨⟨rfl, rfl⟩, ⟨rfl, rfl⟩, ⟨rfl, rfl⟩, ⟨rfl, rfl⟩, ⟨rfl, rfl⟩, ⟨rfl, rfl⟩, trivial⟩, ⟨⟨rfl, rfl⟩, ⟨rfl, rfl⟩, ⟨rfl, rfl⟩, trivial⟩⟩
          · have hid : (idsT t)[i] ≠ o.id := ne_of q2
            show CallThen _ _ _ _ _ _
            refine call_pure (w_count (idsT (applyT t o)) (idsT t)[i] (by omega)) rfl ?_
            rintro x rfl
            show CallThen _ _ _ _ _ _
            refine call_pure (w_count (idsT t) (idsT t)[i] (by omega)) rfl ?_
            rintro x rfl
            have b1 := List.count_le_length (a := (idsT t)[i]) (l := idsT t)
            have b2 := List.count_le_length (a := (idsT t)[i]) (l := goneT t o)
            refine ⟨by constructor <;> omega, ?_⟩
            show CallThen _ _ _ _ _ _
            refine call_pure (w_count (goneT t o) (idsT t)[i] (by omega)) rfl ?_
            rintro x rfl
            refine ⟨by constructor <;> omega, ?_⟩
            refine ⟨fun g => absurd (cnt_zero hv fun h => hid h.2) (ne_of' g), fun _ => go 300 ?_⟩
            refine ⟨by constructor <;> omega, ?_⟩
            show Goes _ _ _ _
            exact next (i + 1) _ _ ⟨by omega, by omega, ⟨⟨rfl, rfl⟩, ⟨rfl, rfl⟩, ⟨rfl, rfl⟩, ⟨rfl, rfl⟩, ⟨rfl, rfl⟩, ⟨rfl, rfl⟩, trivial⟩, ⟨⟨rfl, rfl⟩, ⟨rfl, rfl⟩, ⟨rfl, rfl⟩, trivial⟩⟩
        · have hk1 : o.kind ≠ 1 := ne_of q1
          show CallThen _ _ _ _ _ _
          refine call_pure (w_count (idsT (applyT t o)) (idsT t)[i] (by omega)) rfl ?_
          rintro x rfl
          show CallThen _ _ _ _ _ _
          refine call_pure (w_count (idsT t) (idsT t)[i] (by omega)) rfl ?_
          rintro x rfl
          have b1 := List.count_le_length (a := (idsT t)[i]) (l := idsT t)
          have b2 := List.count_le_length (a := (idsT t)[i]) (l := goneT t o)
          refine ⟨by constructor <;> omega, ?_⟩
          show CallThen _ _ _ _ _ _
          refine call_pure (w_count (goneT t o) (idsT t)[i] (by omega)) rfl ?_
          rintro x rfl
          refine ⟨by constructor <;> omega, ?_⟩
          refine ⟨fun g => absurd (cnt_zero hv fun h => hk1 h.1) (ne_of' g), fun _ => go 300 ?_⟩
          refine ⟨by constructor <;> omega, ?_⟩
          show Goes _ _ _ _
          exact next (i + 1) _ _ ⟨by omega, by omega, ⟨⟨rfl, rfl⟩, ⟨rfl, rfl⟩, ⟨rfl, rfl⟩, ⟨rfl, rfl⟩, ⟨rfl, rfl⟩, ⟨rfl, rfl⟩, trivial⟩, ⟨⟨rfl, rfl⟩, ⟨rfl, rfl⟩, ⟨rfl, rfl⟩, trivial⟩⟩
      · skip
        refine ⟨fun q1 => go 300 ?_, fun q1 => go 300 ?_⟩
        · have hk1 : o.kind = 1 := eq_of q1
          refine ⟨fun q2 => go 300 ?_, fun q2 => go 300 ?_⟩
          · skip
            show CallThen _ _ _ _ _ _
            refine call_pure (w_count (idsT (applyT t o)) o.id (by omega)) rfl ?_
            rintro x rfl
            show CallThen _ _ _ _ _ _
            refine call_pure (w_count (idsT t) o.id (by omega)) rfl ?_
            rintro x rfl
            have b1 := List.count_le_length (a := o.id) (l := idsT t)
            have b2 := List.count_le_length (a := o.id) (l := goneT t o)
            refine ⟨by constructor <;> omega, ?_⟩
            show CallThen _ _ _ _ _ _
            refine call_pure (w_count (goneT t o) o.id (by omega)) rfl ?_
            rintro x rfl
            refine ⟨by constructor <;> omega, ?_⟩
            refine ⟨fun g => absurd (cnt_one hv hk1) (ne_of' g), fun _ => go 300 ?_⟩
            refine ⟨by constructor <;> omega, ?_⟩
            show Goes _ _ _ _
            exact next (i + 1) _ _ ⟨by omega, by omega, ⟨⟨rfl, rfl⟩, ⟨rfl, rfl⟩, ⟨rfl, rfl⟩, ⟨rfl, rfl⟩, ⟨rfl, rfl⟩, ⟨rfl, rfl⟩, trivial⟩, ⟨⟨rfl, rfl⟩, ⟨rfl, rfl⟩, ⟨rfl, rfl⟩, trivial⟩⟩
          · exact absurd rfl (ne_of q2)
        · have hk1 : o.kind ≠ 1 := ne_of q1
          show CallThen _ _ _ _ _ _
          refine call_pure (w_count (idsT (applyT t o)) o.id (by omega)) rfl ?_
          rintro x rfl
          show CallThen _ _ _ _ _ _
          refine call_pure (w_count (idsT t) o.id (by omega)) rfl ?_
          rintro x rfl
          have b1 := List.count_le_length (a := o.id) (l := idsT t)
          have b2 := List.count_le_length (a := o.id) (l := goneT t o)
          refine ⟨by constructor <;> omega, ?_⟩
          show CallThen _ _ _ _ _ _
          refine call_pure (w_count (goneT t o) o.id (by omega)) rfl ?_
          rintro x rfl
          refine ⟨by constructor <;> omega, ?_⟩
          refine ⟨fun g => absurd (cnt_zero hv fun h => hk1 h.1) (ne_of' g), fun _ => go 300 ?_⟩
          refine ⟨by constructor <;> omega, ?_⟩
          show Goes _ _ _ _
          exact next (i + 1) _ _ ⟨by omega, by omega, ⟨⟨rfl, rfl⟩, ⟨rfl, rfl⟩, ⟨rfl, rfl⟩, ⟨rfl, rfl⟩, ⟨rfl, rfl⟩, ⟨rfl, rfl⟩, trivial⟩, ⟨⟨rfl, rfl⟩, ⟨rfl, rfl⟩, ⟨rfl, rfl⟩, trivial⟩⟩
    · have hi : i = (idsT t).length + 1 := by have := not_lt_of hge; simp at this; omega
      refine ⟨by constructor <;> simp <;> omega, ?_⟩
      refine ⟨fun q1 => go 300 ?_, fun q1 => go 300 ?_⟩
      · have hk1 : decide (o.kind = 1) = true := decide_eq_true (eq_of q1)
        rw [hk1] at hll
        simp only [cond_true, cond_false] at hll
        refine ⟨by constructor <;> simp <;> omega, ?_⟩
        show CallThen _ _ _ _ _ _
        refine call_pure (w_RightT (applyT t o) (by omega)) rfl ?_
        rintro x rfl
        refine ⟨fun _ => go 300 ?_, fun g => absurd (hright.symm.trans g) (by decide)⟩
        refine ⟨fun _ => go 300 ?_, fun g => absurd (by simp; omega) (ne_of g)⟩
        show CallThen _ _ _ _ _ _
        refine call_pure w_works08 rfl ?_
        rintro x rfl
        exact ⟨trivial, rfl, rfl, rfl, leaf_b rfl⟩
      · have hk1 : decide (o.kind = 1) = false := decide_eq_false (ne_of q1)
        rw [hk1] at hll
        simp only [cond_true, cond_false] at hll
        show CallThen _ _ _ _ _ _
        refine call_pure (w_RightT (applyT t o) (by omega)) rfl ?_
        rintro x rfl
        refine ⟨fun _ => go 300 ?_, fun g => absurd (hright.symm.trans g) (by decide)⟩
        refine ⟨fun _ => go 300 ?_, fun g => absurd (by simp; omega) (ne_of g)⟩
        show CallThen _ _ _ _ _ _
        refine call_pure w_works08 rfl ?_
        rintro x rfl
        exact ⟨trivial, rfl, rfl, rfl, leaf_b rfl⟩
end Bow
/- W43: the law's function TreeopsAll. -/
namespace Bow
open Go Go.Proofs

set_option maxHeartbeats 1000000 in
set_option maxRecDepth 100000 in
theorem w_TreeopsAll (t : Tree) (l : List OpT) (_hlen : l.length ≤ maxLen) : Pure Tryz.prog 17 [nodeV t, opsV l] (fun x => x = .bool true) := by
  refine pure_wk (pure_fn 300 Tryz.func17 rfl rfl rfl fun B => ?_)
  show CallThen _ _ _ _ _ _
  refine call_pure (w_Weight t 300 (by decide)) rfl ?_
  rintro x ⟨w, rfl, w1, w2, w3⟩
  refine ⟨fun g => go 300 ?_, fun g => go 300 ?_⟩
  · show CallThen _ _ _ _ _ _
    refine call_pure w_works08 rfl ?_
    rintro x rfl
    exact ⟨trivial, rfl, rfl, rfl, leaf_b rfl⟩
  have g : (w : Int) ≤ 300 := not_lt_of g
  have hw : t.weight ≤ 300 := by have := w3 (by omega); omega
  show CallThen _ _ _ _ _ _
  refine call_pure (w_LightList l 30 100 (by decide) (by decide)) rfl ?_
  rintro x ⟨b, rfl, hb⟩
  refine ⟨fun g => go 300 ?_, fun g => go 300 ?_⟩
  · show CallThen _ _ _ _ _ _
    refine call_pure w_works08 rfl ?_
    rintro x rfl
    exact ⟨trivial, rfl, rfl, rfl, leaf_b rfl⟩
  have g : b = true := by simpa using g
  have hL := hb g
  have hn := hL.len
  have hok : ∀ o ∈ l, o.Ok := fun o ho => by
    obtain ⟨h1, h2⟩ := hL.ops o ho
    exact ⟨Lt_mono h1 (by decide), by omega⟩
  have hcost : costs l ≤ 30 * 402 := costs_le hn fun o ho => by
    obtain ⟨h1, h2⟩ := hL.ops o ho
    have := h1.label
    have := h1.key
    have := h1.value
    unfold costO
    omega
  have hrw := AllR_weight t l
  show CallThen _ _ _ _ _ _
  refine call_pure (w_ApplyAll t l (by omega) (by omega) hok) rfl ?_
  rintro x rfl
  show CallThen _ _ _ _ _ _
  refine call_pure (w_refApplyAll t l (by omega) (by omega) hok) rfl ?_
  rintro x rfl
  refine ⟨fun _ => go 300 ?_, fun g => absurd rfl (ne_of g)⟩
  refine ⟨fun _ => go 300 ?_, fun g => absurd rfl (ne_of g)⟩
  show CallThen _ _ _ _ _ _
  refine call_pure (w_refSameT (AllR t l).1 (AllR t l).1 (by omega)) rfl ?_
  rintro x rfl
  refine ⟨fun _ => go 300 ?_, fun g => absurd ((sameT_refl true (AllR t l).1).symm.trans g) (by decide)⟩
  show CallThen _ _ _ _ _ _
  refine call_pure w_works08 rfl ?_
  rintro x rfl
  exact ⟨trivial, rfl, rfl, rfl, leaf_b rfl⟩
end Bow
/- SP18: the paths of a tree's nodes; a move to a gap beside itself; in plain Lean. -/
namespace Bow
open Go

mutual
def pathsT : Tree → List (List Int)
  | .mk _ _ _ _ _ ss => [] :: pathsTs 0 ss
def pathsTs : Nat → List Tree → List (List Int)
  | _, [] => []
  | i, s :: ss => (pathsT s).map (fun p => (i : Int) :: p) ++ pathsTs (i + 1) ss
end
theorem pathsT_eq (t : Tree) : pathsT t = [] :: pathsTs 0 t.subs := by cases t; rw [pathsT]; rfl
mutual
theorem pathsT_len : ∀ t : Tree, (pathsT t).length = t.size
  | .mk i l a b c ss => by rw [pathsT, Tree.size, List.length_cons, pathsTs_len 0 ss]; omega
theorem pathsTs_len : ∀ (i : Nat) (ss : List Tree), (pathsTs i ss).length = sizes ss
  | _, [] => by rw [pathsTs]; rfl
  | i, s :: ss => by rw [pathsTs, sizes, List.length_append, List.length_map, pathsT_len s, pathsTs_len (i + 1) ss]
end
theorem mem_pathsTs {q : List Int} : ∀ {ss : List Tree} {i : Nat}, q ∈ pathsTs i ss → ∃ (k : Nat) (s : Tree) (p : List Int), ss[k]? = some s ∧ q = ((i + k : Nat) : Int) :: p ∧ p ∈ pathsT s
  | [], i, h => by rw [pathsTs] at h; cases h
  | s :: ss, i, h => by
    rw [pathsTs] at h
    rcases List.mem_append.1 h with h | h
    · obtain ⟨p, hp, rfl⟩ := List.mem_map.1 h
      exact ⟨0, s, p, rfl, rfl, hp⟩
    · obtain ⟨k, s', p, h1, h2, h3⟩ := mem_pathsTs h
      exact ⟨k + 1, s', p, h1, by rw [h2]; congr 2; omega, h3⟩
theorem pathsTs_mem {s : Tree} {p : List Int} : ∀ {ss : List Tree} {i k : Nat}, ss[k]? = some s → p ∈ pathsT s → (((i + k : Nat) : Int) :: p) ∈ pathsTs i ss
  | [], i, k, h, _ => by simp at h
  | x :: ss, i, 0, h, hp => by
    simp at h
    subst h
    rw [pathsTs]
    exact List.mem_append_left _ (List.mem_map.2 ⟨p, hp, rfl⟩)
  | x :: ss, i, k + 1, h, hp => by
    rw [pathsTs]
    have := pathsTs_mem (i := i + 1) (ss := ss) (k := k) (by simpa using h) hp
    have e : i + 1 + k = i + (k + 1) := by omega
    rw [e] at this
    exact List.mem_append_right _ this
theorem at_paths : ∀ {p : List Int} {t y : Tree}, atT t p = some y → p ∈ pathsT t
  | [], t, y, _ => by rw [pathsT_eq]; exact List.mem_cons_self
  | i :: p, t, y, h => by
    rw [atT] at h
    cases hs : subT t i with
    | none => rw [hs] at h; cases h
    | some s =>
      rw [hs] at h
      obtain ⟨h1, h2, _⟩ := subT_some hs
      have := pathsTs_mem (i := 0) h2 (at_paths (p := p) h)
      rw [pathsT_eq]
      have e : ((0 + i.toNat : Nat) : Int) = i := by omega
      rw [e] at this
      exact List.mem_cons_of_mem _ this
theorem paths_at {t : Tree} : ∀ {p : List Int}, p ∈ pathsT t → ∃ y, atT t p = some y := by
  induction t using Tree.ind with
  | _ t ih =>
  intro p h
  rw [pathsT_eq] at h
  rcases List.mem_cons.1 h with rfl | h
  · exact ⟨t, by rw [atT]⟩
  · obtain ⟨k, s, q, h1, rfl, h3⟩ := mem_pathsTs h
    obtain ⟨y, hy⟩ := ih s (List.mem_of_getElem? h1) h3
    have : subT t ((0 + k : Nat) : Int) = some s := by rw [subT_eq (by omega)]; simpa using h1
    exact ⟨y, by rw [at_cons _ this]; exact hy⟩
theorem paths_deep {t : Tree} : ∀ {p : List Int}, p ∈ pathsT t → p.length < t.size := by
  induction t using Tree.ind with
  | _ t ih =>
  intro p h
  have hs : 0 < t.size := by cases t; rw [Tree.size]; omega
  rw [pathsT_eq] at h
  rcases List.mem_cons.1 h with rfl | h
  · exact hs
  · obtain ⟨k, s, q, h1, rfl, h3⟩ := mem_pathsTs h
    have hm := List.mem_of_getElem? h1
    have := ih s hm h3
    have := Tree.size_sub hm
    simp only [List.length_cons]
    omega
theorem pathsTs_drop : ∀ {ss : List Tree} {i k : Nat} (h : k < ss.length), pathsTs (i + k) (ss.drop k) = (pathsT ss[k]).map (fun p => ((i + k : Nat) : Int) :: p) ++ pathsTs (i + (k + 1)) (ss.drop (k + 1)) := by
  intro ss i k h
  rw [List.drop_eq_getElem_cons h, pathsTs]
  rfl

theorem change_change {F G : Tree → Tree} {y : Tree} : ∀ {p : List Int} {t : Tree}, atT t p = some y → changeT G (changeT F t p) p = changeT (fun y => G (F y)) t p
  | [], t, h => rfl
  | i :: p, t, h => by
    rw [atT] at h
    cases hs : subT t i with
    | none => rw [hs] at h; cases h
    | some s =>
      rw [hs] at h
      obtain ⟨h1, h2, _⟩ := subT_some hs
      have hl := lt_of_get h2
      rw [change_cons _ _ _ _ hs, change_cons _ _ _ _ hs]
      have hs1 : subT (t.withSubs (t.subs.set i.toNat (changeT F s p))) i = some (changeT F s p) := by
        rw [subT_with _ _ _ h1, List.getElem?_set_self hl]
      rw [change_cons _ _ _ _ hs1, withSubs_withSubs, withSubs_subs, List.set_set, change_change (p := p) h]
theorem withSubs_same (t : Tree) : t.withSubs t.subs = t := by cases t; rfl
theorem change_self {F : Tree → Tree} {y : Tree} (hF : F y = y) : ∀ {p : List Int} {t : Tree}, atT t p = some y → changeT F t p = t
  | [], t, h => by
    rw [atT] at h
    injection h with h
    subst h
    exact hF
  | i :: p, t, h => by
    rw [atT] at h
    cases hs : subT t i with
    | none => rw [hs] at h; cases h
    | some s =>
      rw [hs] at h
      obtain ⟨h1, h2, _⟩ := subT_some hs
      have hl := lt_of_get h2
      rw [change_cons _ _ _ _ hs, change_self hF (p := p) h]
      have : t.subs.set i.toNat s = t.subs := by
        have e : t.subs[i.toNat] = s := by rw [List.getElem?_eq_getElem hl] at h2; injection h2
        rw [← e]
        exact List.set_getElem_self hl
      rw [this, withSubs_same]
theorem ins_del (x : Tree) : ∀ (l : List Tree) (i : Nat), l[i]? = some x → insL i x (delL i l) = l
  | [], i, h => by simp at h
  | a :: l, 0, h => by
    simp at h
    subst h
    rfl
  | a :: l, i + 1, h => by
    rw [delL_succ, insL_succ, ins_del x l i (by simpa using h)]
/-- Moved to a gap beside itself. -/
theorem still_law {t x : Tree} {fr to : List Int} {at_ : Int} (hne : fr ≠ []) (hx : atT t fr = some x) (hq : fr.dropLast = to) (hat : at_ = lastP fr ∨ at_ = lastP fr + 1) :
    changeT (insT (landT fr.dropLast (lastP fr) to at_).2 x) (withoutT t fr) (landT fr.dropLast (lastP fr) to at_).1 = t := by
  obtain ⟨y, y1, y2, y3, y4⟩ := at_parent hne hx
  rw [lastP_eq hne] at y2 y3 y4
  have e : landT fr.dropLast (lastP fr) to at_ = (to, lastP fr) := by
    unfold landT
    rw [decide_eq_true hq]
    rcases hat with rfl | rfl
    · have h1 : within fr.dropLast to = true := by unfold within; rw [hq]; simp
      rw [decide_eq_false (by omega : ¬ lastP fr < lastP fr), h1, hq]
      simp
    · rw [decide_eq_true (by omega : lastP fr < lastP fr + 1)]
      simp
  rw [e, ← hq]
  unfold withoutT
  rw [change_change y1]
  refine change_self ?_ y1
  rw [insT_eq, delT_eq, withSubs_subs, withSubs_withSubs, ins_del x y.subs (lastP fr).toNat y4, withSubs_same]
end Bow
/- W44: the paths of all nodes. -/
namespace Bow
open Go Go.Proofs

def pathsV (l : List (List Int)) : V := .sl 1 (l.map pathV)
theorem okE_path (p : List Int) : okE 1 (pathV p) := ⟨rfl, rfl⟩
theorem wkE_paths : ∀ l : List (List Int), WkE 1 (l.map pathV) (l.map pathV)
  | [] => trivial
  | p :: l => ⟨⟨⟨.refl _, trivial⟩, okE_path p⟩, wkE_paths l⟩

set_option maxHeartbeats 1000000 in
set_option maxRecDepth 100000 in
theorem w_Paths (t : Tree) : t.weight ≤ 100000 → Pure Tryz.prog 10 [nodeV t] (fun x => x = pathsV (pathsT t)) := by
  induction t using Tree.ind with
  | _ t ih =>
  intro ht
  have hsl := subs_le_weight t
  have hsz := size_le_weight t
  have hpl := pathsT_len t
  refine pure_wk (pure_fn 300 Tryz.func10 rfl rfl rfl fun B => ?_)
  refine ⟨⟨rfl, trivial⟩, ?_⟩
  show Goes _ _ _ _
  refine goes_iter (ι := Nat × Nat × Nat × List V) (fun i => i.1 ≤ t.subs.length ∧ ∃ acc : List (List Int), i.2.2.2 = .nilsl :: acc.map pathV ∧ i.2.2.1 = acc.length + 1 ∧ acc ++ pathsTs i.1 (t.subs.drop i.1) = pathsTs 0 t.subs) (fun i => t.subs.length - i.1)
    (fun i => [(4, .int .i64 i.1), (3, .osl (.loc 1) i.2.1 0 i.2.2.1), (1, .ptr (.loc 0) 0)]) (fun i => [some (.box (nodeV t).cells), some (.vec i.2.1 1 i.2.2.2)]) (0, 0, 1, [.nilsl]) 300 (fun _ => rfl) (fun _ => rfl) ⟨⟨Nat.zero_le _, [], rfl, rfl, rfl⟩, ⟨⟨rfl, rfl⟩, ⟨rfl, rfl⟩, ⟨rfl, rfl⟩, trivial⟩, ⟨⟨rfl, rfl⟩, ⟨rfl, rfl⟩, trivial⟩⟩ ?_
  rintro ⟨i, g, n, xs⟩ ⟨k1, acc, rfl, rfl, k2⟩ next
  simp only at k1 k2
  refine ⟨fun hlt => go 300 ?_, fun hge => go 300 ?_⟩
  · have hi : i < t.subs.length := by simpa [subV_eq] using hlt
    have hx : t.subV[i]? = some (nodeV t.subs[i]) := by simp [subV_eq, hi]
    have hws := weight_sub (List.getElem_mem hi)
    have hsw := size_le_weight t.subs[i]
    have hd := pathsTs_drop (ss := t.subs) (i := 0) hi
    simp only [Nat.zero_add] at hd
    rw [hd] at k2
    have hlen := congrArg List.length k2
    simp only [List.length_append, List.length_map] at hlen
    have hpl' := pathsTs_len 0 t.subs
    have hts := pathsT_eq t
    have hpi := pathsT_len t.subs[i]
    have hle : (pathsTs 0 t.subs).length ≤ 100000 := by
      rw [hts] at hpl
      simp at hpl
      omega
    refine ⟨Int.natCast_nonneg i, _, hx, ?_⟩
    show CallThen _ _ _ _ _ _
    refine call_pure (ih _ (List.getElem_mem hi) (by omega)) rfl ?_
    rintro x rfl
    show Goes _ _ _ _
    refine goes_while (ι := Nat × Nat × Nat × List V) (κ := Nat × Nat × List V) (fun k => k.1 ≤ (pathsT t.subs[i]).length ∧ ∃ acc' : List (List Int), k.2.2.2 = .nilsl :: acc'.map pathV ∧ k.2.2.1 = acc'.length + 1 ∧ acc' ++ (((pathsT t.subs[i]).drop k.1).map (fun p => (i : Int) :: p) ++ pathsTs (i + 1) (t.subs.drop (i + 1))) = pathsTs 0 t.subs) (fun k => (pathsT t.subs[i]).length - k.1)
      (fun k => [(6, .int .i64 k.1), (5, pathsV (pathsT t.subs[i])), (4, .int .i64 i), (3, .osl (.loc 1) k.2.1 0 k.2.2.1), (1, .ptr (.loc 0) 0)]) (fun k => [some (.box (nodeV t).cells), some (.vec k.2.1 1 k.2.2.2)]) (0, g, acc.length + 1, .nilsl :: acc.map pathV)
      (fun k => ∃ acc' : List (List Int), k.2.2 = .nilsl :: acc'.map pathV ∧ k.2.1 = acc'.length + 1 ∧ acc' ++ pathsTs (i + 1) (t.subs.drop (i + 1)) = pathsTs 0 t.subs)
      (fun k => [(4, .int .i64 i), (3, .osl (.loc 1) k.1 0 k.2.1), (1, .ptr (.loc 0) 0)]) (fun k => [some (.box (nodeV t).cells), some (.vec k.1 1 k.2.2)]) 300 (fun _ => rfl) (fun _ => rfl) (fun _ => rfl) (fun _ => rfl)
      ⟨⟨Nat.zero_le _, acc, rfl, rfl, k2⟩, ⟨⟨rfl, rfl⟩, ⟨rfl, rfl⟩, ⟨rfl, rfl⟩, ⟨rfl, rfl⟩, ⟨rfl, rfl⟩, trivial⟩, ⟨⟨rfl, rfl⟩, ⟨rfl, rfl⟩, trivial⟩⟩ ?_ ?_
    · rintro ⟨g', n', xs'⟩ ⟨acc', rfl, rfl, q⟩
      refine ⟨by constructor <;> omega, ?_⟩
      show Goes _ _ _ _
      exact next (i + 1, g', _, _) _ _ ⟨⟨hi, acc', rfl, rfl, q⟩, by simp only; omega, ⟨⟨rfl, rfl⟩, ⟨rfl, rfl⟩, ⟨rfl, rfl⟩, trivial⟩, ⟨⟨rfl, rfl⟩, ⟨rfl, rfl⟩, trivial⟩⟩
    · rintro ⟨k, g', n', xs'⟩ ⟨j1, acc', rfl, rfl, j2⟩ next2 post
      simp only at j1 j2
      refine ⟨fun hlt => go 300 ?_, fun hge => go 300 ?_⟩
      · have hk : k < (pathsT t.subs[i]).length := by simpa using hlt
        have hy : ((pathsT t.subs[i]).map pathV)[k]? = some (pathV (pathsT t.subs[i])[k]) := by simp [hk]
        have hdp := paths_deep (List.getElem_mem hk)
        rw [List.drop_eq_getElem_cons hk] at j2
        have hlen2 := congrArg List.length j2
        simp only [List.length_append, List.length_map, List.length_cons] at hlen2
        refine ⟨⟨rfl, trivial⟩, ?_⟩
        refine ⟨Int.natCast_nonneg k, _, hy, ?_⟩
        refine ⟨rfl, rfl, room_of (by simp; omega) (by decide), ?_⟩
        refine ⟨rfl, by simp; omega, ⟨rfl, trivial⟩, rfl, rfl, rfl, by simp, room_of (by simp; omega) (by decide), ?_⟩
        refine ⟨by constructor <;> omega, ?_⟩
        show Goes _ _ _ _
        refine next2 (k + 1, bump g', _, _) _ _ ⟨⟨hk, acc' ++ [(i : Int) :: (pathsT t.subs[i])[k]], ?_, ?_, ?_⟩, ?_, ⟨⟨rfl, rfl⟩, ⟨rfl, rfl⟩, ⟨rfl, rfl⟩, ⟨rfl, rfl⟩, ⟨rfl, rfl⟩, trivial⟩, ⟨⟨rfl, rfl⟩, ⟨rfl, rfl⟩, trivial⟩⟩
        · simp [pathV, intV]
          rfl
        · simp
        · rw [List.map_cons] at j2
          rw [← j2]
          simp only [List.append_assoc, List.cons_append, List.nil_append]
        · simp only; omega
      · have hk : k = (pathsT t.subs[i]).length := by have : (pathsT t.subs[i]).length ≤ k := by simpa using hge
                                                      omega
        subst hk
        rw [List.drop_length] at j2
        exact post (g', _, _) _ _ _ rfl ⟨⟨acc', rfl, rfl, j2⟩, ⟨⟨rfl, rfl⟩, ⟨rfl, rfl⟩, ⟨rfl, rfl⟩, trivial⟩, ⟨⟨rfl, rfl⟩, ⟨rfl, rfl⟩, trivial⟩⟩
  · have hi : t.subs.length ≤ i := by simpa [subV_eq] using hge
    rw [List.drop_eq_nil_of_le hi, pathsTs, List.append_nil] at k2
    subst k2
    refine ⟨trivial, rfl, rfl, rfl, by simp, rfl, pathsV (pathsT t), ?_, rfl, rfl⟩
    rw [pathsT_eq]
    exact Wk.sl ⟨⟨⟨Wk.nil 1, trivial⟩, okE_path []⟩, wkE_paths _⟩
end Bow
/- SP34: the grove, and all pairs of operations of all kinds on it: both ways round end in the same tree; computed in plain Lean. -/
namespace Bow
open Go

def groveT : Tree := .mk 1 false [114] [] [] [
  .mk 2 false [97] [([107], [49])] [] [.mk 3 true [120] [] [104, 105] [], .mk 4 false [99] [] [] []],
  .mk 5 true [98] [] [98, 101, 101] [],
  .mk 6 false [100] [] [] [.mk 7 false [101] [] [] [.mk 8 false [102] [] [] []]]]
end Bow
/- W86: bowerkit's Grove and Many; bowerlaw12.closes. -/
namespace Bow
open Go Go.Proofs

theorem wkE_app {sz : Nat} : ∀ {xs ys us vs : List V}, WkE sz xs ys → WkE sz us vs → WkE sz (xs ++ us) (ys ++ vs)
  | [], [], _, _, _, h => h
  | _ :: _, _ :: _, _, _, h, k => ⟨h.1, wkE_app h.2 k⟩
  | [], _ :: _, _, _, h, _ => h.elim
  | _ :: _, [], _, _, h, _ => h.elim
theorem wkL_mk {b : Bool} {i : Int} {label text : List UInt8} {ats ks leaf : V} {al : List (List UInt8 × List UInt8)} {ss : List Tree} (hl : Wk leaf (.bool b)) (ha : Wk ats (.sl 2 (al.map attrV))) (hk : Wk ks (.sl 6 (ss.map nodeV))) :
    WkL [.int .u64 i, leaf, .str label, ats, .str text, ks] (nodeV (.mk i b label al text ss)).cells := by
  refine ⟨.refl _, hl, .refl _, ha, .refl _, ?_, trivial⟩
  rw [subV_eq]
  exact hk
theorem wk_grove : Wk (.agg [.int .u64 1, .ff, .str [114], .nilsl, .str [], .sl 6 [
    .agg [.int .u64 2, .ff, .str [97], .sl 2 [.agg [.str [107], .str [49]]], .str [], .sl 6 [.agg [.int .u64 3, .tt, .str [120], .nilsl, .str [104, 105], .nilsl], .agg [.int .u64 4, .ff, .str [99], .nilsl, .str [], .nilsl]]],
    .agg [.int .u64 5, .tt, .str [98], .nilsl, .str [98, 101, 101], .nilsl],
    .agg [.int .u64 6, .ff, .str [100], .nilsl, .str [], .sl 6 [.agg [.int .u64 7, .ff, .str [101], .nilsl, .str [], .sl 6 [.agg [.int .u64 8, .ff, .str [102], .nilsl, .str [], .nilsl]]]]]]]) (nodeV groveT) := by
  refine Wk.agg (wkL_mk Wk.ff (Wk.nil 2) (Wk.sl ⟨⟨?_, okE_node _⟩, ⟨?_, okE_node _⟩, ⟨?_, okE_node _⟩, trivial⟩))
  · exact wkL_mk Wk.ff (.refl _) (Wk.sl ⟨⟨wkL_mk Wk.tt (Wk.nil 2) (Wk.nil 6), okE_node _⟩, ⟨wkL_mk Wk.ff (Wk.nil 2) (Wk.nil 6), okE_node _⟩, trivial⟩)
  · exact wkL_mk Wk.tt (Wk.nil 2) (Wk.nil 6)
  · exact wkL_mk Wk.ff (Wk.nil 2) (Wk.sl ⟨⟨wkL_mk Wk.ff (Wk.nil 2) (Wk.sl ⟨⟨wkL_mk Wk.ff (Wk.nil 2) (Wk.nil 6), okE_node _⟩, trivial⟩), okE_node _⟩, trivial⟩)

set_option maxRecDepth 100000 in
theorem w_Grove : Pure Tryz.prog 9 [] (fun x => x = nodeV groveT) := by
  refine pure_wk (pure_fn 60 Tryz.func9 rfl rfl rfl fun B => ?_)
  refine ⟨⟨rfl, trivial⟩, ⟨rfl, rfl, trivial⟩, ⟨rfl, trivial⟩, rfl, rfl, ⟨rfl, trivial⟩, rfl, rfl, rfl, rfl, rfl, rfl, ⟨rfl, rfl, rfl, trivial⟩, ?_⟩
  exact ⟨trivial, rfl, rfl, rfl, rfl, rfl, nodeV groveT, wk_grove, rfl, rfl⟩

theorem room_of2 {n m b : Nat} (h : n + m ≤ 1000000) (hb : b ≤ 10000) : room (n + m) b := Nat.le_trans (Nat.mul_le_mul h hb) (by decide)

end Bow
/- W74: the law SquareBehind, walked. -/
namespace Bow
open Go Go.Proofs

end Bow
/- W87: the law SquareKnown, walked. -/
namespace Bow
open Go Go.Proofs

theorem wk_rep (n : Nat) : Wk (.sl 1 (List.replicate n (.int .i64 0))) (pathV (List.replicate n 0)) := by
  unfold pathV
  rw [List.map_replicate]
  exact .refl _
end Bow
/- W45: the law's function TreeopsMoved. -/
namespace Bow
open Go Go.Proofs

theorem at_change {F : Tree → Tree} {y : Tree} : ∀ {p : List Int} {t : Tree}, atT t p = some y → atT (changeT F t p) p = some (F y)
  | [], t, h => by
    rw [atT] at h
    injection h with h
    subst h
    rw [changeT, atT]
  | i :: p, t, h => by
    rw [atT] at h
    cases hs : subT t i with
    | none => rw [hs] at h; cases h
    | some s =>
      rw [hs] at h
      obtain ⟨h1, h2, _⟩ := subT_some hs
      have hl := lt_of_get h2
      rw [change_cons _ _ _ _ hs]
      have hs1 : subT (t.withSubs (t.subs.set i.toNat (changeT F s p))) i = some (changeT F s p) := by
        rw [subT_with _ _ _ h1, List.getElem?_set_self hl]
      rw [at_cons _ hs1]
      exact at_change (p := p) h
theorem insL_get {α : Type} (x : α) : ∀ (l : List α) (n : Nat), n ≤ l.length → (insL n x l)[n]? = some x
  | l, 0, _ => rfl
  | [], n + 1, h => by simp at h
  | a :: l, n + 1, h => by rw [insL_succ, List.getElem?_cons_succ]; exact insL_get x l n (by simpa using h)
def movQ (fr to : List Int) (at_ : Int) : OpT := { noOp 3 with path := fr, to := to, at_ := at_ }
set_option maxHeartbeats 4000000 in
set_option maxRecDepth 100000 in
theorem w_TreeopsMoved (t : Tree) (fr to : List Int) (at_ : Int) (_l1 : fr.length ≤ maxLen ∧ ∀ i ∈ fr, (Lit.int .i64 i).wf = true) (_l2 : to.length ≤ maxLen ∧ ∀ i ∈ to, (Lit.int .i64 i).wf = true) (_l3 : (Lit.int .i64 at_).wf = true) :
    Pure Tryz.prog 14 [nodeV t, pathV fr, pathV to, .int .i64 at_] (fun x => x = .bool true) := by
  refine pure_wk (pure_fn 300 Tryz.func14 rfl rfl rfl fun B => ?_)
  show CallThen _ _ _ _ _ _
  refine call_pure (w_Weight t 600 (by decide)) rfl ?_
  rintro x ⟨w, rfl, w1, w2, w3⟩
  refine ⟨fun g => go 300 ?_, fun g => go 300 ?_⟩
  · show CallThen _ _ _ _ _ _
    refine call_pure w_works08 rfl ?_
    rintro x rfl
    exact ⟨trivial, rfl, rfl, rfl, leaf_b rfl⟩
  have g : (w : Int) ≤ 600 := not_lt_of g
  have hw : t.weight ≤ 600 := by have := w3 (by omega); omega
  refine ⟨fun g => go 300 ?_, fun g => go 300 ?_⟩
  · show CallThen _ _ _ _ _ _
    refine call_pure w_works08 rfl ?_
    rintro x rfl
    exact ⟨trivial, rfl, rfl, rfl, leaf_b rfl⟩
  have hfl : fr.length ≤ 100 := by have := not_lt_of g; simp at this; omega
  refine ⟨fun g => go 300 ?_, fun g => go 300 ?_⟩
  · show CallThen _ _ _ _ _ _
    refine call_pure w_works08 rfl ?_
    rintro x rfl
    exact ⟨trivial, rfl, rfl, rfl, leaf_b rfl⟩
  have htl : to.length ≤ 100 := by have := not_lt_of g; simp at this; omega
  have ok : (movQ fr to at_).Ok := ⟨⟨by show fr.length ≤ _; omega, by show to.length ≤ _; omega, Nat.zero_le _, Nat.zero_le _, Nat.zero_le _, Nat.zero_le _⟩, Nat.zero_le _⟩
  show CallThen _ _ _ _ _ _
  refine call_pure (pure_args (args := [nodeV t, .agg [.int .u8 3, pathV fr, .int .i64 at_, pathV to, .int .u64 0, .ff, .str [], .str [], .str [], .ff, .nilsl]]) (w_Apply t (movQ fr to at_) (by omega) ok) ⟨.refl _, wk_op ⟨.refl _, .refl _, .refl _, .refl _, .refl _, Wk.ff, .refl _, .refl _, .refl _, Wk.ff, Wk.nil 3, trivial⟩, trivial⟩ rfl rfl) rfl ?_
  rintro x rfl
  by_cases hv : ValidE t (movQ fr to at_) = 0
  case neg =>
    have e : applyR t (movQ fr to at_) = (zeroT [], ValidE t (movQ fr to at_)) := by unfold applyR; rw [decide_eq_false hv]; rfl
    rw [e]
    refine ⟨fun _ => go 300 ?_, fun g => absurd (eq_of' g) hv⟩
    show CallThen _ _ _ _ _ _
    refine call_pure w_works08 rfl ?_
    rintro x rfl
    exact ⟨trivial, rfl, rfl, rfl, leaf_b rfl⟩
  have e : applyR t (movQ fr to at_) = (applyT t (movQ fr to at_), 0) := by unfold applyR; rw [decide_eq_true hv]; rfl
  have hmw := applyT_weight hv
  have hsum := adds_len.apply hv
  have hc : costO (movQ fr to at_) = 2 := rfl
  rw [hc] at hmw
  obtain ⟨x, z, hne, hx, hww, hz, h0, h1⟩ : ∃ x z, fr ≠ [] ∧ atT t fr = some x ∧ within fr to = false ∧ atT t to = some z ∧ 0 ≤ at_ ∧ at_ ≤ z.subs.length := by
    cases good_of hv with
    | mov x z hk hne hx hw hz hl h0 h1 => exact ⟨x, z, hne, hx, hw, hz, h0, h1⟩
    | ins y hk | del x hk | att y hk | lab y hk | edt y hk => exact absurd (show (3 : Int) = _ from hk) (by decide)
  have em : applyT t (movQ fr to at_) = moveT x t (movQ fr to at_) := by
    unfold applyT
    have hx' : atT t (movQ fr to at_).path = some x := hx
    rw [hx']
    rfl
  obtain ⟨z', k1, k2, k3, k4, k5⟩ := land_of hne hx hww hz h0 h1
  have hxw := atT_weight hx
  have hzw := atT_weight hz
  have hst : fr.dropLast = to → (at_ = lastP fr ∨ at_ = lastP fr + 1) → applyT t (movQ fr to at_) = t := fun q1 q2 => by rw [em]; exact still_law hne hx q1 q2
  have hat : atT (applyT t (movQ fr to at_)) (landT fr.dropLast (lastP fr) to at_).1 = some (insT (landT fr.dropLast (lastP fr) to at_).2 x z') := by rw [em]; exact at_change k1
  have hgone : (goneT t (movQ fr to at_)).length = 0 := rfl
  have hmore : (moreT (movQ fr to at_)).length = 0 := rfl
  have hsum : (idsT (applyT t (movQ fr to at_))).length = (idsT t).length := by omega
  rw [idsT_len, idsT_len] at hsum
  rw [e]
  obtain ⟨m, hm⟩ : ∃ m, applyT t (movQ fr to at_) = m := ⟨_, rfl⟩
  rw [hm] at hmw hst hat hsum ⊢
  obtain ⟨n', hn'⟩ : ∃ n', (landT fr.dropLast (lastP fr) to at_).2.toNat = n' := ⟨_, rfl⟩
  obtain ⟨is, his⟩ := List.mem_iff_getElem?.1 (at_paths hat)
  have hkid : (insT (landT fr.dropLast (lastP fr) to at_).2 x z').subs[n']? = some x := by
    rw [insT_eq, withSubs_subs, hn']
    exact insL_get x z'.subs n' (by omega)
  have hid : (insT (landT fr.dropLast (lastP fr) to at_).2 x z').id = z.id := (withSubs_id _ _).trans k5
  obtain ⟨zz, hzz⟩ : ∃ zz, insT (landT fr.dropLast (lastP fr) to at_).2 x z' = zz := ⟨_, rfl⟩
  rw [hzz] at hkid hid hat
  have hisl := lt_of_get his
  have hpl := pathsT_len m
  have hmsz := size_le_weight m
  have htsz := size_le_weight t
  have hkl := lt_of_get hkid
  clear k1 k2 k3 k4 k5 em hn' hzz hmore hgone hc e hww h0 h1
  refine ⟨fun g => absurd rfl (ne_of' g), fun _ => go 300 ?_⟩
  show CallThen _ _ _ _ _ _
  refine call_pure (w_At t fr (by omega)) rfl ?_
  rintro _ rfl
  rw [hx]
  show CallThen _ _ _ _ _ _
  refine call_pure (w_At t to (by omega)) rfl ?_
  rintro _ rfl
  rw [hz]
  show CallThen _ _ _ _ _ _
  refine call_pure (w_Paths m (by omega)) rfl ?_
  rintro _ rfl
  show Goes _ _ _ _
  refine goes_iter (ι := Nat × Nat) (fun i => i.1 ≤ (pathsT m).length ∧ i.2 ≤ i.1 * 3000 ∧ (is < i.1 → 1 ≤ i.2)) (fun i => (pathsT m).length - i.1) (fun i => [(18, .int .i64 i.1), (17, .int .i64 i.2), (16, pathsV (pathsT m)), (1, pathV fr), (2, pathV to), (3, .int .i64 at_), (4, .ptr (.loc 0) 0), (10, .ptr (.loc 2) 0), (12, .ptr (.loc 3) 0), (14, .ptr (.loc 4) 0)]) (fun _ => [some (.box (nodeV t).cells), some (.box [.int .u8 3, pathV fr, .int .i64 at_, pathV to, .int .u64 0, .ff, .str [], .str [], .str [], .ff, .nilsl]), some (.box (nodeV m).cells), some (.box (nodeV x).cells), some (.box (nodeV z).cells)]) (0, 0) 300 (fun _ => rfl) (fun _ => rfl) ⟨⟨Nat.zero_le _, Nat.zero_le _, fun h => absurd h (Nat.not_lt_zero _)⟩, ⟨⟨rfl, rfl⟩, ⟨rfl, rfl⟩, ⟨rfl, rfl⟩, ⟨rfl, rfl⟩, ⟨rfl, rfl⟩, ⟨rfl, rfl⟩, ⟨rfl, rfl⟩, ⟨rfl, rfl⟩, ⟨rfl, rfl⟩, ⟨rfl, rfl⟩, trivial⟩, ⟨⟨rfl, rfl⟩, ⟨rfl, rfl⟩, ⟨rfl, rfl⟩, ⟨rfl, rfl⟩, ⟨rfl, rfl⟩, trivial⟩⟩ ?_
  rintro ⟨i, f⟩ ⟨j1, j2, j3⟩ next
  simp only at j1 j2 j3
  refine ⟨fun hlt => go 300 ?_, fun hge => go 300 ?_⟩
  · have hi : i < (pathsT m).length := by simpa using hlt
    have hpx : ((pathsT m).map pathV)[i]? = some (pathV (pathsT m)[i]) := by simp [hi]
    have hpm := List.getElem_mem hi
    have hdp := paths_deep hpm
    obtain ⟨y, hy⟩ := paths_at hpm
    have hyw := atT_weight hy
    have hys := subs_le_weight y
    have hyy : i = is → y = zz := fun e => by
      subst e
      have : (pathsT m)[i] = (landT fr.dropLast (lastP fr) to at_).1 := by rw [List.getElem?_eq_getElem hi] at his; injection his
      rw [this, hat] at hy
      injection hy with hy
      exact hy.symm
    have hA := w_At m (pathsT m)[i] (by omega)
    rw [hy] at hA
    show Goes _ _ _ _
    refine goes_draw 300 ⟨Int.natCast_nonneg i, _, hpx, _, hA, rfl, ?_⟩
    refine ⟨by kernel_rfl, ?_⟩
    refine ⟨by kernel_rfl, ?_⟩
    refine ⟨fun g1 => go 300 ?_, fun g1 => go 300 ?_⟩
    · have g1 := ne_of' g1
      have hne' : i ≠ is := fun e => g1 (by rw [hyy e]; exact hid)
      refine ⟨by constructor <;> omega, ?_⟩
      show Goes _ _ _ _
      exact next (i + 1, f) _ _ ⟨⟨hi, by simp only; omega, fun h => j3 (by simp only at h; omega)⟩, by simp only; omega, ⟨⟨rfl, rfl⟩, ⟨rfl, rfl⟩, ⟨rfl, rfl⟩, ⟨rfl, rfl⟩, ⟨rfl, rfl⟩, ⟨rfl, rfl⟩, ⟨rfl, rfl⟩, ⟨rfl, rfl⟩, ⟨rfl, rfl⟩, ⟨rfl, rfl⟩, trivial⟩, ⟨⟨rfl, rfl⟩, ⟨rfl, rfl⟩, ⟨rfl, rfl⟩, ⟨rfl, rfl⟩, ⟨rfl, rfl⟩, trivial⟩⟩
    refine ⟨fun g2 => go 300 ?_, fun g2 => go 300 ?_⟩
    · have g2 : y.subs.length = 0 := by have := eq_of g2; rw [subV_len] at this; omega
      have hne' : i ≠ is := fun e => by rw [hyy e] at g2; omega
      refine ⟨by constructor <;> omega, ?_⟩
      show Goes _ _ _ _
      exact next (i + 1, f) _ _ ⟨⟨hi, by simp only; omega, fun h => j3 (by simp only at h; omega)⟩, by simp only; omega, ⟨⟨rfl, rfl⟩, ⟨rfl, rfl⟩, ⟨rfl, rfl⟩, ⟨rfl, rfl⟩, ⟨rfl, rfl⟩, ⟨rfl, rfl⟩, ⟨rfl, rfl⟩, ⟨rfl, rfl⟩, ⟨rfl, rfl⟩, ⟨rfl, rfl⟩, trivial⟩, ⟨⟨rfl, rfl⟩, ⟨rfl, rfl⟩, ⟨rfl, rfl⟩, ⟨rfl, rfl⟩, ⟨rfl, rfl⟩, trivial⟩⟩
    show Goes _ _ _ _
    refine goes_while (ι := Nat × Nat) (κ := Nat) (fun k => k.1 ≤ y.subs.length ∧ f ≤ k.2 ∧ k.2 ≤ f + k.1 ∧ (i = is → n' < k.1 → 1 ≤ k.2)) (fun k => y.subs.length - k.1)
      (fun k => [(21, .int .i64 k.1), (17, .int .i64 k.2), (18, .int .i64 i), (16, pathsV (pathsT m)), (1, pathV fr), (2, pathV to), (3, .int .i64 at_), (4, .ptr (.loc 0) 0), (10, .ptr (.loc 2) 0), (12, .ptr (.loc 3) 0), (14, .ptr (.loc 4) 0), (19, .ptr (.loc 5) 0)]) (fun _ => [some (.box (nodeV t).cells), some (.box [.int .u8 3, pathV fr, .int .i64 at_, pathV to, .int .u64 0, .ff, .str [], .str [], .str [], .ff, .nilsl]), some (.box (nodeV m).cells), some (.box (nodeV x).cells), some (.box (nodeV z).cells), some (.box (nodeV y).cells)]) (0, f)
      (fun k => f ≤ k ∧ k ≤ f + y.subs.length ∧ (i = is → 1 ≤ k)) (fun k => [(17, .int .i64 k), (18, .int .i64 i), (16, pathsV (pathsT m)), (1, pathV fr), (2, pathV to), (3, .int .i64 at_), (4, .ptr (.loc 0) 0), (10, .ptr (.loc 2) 0), (12, .ptr (.loc 3) 0), (14, .ptr (.loc 4) 0)]) (fun _ => [some (.box (nodeV t).cells), some (.box [.int .u8 3, pathV fr, .int .i64 at_, pathV to, .int .u64 0, .ff, .str [], .str [], .str [], .ff, .nilsl]), some (.box (nodeV m).cells), some (.box (nodeV x).cells), some (.box (nodeV z).cells)]) 300 (fun _ => rfl) (fun _ => rfl) (fun _ => rfl) (fun _ => rfl)
      ⟨⟨Nat.zero_le _, Nat.le_refl _, Nat.le_refl _, fun _ h => absurd h (Nat.not_lt_zero _)⟩, ⟨⟨rfl, rfl⟩, ⟨rfl, rfl⟩, ⟨rfl, rfl⟩, ⟨rfl, rfl⟩, ⟨rfl, rfl⟩, ⟨rfl, rfl⟩, ⟨rfl, rfl⟩, ⟨rfl, rfl⟩, ⟨rfl, rfl⟩, ⟨rfl, rfl⟩, ⟨rfl, rfl⟩, ⟨rfl, rfl⟩, trivial⟩, ⟨⟨rfl, rfl⟩, ⟨rfl, rfl⟩, ⟨rfl, rfl⟩, ⟨rfl, rfl⟩, ⟨rfl, rfl⟩, ⟨rfl, rfl⟩, trivial⟩⟩ ?_ ?_
    · rintro k ⟨q1, q2, q3⟩
      refine ⟨by constructor <;> omega, ?_⟩
      show Goes _ _ _ _
      refine next (i + 1, k) _ _ ⟨⟨hi, by simp only; omega, fun h => ?_⟩, by simp only; omega, ⟨⟨rfl, rfl⟩, ⟨rfl, rfl⟩, ⟨rfl, rfl⟩, ⟨rfl, rfl⟩, ⟨rfl, rfl⟩, ⟨rfl, rfl⟩, ⟨rfl, rfl⟩, ⟨rfl, rfl⟩, ⟨rfl, rfl⟩, ⟨rfl, rfl⟩, trivial⟩, ⟨⟨rfl, rfl⟩, ⟨rfl, rfl⟩, ⟨rfl, rfl⟩, ⟨rfl, rfl⟩, ⟨rfl, rfl⟩, trivial⟩⟩
      simp only at h ⊢
      by_cases e : i = is
      · exact q3 e
      · have := j3 (by omega)
        omega
    · rintro ⟨k, f'⟩ ⟨q1, q2, q3, q4⟩ next2 post
      simp only at q1 q2 q3 q4
      refine ⟨fun hlt => go 300 ?_, fun hge => go 300 ?_⟩
      · have hk : k < y.subs.length := by simpa [subV_eq] using hlt
        have hkx : y.subV[k]? = some (nodeV y.subs[k]) := by simp [subV_eq, hk]
        have hkw := weight_sub (List.getElem_mem hk)
        show Goes _ _ _ _
        refine goes_draw 300 ⟨Int.natCast_nonneg k, _, hkx, _, w_Same y.subs[k] x (by omega), rfl, ?_⟩
        refine ⟨by kernel_rfl, ?_⟩
        refine ⟨fun g3 => go 300 ?_, fun g3 => go 300 ?_⟩
        · refine ⟨by constructor <;> omega, by constructor <;> omega, ?_⟩
          show Goes _ _ _ _
          exact next2 (k + 1, f' + 1) _ _ ⟨⟨hk, by simp only; omega, by simp only; omega, fun _ _ => by simp only; omega⟩, by simp only; omega, ⟨⟨rfl, rfl⟩, ⟨rfl, rfl⟩, ⟨rfl, rfl⟩, ⟨rfl, rfl⟩, ⟨rfl, rfl⟩, ⟨rfl, rfl⟩, ⟨rfl, rfl⟩, ⟨rfl, rfl⟩, ⟨rfl, rfl⟩, ⟨rfl, rfl⟩, ⟨rfl, rfl⟩, ⟨rfl, rfl⟩, trivial⟩, ⟨⟨rfl, rfl⟩, ⟨rfl, rfl⟩, ⟨rfl, rfl⟩, ⟨rfl, rfl⟩, ⟨rfl, rfl⟩, ⟨rfl, rfl⟩, trivial⟩⟩
        · refine ⟨by constructor <;> omega, ?_⟩
          show Goes _ _ _ _
          refine next2 (k + 1, f') _ _ ⟨⟨hk, q2, by simp only; omega, fun e h => ?_⟩, by simp only; omega, ⟨⟨rfl, rfl⟩, ⟨rfl, rfl⟩, ⟨rfl, rfl⟩, ⟨rfl, rfl⟩, ⟨rfl, rfl⟩, ⟨rfl, rfl⟩, ⟨rfl, rfl⟩, ⟨rfl, rfl⟩, ⟨rfl, rfl⟩, ⟨rfl, rfl⟩, ⟨rfl, rfl⟩, ⟨rfl, rfl⟩, trivial⟩, ⟨⟨rfl, rfl⟩, ⟨rfl, rfl⟩, ⟨rfl, rfl⟩, ⟨rfl, rfl⟩, ⟨rfl, rfl⟩, ⟨rfl, rfl⟩, trivial⟩⟩
          simp only at h ⊢
          by_cases hkn : n' = k
          · exfalso
            have h5 : y.subs[k]? = some x := by rw [hyy e, ← hkn]; exact hkid
            have : y.subs[k] = x := by
              rw [List.getElem?_eq_getElem hk] at h5
              injection h5
            rw [this, sameT_refl] at g3
            cases g3
          · exact q4 e (by omega)
      · have hk : k = y.subs.length := by have : y.subs.length ≤ k := by simpa [subV_eq] using hge
                                          omega
        subst hk
        exact post f' _ _ _ rfl ⟨⟨q2, q3, fun e => q4 e (by rw [hyy e]; exact hkl)⟩, ⟨⟨rfl, rfl⟩, ⟨rfl, rfl⟩, ⟨rfl, rfl⟩, ⟨rfl, rfl⟩, ⟨rfl, rfl⟩, ⟨rfl, rfl⟩, ⟨rfl, rfl⟩, ⟨rfl, rfl⟩, ⟨rfl, rfl⟩, ⟨rfl, rfl⟩, trivial⟩, ⟨⟨rfl, rfl⟩, ⟨rfl, rfl⟩, ⟨rfl, rfl⟩, ⟨rfl, rfl⟩, ⟨rfl, rfl⟩, trivial⟩⟩
  · have hi : i = (pathsT m).length := by have : (pathsT m).length ≤ i := by simpa using hge
                                          omega
    subst hi
    have hf : 1 ≤ f := j3 hisl
    have hfl0 : 0 < fr.length := List.length_pos_iff.2 hne
    refine ⟨by constructor <;> simp <;> omega, by decide, by simp; omega, by simp; omega, ?_⟩
    have e : (List.take ((((fr.map intV).length : Int) - 1).toNat - Int.toNat 0) (List.drop (Int.toNat 0) (fr.map intV))) = fr.dropLast.map intV := by
      rw [List.dropLast_eq_take, List.map_take]
      simp
    show CallThen _ _ _ _ _ _
    rw [e]
    refine call_pure (w_refSame fr.dropLast to (by simp; omega)) rfl ?_
    rintro r rfl
    have hg : (fr.map intV)[((fr.dropLast.map intV).length : Int).toNat]? = some (intV (lastP fr)) := by
      have e1 : ((fr.dropLast.map intV).length : Int).toNat = fr.length - 1 := by simp
      rw [e1, List.getElem?_map, ← List.getLast?_eq_getElem?, List.getLast?_eq_some_getLast hne, lastP_eq hne]
      rfl
    have hcm : Pure Tryz.prog 58 [nodeV m] (fun x => x = .int .i64 (m.pre 0).length) := w_Count m (by omega)
    have hct : Pure Tryz.prog 58 [nodeV t] (fun x => x = .int .i64 (t.pre 0).length) := w_Count t (by omega)
    rw [pre_length, hsum] at hcm
    rw [pre_length] at hct
    have hsm := w_Same m t (by omega)
    refine ⟨fun g1 => go 300 ?_, fun g1 => go 300 ?_⟩
    · have g1 : fr.dropLast = to := of_decide_eq_true g1
      refine ⟨Int.natCast_nonneg _, _, hg, ?_⟩
      refine ⟨fun g2 => go 300 ?_, fun g2 => go 300 ?_⟩
      · have g2 : at_ = lastP fr := eq_of g2
        have hs := hst g1 (.inl g2)
        show Goes _ _ _ _
        refine goes_draw 300 ⟨fun r1 => ⟨_, hcm, rfl, _, hct, rfl, ⟨fun r2 => ⟨_, hsm, rfl, ⟨fun r3 => ⟨_, w_works08, rfl, ?_⟩, fun r3 => ?_⟩⟩, fun r2 => ?_⟩⟩, fun r1 => ?_⟩
        · exact ⟨by kernel_rfl, trivial, rfl, rfl, rfl, leaf_b rfl⟩
        · exact absurd r3 (by rw [hs, sameT_refl]; simp)
        · exact absurd rfl (ne_of r2)
        · exact absurd (not_le_of r1) (by omega)
      · have g2 : at_ ≠ lastP fr := ne_of g2
        have hlb := may_step (formed_path (valid_right hv).2.1) (lastP fr) (by rw [← lastP_eq hne]; exact List.getLast_mem hne)
        refine ⟨Int.natCast_nonneg _, _, hg, by constructor <;> omega, ?_⟩
        show Goes _ _ _ _
        refine goes_draw 300 ⟨fun r1 => ⟨_, hcm, rfl, _, hct, rfl, ⟨fun r2 => ⟨fun r3 => ⟨_, w_works08, rfl, ?_⟩, fun r3 => ⟨_, hsm, rfl, ⟨fun r4 => ⟨_, w_works08, rfl, ?_⟩, fun r4 => ?_⟩⟩⟩, fun r2 => ?_⟩⟩, fun r1 => ?_⟩
        · exact ⟨by kernel_rfl, trivial, rfl, rfl, rfl, leaf_b rfl⟩
        · exact ⟨by kernel_rfl, trivial, rfl, rfl, rfl, leaf_b rfl⟩
        · exact absurd r4 (by rw [hst g1 (.inr (eq_of' r3)), sameT_refl]; simp)
        · exact absurd rfl (ne_of r2)
        · exact absurd (not_le_of r1) (by omega)
    · show Goes _ _ _ _
      refine goes_draw 300 ⟨fun r1 => ⟨_, hcm, rfl, _, hct, rfl, ⟨fun r2 => ⟨_, w_works08, rfl, ?_⟩, fun r2 => ?_⟩⟩, fun r1 => ?_⟩
      · exact ⟨by kernel_rfl, trivial, rfl, rfl, rfl, leaf_b rfl⟩
      · exact absurd rfl (ne_of r2)
      · exact absurd (not_le_of r1) (by omega)
end Bow
/- W94: bowerkit's Paths, with a row of its own; the law TreeopsKnown, walked. -/
namespace Bow
open Go Go.Proofs

set_option maxHeartbeats 4000000 in
set_option maxRecDepth 100000 in
theorem w_PathsF (t : Tree) (ht : t.weight ≤ 100000) : Fun Tryz.prog 10 [] [nodeV t] (fun x T' => ∃ g xs, x = .osl (.loc 1) g 0 xs.length ∧ T' = [some (.box (nodeV t).cells), some (.vec g 1 xs)] ∧ WkE 1 xs ((pathsT t).map pathV)) := by
  have hsl := subs_le_weight t
  have hsz := size_le_weight t
  have hpl := pathsT_len t
  refine fun_fn 300 Tryz.func10 rfl rfl rfl fun imps B hi => ?_
  have : imps = [] := List.length_eq_zero_iff.1 hi
  subst this
  refine ⟨⟨rfl, trivial⟩, ?_⟩
  show Goes _ _ _ _
  refine goes_iter (ι := Nat × Nat × Nat × List V) (fun i => i.1 ≤ t.subs.length ∧ ∃ acc : List (List Int), i.2.2.2 = .nilsl :: acc.map pathV ∧ i.2.2.1 = acc.length + 1 ∧ acc ++ pathsTs i.1 (t.subs.drop i.1) = pathsTs 0 t.subs) (fun i => t.subs.length - i.1)
    (fun i => [(4, .int .i64 i.1), (3, .osl (.loc 1) i.2.1 0 i.2.2.1), (1, .ptr (.loc 0) 0)]) (fun i => [some (.box (nodeV t).cells), some (.vec i.2.1 1 i.2.2.2)]) (0, 0, 1, [.nilsl]) 300 (fun _ => rfl) (fun _ => rfl) ⟨⟨Nat.zero_le _, [], rfl, rfl, rfl⟩, ⟨⟨rfl, rfl⟩, ⟨rfl, rfl⟩, ⟨rfl, rfl⟩, trivial⟩, ⟨⟨rfl, rfl⟩, ⟨rfl, rfl⟩, trivial⟩⟩ ?_
  rintro ⟨i, g, n, xs⟩ ⟨k1, acc, rfl, rfl, k2⟩ next
  simp only at k1 k2
  refine ⟨fun hlt => go 300 ?_, fun hge => go 300 ?_⟩
  · have hi : i < t.subs.length := by simpa [subV_eq] using hlt
    have hx : t.subV[i]? = some (nodeV t.subs[i]) := by simp [subV_eq, hi]
    have hws := weight_sub (List.getElem_mem hi)
    have hsw := size_le_weight t.subs[i]
    have hd := pathsTs_drop (ss := t.subs) (i := 0) hi
    simp only [Nat.zero_add] at hd
    rw [hd] at k2
    have hlen := congrArg List.length k2
    simp only [List.length_append, List.length_map] at hlen
    have hpl' := pathsTs_len 0 t.subs
    have hts := pathsT_eq t
    have hpi := pathsT_len t.subs[i]
    have hle : (pathsTs 0 t.subs).length ≤ 100000 := by
      rw [hts] at hpl
      simp at hpl
      omega
    refine ⟨Int.natCast_nonneg i, _, hx, ?_⟩
    show CallThen _ _ _ _ _ _
    refine call_pure (w_Paths _ (by omega)) rfl ?_
    rintro x rfl
    show Goes _ _ _ _
    refine goes_while (ι := Nat × Nat × Nat × List V) (κ := Nat × Nat × List V) (fun k => k.1 ≤ (pathsT t.subs[i]).length ∧ ∃ acc' : List (List Int), k.2.2.2 = .nilsl :: acc'.map pathV ∧ k.2.2.1 = acc'.length + 1 ∧ acc' ++ (((pathsT t.subs[i]).drop k.1).map (fun p => (i : Int) :: p) ++ pathsTs (i + 1) (t.subs.drop (i + 1))) = pathsTs 0 t.subs) (fun k => (pathsT t.subs[i]).length - k.1)
      (fun k => [(6, .int .i64 k.1), (5, pathsV (pathsT t.subs[i])), (4, .int .i64 i), (3, .osl (.loc 1) k.2.1 0 k.2.2.1), (1, .ptr (.loc 0) 0)]) (fun k => [some (.box (nodeV t).cells), some (.vec k.2.1 1 k.2.2.2)]) (0, g, acc.length + 1, .nilsl :: acc.map pathV)
      (fun k => ∃ acc' : List (List Int), k.2.2 = .nilsl :: acc'.map pathV ∧ k.2.1 = acc'.length + 1 ∧ acc' ++ pathsTs (i + 1) (t.subs.drop (i + 1)) = pathsTs 0 t.subs)
      (fun k => [(4, .int .i64 i), (3, .osl (.loc 1) k.1 0 k.2.1), (1, .ptr (.loc 0) 0)]) (fun k => [some (.box (nodeV t).cells), some (.vec k.1 1 k.2.2)]) 300 (fun _ => rfl) (fun _ => rfl) (fun _ => rfl) (fun _ => rfl)
      ⟨⟨Nat.zero_le _, acc, rfl, rfl, k2⟩, ⟨⟨rfl, rfl⟩, ⟨rfl, rfl⟩, ⟨rfl, rfl⟩, ⟨rfl, rfl⟩, ⟨rfl, rfl⟩, trivial⟩, ⟨⟨rfl, rfl⟩, ⟨rfl, rfl⟩, trivial⟩⟩ ?_ ?_
    · rintro ⟨g', n', xs'⟩ ⟨acc', rfl, rfl, q⟩
      refine ⟨by constructor <;> omega, ?_⟩
      show Goes _ _ _ _
      exact next (i + 1, g', _, _) _ _ ⟨⟨hi, acc', rfl, rfl, q⟩, by simp only; omega, ⟨⟨rfl, rfl⟩, ⟨rfl, rfl⟩, ⟨rfl, rfl⟩, trivial⟩, ⟨⟨rfl, rfl⟩, ⟨rfl, rfl⟩, trivial⟩⟩
    · rintro ⟨k, g', n', xs'⟩ ⟨j1, acc', rfl, rfl, j2⟩ next2 post
      simp only at j1 j2
      refine ⟨fun hlt => go 300 ?_, fun hge => go 300 ?_⟩
      · have hk : k < (pathsT t.subs[i]).length := by simpa using hlt
        have hy : ((pathsT t.subs[i]).map pathV)[k]? = some (pathV (pathsT t.subs[i])[k]) := by simp [hk]
        have hdp := paths_deep (List.getElem_mem hk)
        rw [List.drop_eq_getElem_cons hk] at j2
        have hlen2 := congrArg List.length j2
        simp only [List.length_append, List.length_map, List.length_cons] at hlen2
        refine ⟨⟨rfl, trivial⟩, ?_⟩
        refine ⟨Int.natCast_nonneg k, _, hy, ?_⟩
        refine ⟨rfl, rfl, room_of (by simp; omega) (by decide), ?_⟩
        refine ⟨rfl, by simp; omega, ⟨rfl, trivial⟩, rfl, rfl, rfl, by simp, room_of (by simp; omega) (by decide), ?_⟩
        refine ⟨by constructor <;> omega, ?_⟩
        show Goes _ _ _ _
        refine next2 (k + 1, bump g', _, _) _ _ ⟨⟨hk, acc' ++ [(i : Int) :: (pathsT t.subs[i])[k]], ?_, ?_, ?_⟩, ?_, ⟨⟨rfl, rfl⟩, ⟨rfl, rfl⟩, ⟨rfl, rfl⟩, ⟨rfl, rfl⟩, ⟨rfl, rfl⟩, trivial⟩, ⟨⟨rfl, rfl⟩, ⟨rfl, rfl⟩, trivial⟩⟩
        · simp [pathV, intV]
          rfl
        · simp
        · rw [List.map_cons] at j2
          rw [← j2]
          simp only [List.append_assoc, List.cons_append, List.nil_append]
        · simp only; omega
      · have hk : k = (pathsT t.subs[i]).length := by have : (pathsT t.subs[i]).length ≤ k := by simpa using hge
                                                      omega
        subst hk
        rw [List.drop_length] at j2
        exact post (g', _, _) _ _ _ rfl ⟨⟨acc', rfl, rfl, j2⟩, ⟨⟨rfl, rfl⟩, ⟨rfl, rfl⟩, ⟨rfl, rfl⟩, trivial⟩, ⟨⟨rfl, rfl⟩, ⟨rfl, rfl⟩, trivial⟩⟩
  · have hi : t.subs.length ≤ i := by simpa [subV_eq] using hge
    rw [List.drop_eq_nil_of_le hi, pathsTs, List.append_nil] at k2
    subst k2
    refine ⟨trivial, rfl, rfl, g, .nilsl :: (pathsTs 0 t.subs).map pathV, congrArg (V.osl (.loc 1) g 0) (by simp), rfl, ?_⟩
    rw [pathsT_eq]
    exact ⟨⟨⟨Wk.nil 1, trivial⟩, okE_path []⟩, wkE_paths _⟩

def knownP : List (List Int) := pathsT groveT ++ [[3], [0, 5], [-1], List.replicate 65 0]
theorem known_len : knownP.length = 12 := by decide +kernel
theorem known_ok : ∀ p ∈ knownP, p.length ≤ maxLen ∧ ∀ i ∈ p, (Lit.int .i64 i).wf = true := by
  have h : (knownP.all fun p => decide (p.length ≤ maxLen) && p.all fun i => (Lit.int .i64 i).wf) = true := by decide +kernel
  intro p hp
  have := List.all_eq_true.1 h p hp
  simp only [Bool.and_eq_true, decide_eq_true_eq, List.all_eq_true] at this
  exact this

def knO (k : Nat) (p : List Int) (at_ : Int) : OpT := ⟨k, p, at_, [], 8, decide (at_.tmod 2 = 0), [110], [107], [118], decide (at_ = 2), [⟨at_, 0, [33]⟩]⟩

def lgO (k : Nat) (l key value : List UInt8) : OpT := ⟨k, [0, 0], 0, [2], 0, false, l, key, value, false, []⟩
def lgV (k : Nat) (l key value : List UInt8) : V := .agg [.int .u8 k, .sl 1 [.int .i64 0, .int .i64 0], .int .i64 0, .sl 1 [.int .i64 2], .int .u64 0, .ff, .str l, .str key, .str value, .ff, .nilsl]
theorem wk_lg (k : Nat) (l key value : List UInt8) : Wk (lgV k l key value) (opV (lgO k l key value)) := Wk.agg ⟨.refl _, .refl _, .refl _, .refl _, .refl _, Wk.ff, .refl _, .refl _, .refl _, Wk.ff, Wk.nil 3, trivial⟩
def lgN : List V := [.int .i64 64, .int .i64 65, .int .i64 256, .int .i64 257]
theorem lg_at : ∀ i, i < 4 → ∃ n : Int, 0 ≤ n ∧ n ≤ 300 ∧ lgN[i]? = some (.int .i64 n)
  | 0, _ => ⟨64, by decide, by decide, rfl⟩
  | 1, _ => ⟨65, by decide, by decide, rfl⟩
  | 2, _ => ⟨256, by decide, by decide, rfl⟩
  | 3, _ => ⟨257, by decide, by decide, rfl⟩
  | _ + 4, h => absurd h (by omega)
def noV (k at_ : Int) : V := .agg [.int .u8 k, .nilsl, .int .i64 at_, .nilsl, .int .u64 0, .ff, .str [], .str [], .str [], .ff, .nilsl]
theorem wk_no (k at_ : Int) : Wk (noV k at_) (opV { noOp k with at_ := at_ }) := Wk.agg ⟨.refl _, Wk.nil 1, .refl _, Wk.nil 1, .refl _, Wk.ff, .refl _, .refl _, .refl _, Wk.ff, Wk.nil 3, trivial⟩
def leafV : V := .agg [.int .u64 0, .tt, .str [], .nilsl, .str [], .nilsl]
theorem wk_leaf : Wk leafV (nodeV (.mk 0 true [] [] [] [])) := Wk.agg ⟨.refl _, Wk.tt, .refl _, Wk.nil 2, .refl _, Wk.nil 6, trivial⟩

set_option maxHeartbeats 8000000 in
set_option maxRecDepth 100000 in
theorem w_TreeopsKnown : Pure Tryz.prog 3 [] (fun x => x = .bool true) := by
  have hw := w_works08
  have hok := known_ok
  have hln := known_len
  have hkp : knownP = pathsT groveT ++ [[3], [0, 5], [-1], List.replicate 65 0] := rfl
  generalize knownP = ps at hok hln hkp
  refine pure_wk (pure_fn 60 Tryz.func3 rfl rfl rfl fun B => ?_)
  show CallThen _ _ _ _ _ _
  refine call_pure w_Grove rfl ?_
  rintro x rfl
  show CallThen _ _ _ _ _ _
  refine call_sub [] (w_PathsF groveT (by decide)) rfl rfl trivial rfl rfl rfl ?_
  rintro x T1 ⟨g0, xs, rfl, rfl, hxs⟩
  refine ⟨rfl, ?_⟩
  have hxl : xs.length ≤ 12 := by
    have := hxs.len
    rw [List.length_map] at this
    have h2 := congrArg List.length hkp
    rw [List.length_append] at h2
    omega
  refine ⟨⟨rfl, trivial⟩, ⟨rfl, rfl, trivial⟩, ⟨rfl, trivial⟩, ?_⟩
  show Goes _ _ _ _
  refine goes_make 60 65 rfl rfl rfl rfl rfl rfl rfl rfl rfl (by decide) ?_
  refine ⟨rfl, rfl, rfl, rfl, rfl, rfl, rfl, List.length_replicate.symm, ⟨rfl, rfl, rfl, rfl, trivial⟩, ?_⟩
  refine ⟨rfl, rfl, rfl, rfl, room_of2 (by simp; omega) (by decide), ?_⟩
  show Goes _ _ _ _
  refine goes_fzSlot 2 2 rfl rfl ?_ ?_
  · simp
  refine goes_wkSlot 2 (v' := pathsV ps) rfl rfl rfl ?_ ?_
  · rw [hkp]
    unfold pathsV
    rw [List.map_append]
    exact Wk.sl (wkE_app hxs ⟨⟨⟨.refl _, trivial⟩, rfl, rfl⟩, ⟨⟨.refl _, trivial⟩, rfl, rfl⟩, ⟨⟨.refl _, trivial⟩, rfl, rfl⟩, ⟨⟨wk_rep 65, trivial⟩, rfl, rfl⟩, trivial⟩)
  refine go 60 ?_
  clear hxs hkp
  have hat : ∀ n < 7, (Lit.int .i64 (((n : Nat) : Int) - 1)).wf = true := by decide
  show Goes _ _ _ _
  refine goes_iter (ι := Nat) (fun i => i ≤ 12) (fun i => 12 - i) (fun i => [(3, .int .i64 i), (2, pathsV ps), (1, .ptr (.loc 0) 0)]) (fun _ => [some (.box (nodeV groveT).cells)]) 0 60 (fun _ => rfl) (fun _ => rfl) ⟨Nat.zero_le _, ⟨⟨rfl, rfl⟩, ⟨rfl, rfl⟩, ⟨rfl, rfl⟩, trivial⟩, ⟨⟨rfl, rfl⟩, trivial⟩⟩ ?_
  rintro i k1 next
  refine ⟨fun hlt => go 60 ?_, fun hge => go 60 ?_⟩
  · have hi : i < ps.length := by simpa using hlt
    have hx : (ps.map pathV)[i]? = some (pathV ps[i]) := by simp [hi]
    have hi' := hok _ (List.getElem_mem hi)
    generalize ps[i] = pi at hx hi'
    show Goes _ _ _ _
    refine goes_iter (ι := Nat) (fun k => k ≤ 12) (fun k => 12 - k) (fun k => [(4, .int .i64 k), (3, .int .i64 i), (2, pathsV ps), (1, .ptr (.loc 0) 0)]) (fun _ => [some (.box (nodeV groveT).cells)]) 0 60 (fun _ => rfl) (fun _ => rfl) ⟨Nat.zero_le _, ⟨⟨rfl, rfl⟩, ⟨rfl, rfl⟩, ⟨rfl, rfl⟩, ⟨rfl, rfl⟩, trivial⟩, ⟨⟨rfl, rfl⟩, trivial⟩⟩ ?_
    rintro k k2 next1
    refine ⟨fun hlt => go 60 ?_, fun hge => go 60 ?_⟩
    · have hk : k < ps.length := by simpa using hlt
      have hy : (ps.map pathV)[k]? = some (pathV ps[k]) := by simp [hk]
      have hk' := hok _ (List.getElem_mem hk)
      generalize ps[k] = pk at hy hk'
      show Goes _ _ _ _
      refine goes_iter (ι := Nat) (fun n => n ≤ 6) (fun n => 6 - n) (fun n => [(5, .int .i64 ((n : Int) - 1)), (4, .int .i64 k), (3, .int .i64 i), (2, pathsV ps), (1, .ptr (.loc 0) 0)]) (fun _ => [some (.box (nodeV groveT).cells)]) 0 60 (fun _ => rfl) (fun _ => rfl) ⟨Nat.zero_le _, ⟨⟨rfl, rfl⟩, ⟨rfl, rfl⟩, ⟨rfl, rfl⟩, ⟨rfl, rfl⟩, ⟨rfl, rfl⟩, trivial⟩, ⟨⟨rfl, rfl⟩, trivial⟩⟩ ?_
      rintro n k3 next2
      refine ⟨fun hlt => go 60 ?_, fun hge => go 60 ?_⟩
      · have hn : n < 6 := by have := of_decide_eq_true hlt; omega
        have hat := hat n (by omega)
        have c1 := w_TreeopsValid groveT { noOp 3 with path := pi, to := pk, at_ := (n : Int) - 1 }
        have c2 := w_TreeopsApply groveT { noOp 3 with path := pi, to := pk, at_ := (n : Int) - 1 }
        have c3 := w_TreeopsRight groveT { noOp 3 with path := pi, to := pk, at_ := (n : Int) - 1 }
        have c4 := w_TreeopsMoved groveT pi pk ((n : Int) - 1) hi' hk' hat
        show Goes _ _ _ _
        refine goes_draw 60 ?_
        refine ⟨Int.natCast_nonneg i, _, hx, Int.natCast_nonneg k, _, hy, ?_⟩
        refine ⟨by kernel_rfl, ?_⟩
        refine ⟨by kernel_rfl, ?_⟩
        have hW : Wk (.agg [.int .u8 3, pathV pi, .int .i64 ((n : Int) - 1), pathV pk, .int .u64 0, .ff, .str [], .str [], .str [], .ff, .nilsl]) (opV { noOp 3 with path := pi, to := pk, at_ := (n : Int) - 1 }) := Wk.agg ⟨.refl _, .refl _, .refl _, .refl _, .refl _, Wk.ff, .refl _, .refl _, .refl _, Wk.ff, Wk.nil 3, trivial⟩
        show Goes _ _ _ _
        refine goes_draw 60 ?_
        refine ⟨_, pure_args c1 ⟨.refl _, hW, trivial⟩ rfl rfl, rfl, ?_⟩
        have fin := next2 (n + 1)
        have e1 : ((n + 1 : Nat) : Int) - 1 = (n : Int) - 1 + 1 := by omega
        simp only [e1] at fin
        refine ⟨fun q => (by cases q), fun _ => ?_⟩
        refine ⟨fun _ => ?_, fun _ => ?_⟩
        · refine ⟨_, pure_args c2 ⟨.refl _, hW, trivial⟩ rfl rfl, rfl, ?_⟩
          refine ⟨fun q => (by cases q), fun _ => ?_⟩
          refine ⟨fun _ => ?_, fun _ => ?_⟩
          · refine ⟨_, pure_args c3 ⟨.refl _, hW, trivial⟩ rfl rfl, rfl, ?_⟩
            refine ⟨fun q => (by cases q), fun _ => ?_⟩
            refine ⟨Int.natCast_nonneg i, _, hx, Int.natCast_nonneg k, _, hy, _, c4, rfl, ?_⟩
            refine ⟨by kernel_rfl, ?_⟩
            refine ⟨fun q => (by cases q), fun _ => go 60 ?_⟩
            refine ⟨by constructor <;> omega, ?_⟩
            show Goes _ _ _ _
            exact fin _ _ ⟨by omega, by omega, ⟨⟨rfl, rfl⟩, ⟨rfl, rfl⟩, ⟨rfl, rfl⟩, ⟨rfl, rfl⟩, ⟨rfl, rfl⟩, trivial⟩, ⟨⟨rfl, rfl⟩, trivial⟩⟩
          · refine ⟨Int.natCast_nonneg i, _, hx, Int.natCast_nonneg k, _, hy, _, c4, rfl, ?_⟩
            refine ⟨by kernel_rfl, ?_⟩
            refine ⟨fun q => (by cases q), fun _ => go 60 ?_⟩
            refine ⟨by constructor <;> omega, ?_⟩
            show Goes _ _ _ _
            exact fin _ _ ⟨by omega, by omega, ⟨⟨rfl, rfl⟩, ⟨rfl, rfl⟩, ⟨rfl, rfl⟩, ⟨rfl, rfl⟩, ⟨rfl, rfl⟩, trivial⟩, ⟨⟨rfl, rfl⟩, trivial⟩⟩
        · refine ⟨fun _ => ?_, fun _ => ?_⟩
          · refine ⟨_, pure_args c3 ⟨.refl _, hW, trivial⟩ rfl rfl, rfl, ?_⟩
            refine ⟨fun q => (by cases q), fun _ => ?_⟩
            refine ⟨Int.natCast_nonneg i, _, hx, Int.natCast_nonneg k, _, hy, _, c4, rfl, ?_⟩
            refine ⟨by kernel_rfl, ?_⟩
            refine ⟨fun q => (by cases q), fun _ => go 60 ?_⟩
            refine ⟨by constructor <;> omega, ?_⟩
            show Goes _ _ _ _
            exact fin _ _ ⟨by omega, by omega, ⟨⟨rfl, rfl⟩, ⟨rfl, rfl⟩, ⟨rfl, rfl⟩, ⟨rfl, rfl⟩, ⟨rfl, rfl⟩, trivial⟩, ⟨⟨rfl, rfl⟩, trivial⟩⟩
          · refine ⟨Int.natCast_nonneg i, _, hx, Int.natCast_nonneg k, _, hy, _, c4, rfl, ?_⟩
            refine ⟨by kernel_rfl, ?_⟩
            refine ⟨fun q => (by cases q), fun _ => go 60 ?_⟩
            refine ⟨by constructor <;> omega, ?_⟩
            show Goes _ _ _ _
            exact fin _ _ ⟨by omega, by omega, ⟨⟨rfl, rfl⟩, ⟨rfl, rfl⟩, ⟨rfl, rfl⟩, ⟨rfl, rfl⟩, ⟨rfl, rfl⟩, trivial⟩, ⟨⟨rfl, rfl⟩, trivial⟩⟩
      · refine ⟨by constructor <;> omega, ?_⟩
        show Goes _ _ _ _
        exact next1 (k + 1) _ _ ⟨by omega, by omega, ⟨⟨rfl, rfl⟩, ⟨rfl, rfl⟩, ⟨rfl, rfl⟩, ⟨rfl, rfl⟩, trivial⟩, ⟨⟨rfl, rfl⟩, trivial⟩⟩
    · clear next1
      have hwr : ∀ k < 8, IntKind.u8.wrap (((k : Nat) : Int) + 1) = ((k + 1 : Nat) : Int) := by decide
      show Goes _ _ _ _
      refine goes_iter (ι := Nat) (fun k => k ≤ 8) (fun k => 8 - k) (fun k => [(7, .int .u8 k), (3, .int .i64 i), (2, pathsV ps), (1, .ptr (.loc 0) 0)]) (fun _ => [some (.box (nodeV groveT).cells)]) 0 60 (fun _ => rfl) (fun _ => rfl) ⟨Nat.zero_le _, ⟨⟨rfl, rfl⟩, ⟨rfl, rfl⟩, ⟨rfl, rfl⟩, ⟨rfl, rfl⟩, trivial⟩, ⟨⟨rfl, rfl⟩, trivial⟩⟩ ?_
      rintro k k2 next1
      refine ⟨fun hlt => go 60 ?_, fun hge => go 60 ?_⟩
      · have hk : k < 8 := by have := of_decide_eq_true hlt; omega
        show Goes _ _ _ _
        refine goes_iter (ι := Nat) (fun n => n ≤ 6) (fun n => 6 - n) (fun n => [(8, .int .i64 ((n : Int) - 1)), (7, .int .u8 k), (3, .int .i64 i), (2, pathsV ps), (1, .ptr (.loc 0) 0)]) (fun _ => [some (.box (nodeV groveT).cells)]) 0 60 (fun _ => rfl) (fun _ => rfl) ⟨Nat.zero_le _, ⟨⟨rfl, rfl⟩, ⟨rfl, rfl⟩, ⟨rfl, rfl⟩, ⟨rfl, rfl⟩, ⟨rfl, rfl⟩, trivial⟩, ⟨⟨rfl, rfl⟩, trivial⟩⟩ ?_
        rintro n k3 next2
        refine ⟨fun hlt => go 60 ?_, fun hge => go 60 ?_⟩
        · have hn : n < 6 := by have := of_decide_eq_true hlt; omega
          have c2 := w_TreeopsApply groveT (knO k pi ((n : Int) - 1))
          have c3 := w_TreeopsRight groveT (knO k pi ((n : Int) - 1))
          have c4 := w_TreeopsFormed (knO k pi ((n : Int) - 1))
          have c5 := w_TreeopsSame groveT (knO k pi ((n : Int) - 1)) { knO k pi ((n : Int) - 1) with value := [] }
          have c6 := w_TreeopsAll groveT [knO k pi ((n : Int) - 1), knO k pi ((n : Int) - 1), { noOp 2 with path := [0] }] (show 3 ≤ maxLen by decide)
          refine ⟨Int.natCast_nonneg i, _, hx, ?_⟩
          refine ⟨by decide, ⟨rfl, trivial⟩, ?_⟩
          show Goes _ _ _ _
          refine goes_freezeIn 1 [2] rfl rfl rfl ?_
          show Goes _ _ _ _
          refine goes_wkbox 2 (opV (knO k pi ((n : Int) - 1))).cells rfl rfl rfl ⟨.refl _, .refl _, .refl _, Wk.nil 1, .refl _, .refl _, .refl _, .refl _, .refl _, .refl _, .refl _, trivial⟩ ?_
          show Goes _ _ _ _
          refine goes_draw 60 ?_
          refine ⟨_, c2, rfl, ?_⟩
          refine ⟨fun q => (by cases q), fun _ => ?_⟩
          refine ⟨_, c3, rfl, ?_⟩
          refine ⟨fun q => (by cases q), fun _ => ?_⟩
          refine ⟨_, c4, rfl, ?_⟩
          refine ⟨fun q => (by cases q), fun _ => ?_⟩
          refine ⟨Int.natCast_nonneg i, _, hx, ?_⟩
          refine ⟨by decide, ?_⟩
          refine ⟨_, pure_args c5 ⟨.refl _, .refl _, Wk.agg ⟨.refl _, .refl _, .refl _, Wk.nil 1, .refl _, .refl _, .refl _, .refl _, .refl _, .refl _, .refl _, trivial⟩, trivial⟩ rfl rfl, rfl, ?_⟩
          refine ⟨fun q => (by cases q), fun _ => ?_⟩
          refine ⟨rfl, ⟨rfl, trivial⟩, rfl, ?_⟩
          refine ⟨rfl, rfl, rfl, ⟨rfl, rfl, rfl, trivial⟩, rfl, ?_⟩
          refine ⟨rfl, rfl, _, pure_args c6 ⟨.refl _, Wk.sl ⟨⟨WkL.refl _, rfl, rfl⟩, ⟨WkL.refl _, rfl, rfl⟩, ⟨⟨.refl _, .refl _, .refl _, Wk.nil 1, .refl _, Wk.ff, .refl _, .refl _, .refl _, Wk.ff, Wk.nil 3, trivial⟩, rfl, rfl⟩, trivial⟩, trivial⟩ rfl rfl, rfl, ?_⟩
          refine ⟨by kernel_rfl, ?_⟩
          refine ⟨fun q => (by cases q), fun _ => go 60 ?_⟩
          have fin := next2 (n + 1)
          have e1 : ((n + 1 : Nat) : Int) - 1 = (n : Int) - 1 + 1 := by omega
          simp only [e1] at fin
          refine ⟨by constructor <;> omega, ?_⟩
          show Goes _ _ _ _
          exact fin _ _ ⟨by omega, by omega, ⟨⟨rfl, rfl⟩, ⟨rfl, rfl⟩, ⟨rfl, rfl⟩, ⟨rfl, rfl⟩, ⟨rfl, rfl⟩, trivial⟩, ⟨⟨rfl, rfl⟩, trivial⟩⟩
        · show Goes _ _ _ _
          refine goes_addK 60 rfl rfl rfl rfl rfl ?_
          show Goes _ _ _ _
          refine next1 (k + 1) _ _ ?_
          refine ⟨by omega, by omega, ?_, ⟨⟨rfl, rfl⟩, trivial⟩⟩
          refine ⟨⟨?_, rfl⟩, ⟨rfl, rfl⟩, ⟨rfl, rfl⟩, ⟨rfl, rfl⟩, trivial⟩
          exact congrArg (V.int .u8) (hwr k hk)
      · refine ⟨by constructor <;> omega, ?_⟩
        show Goes _ _ _ _
        exact next (i + 1) _ _ ⟨by omega, by omega, ⟨⟨rfl, rfl⟩, ⟨rfl, rfl⟩, ⟨rfl, rfl⟩, trivial⟩, ⟨⟨rfl, rfl⟩, trivial⟩⟩
  · clear next
    show Goes _ _ _ _
    refine goes_make 60 300 rfl rfl rfl rfl rfl rfl rfl rfl rfl (by decide) ?_
    show Goes _ _ _ _
    refine goes_freeze 1 rfl rfl ?_
    refine goes_bytesStr 60 (List.replicate 300 0) rfl rfl rfl ?_ rfl rfl rfl ?_
    · show (bif Nat.beq 0 0 && Nat.beq 0 0 && Nat.beq 300 (List.replicate 300 (V.int .u8 0)).length then V.sl 1 (List.replicate 300 (V.int .u8 0)) else .undef) = _
      simp
    refine ⟨⟨rfl, rfl, rfl, rfl, trivial⟩, rfl, ?_⟩
    show Goes _ _ _ _
    refine goes_fzSlot 160 2 rfl rfl rfl ?_
    refine go 60 ?_
    have hwr : ∀ k, 1 ≤ k → k < 7 → IntKind.u8.wrap (((k : Nat) : Int) + 1) = ((k + 1 : Nat) : Int) := fun k h1 h2 => by
      have : ∀ k, k < 7 → IntKind.u8.wrap (((k : Nat) : Int) + 1) = ((k + 1 : Nat) : Int) := by decide
      exact this k h2
    have hls : (List.replicate 300 (0 : UInt8)).length = 300 := List.length_replicate
    generalize List.replicate 300 (0 : UInt8) = long at hls ⊢
    show Goes _ _ _ _
    refine goes_iter (ι := Nat) (fun i => i ≤ 4) (fun i => 4 - i) (fun i => [(162, .int .i64 i), (161, .int .i64 4), (160, .sl 1 lgN), (10, .str long), (1, .ptr (.loc 0) 0)]) (fun _ => [some (.box (nodeV groveT).cells)]) 0 60 (fun _ => rfl) (fun _ => rfl) ⟨Nat.zero_le _, ⟨⟨rfl, rfl⟩, ⟨rfl, rfl⟩, ⟨rfl, rfl⟩, ⟨rfl, rfl⟩, ⟨rfl, rfl⟩, trivial⟩, ⟨⟨rfl, rfl⟩, trivial⟩⟩ ?_
    rintro i k1 next
    refine ⟨fun hlt => go 60 ?_, fun hge => go 60 ?_⟩
    · have hi : i < 4 := by have := of_decide_eq_true hlt; omega
      obtain ⟨n, n0, n1, hx⟩ := lg_at i hi
      refine ⟨Int.natCast_nonneg i, _, hx, ?_⟩
      show Goes _ _ _ _
      refine goes_iter (ι := Nat) (fun k => 1 ≤ k ∧ k ≤ 7) (fun k => 7 - k) (fun k => [(13, .int .u8 k), (12, .int .i64 n), (162, .int .i64 i), (161, .int .i64 4), (160, .sl 1 lgN), (10, .str long), (1, .ptr (.loc 0) 0)]) (fun _ => [some (.box (nodeV groveT).cells)]) 1 60 (fun _ => rfl) (fun _ => rfl) ⟨⟨Nat.le_refl _, by decide⟩, ⟨⟨rfl, rfl⟩, ⟨rfl, rfl⟩, ⟨rfl, rfl⟩, ⟨rfl, rfl⟩, ⟨rfl, rfl⟩, ⟨rfl, rfl⟩, ⟨rfl, rfl⟩, trivial⟩, ⟨⟨rfl, rfl⟩, trivial⟩⟩ ?_
      rintro k k2 next1
      refine ⟨fun hlt => go 60 ?_, fun hge => go 60 ?_⟩
      · have hk : k < 7 := by have := of_decide_eq_true hlt; omega
        have c1 : ∀ l key value, Pure Tryz.prog 11 [nodeV groveT, lgV k l key value] (fun x => x = .bool true) := fun l key value => pure_args (w_TreeopsValid groveT (lgO k l key value)) ⟨.refl _, wk_lg k l key value, trivial⟩ rfl rfl
        have c2 : ∀ l key value, Pure Tryz.prog 15 [lgV k l key value] (fun x => x = .bool true) := fun l key value => pure_args (w_TreeopsFormed (lgO k l key value)) ⟨wk_lg k l key value, trivial⟩ rfl rfl
        show Goes _ _ _ _
        refine goes_iter (ι := Nat) (fun f => f ≤ 3) (fun f => 3 - f) (fun f => [(14, .int .i64 f), (13, .int .u8 k), (12, .int .i64 n), (162, .int .i64 i), (161, .int .i64 4), (160, .sl 1 lgN), (10, .str long), (1, .ptr (.loc 0) 0)]) (fun _ => [some (.box (nodeV groveT).cells)]) 0 60 (fun _ => rfl) (fun _ => rfl) ⟨Nat.zero_le _, ⟨⟨rfl, rfl⟩, ⟨rfl, rfl⟩, ⟨rfl, rfl⟩, ⟨rfl, rfl⟩, ⟨rfl, rfl⟩, ⟨rfl, rfl⟩, ⟨rfl, rfl⟩, ⟨rfl, rfl⟩, trivial⟩, ⟨⟨rfl, rfl⟩, trivial⟩⟩ ?_
        rintro f k3 next3
        refine ⟨fun hlt => go 60 ?_, fun hge => go 60 ?_⟩
        · have hf : f < 3 := by have := of_decide_eq_true hlt; omega
          refine ⟨⟨rfl, rfl, trivial⟩, ⟨rfl, trivial⟩, ?_⟩
          refine ⟨fun q => ?_, fun q => ?_⟩
          · refine goes_freezeIn 1 [3] rfl rfl rfl ?_
            show Goes _ _ _ _
            refine goes_freezeIn 2 [3] rfl rfl rfl ?_
            refine go 60 ?_
            refine ⟨by omega, by omega, by omega, ?_⟩
            show CallThen _ _ _ _ _ _
            refine call_pure (c1 _ _ _) rfl ?_
            rintro z rfl
            refine ⟨fun q => (by cases q), fun _ => go 60 ?_⟩
            show CallThen _ _ _ _ _ _
            refine call_pure (c2 _ _ _) rfl ?_
            rintro z rfl
            refine ⟨fun q => (by cases q), fun _ => go 60 ?_⟩
            refine ⟨by constructor <;> omega, ?_⟩
            show Goes _ _ _ _
            exact next3 (f + 1) _ _ ⟨by omega, by omega, ⟨⟨rfl, rfl⟩, ⟨rfl, rfl⟩, ⟨rfl, rfl⟩, ⟨rfl, rfl⟩, ⟨rfl, rfl⟩, ⟨rfl, rfl⟩, ⟨rfl, rfl⟩, ⟨rfl, rfl⟩, trivial⟩, ⟨⟨rfl, rfl⟩, trivial⟩⟩
          · refine goes_freezeIn 1 [3] rfl rfl rfl ?_
            show Goes _ _ _ _
            refine goes_freezeIn 2 [3] rfl rfl rfl ?_
            refine go 60 ?_
            refine ⟨fun q => go 60 ?_, fun q => go 60 ?_⟩
            · refine ⟨by omega, by omega, by omega, ?_⟩
              show CallThen _ _ _ _ _ _
              refine call_pure (c1 _ _ _) rfl ?_
              rintro z rfl
              refine ⟨fun q => (by cases q), fun _ => go 60 ?_⟩
              show CallThen _ _ _ _ _ _
              refine call_pure (c2 _ _ _) rfl ?_
              rintro z rfl
              refine ⟨fun q => (by cases q), fun _ => go 60 ?_⟩
              refine ⟨by constructor <;> omega, ?_⟩
              show Goes _ _ _ _
              exact next3 (f + 1) _ _ ⟨by omega, by omega, ⟨⟨rfl, rfl⟩, ⟨rfl, rfl⟩, ⟨rfl, rfl⟩, ⟨rfl, rfl⟩, ⟨rfl, rfl⟩, ⟨rfl, rfl⟩, ⟨rfl, rfl⟩, ⟨rfl, rfl⟩, trivial⟩, ⟨⟨rfl, rfl⟩, trivial⟩⟩
            · refine ⟨by omega, by omega, by omega, ?_⟩
              show CallThen _ _ _ _ _ _
              refine call_pure (c1 _ _ _) rfl ?_
              rintro z rfl
              refine ⟨fun q => (by cases q), fun _ => go 60 ?_⟩
              show CallThen _ _ _ _ _ _
              refine call_pure (c2 _ _ _) rfl ?_
              rintro z rfl
              refine ⟨fun q => (by cases q), fun _ => go 60 ?_⟩
              refine ⟨by constructor <;> omega, ?_⟩
              show Goes _ _ _ _
              exact next3 (f + 1) _ _ ⟨by omega, by omega, ⟨⟨rfl, rfl⟩, ⟨rfl, rfl⟩, ⟨rfl, rfl⟩, ⟨rfl, rfl⟩, ⟨rfl, rfl⟩, ⟨rfl, rfl⟩, ⟨rfl, rfl⟩, ⟨rfl, rfl⟩, trivial⟩, ⟨⟨rfl, rfl⟩, trivial⟩⟩
        · show Goes _ _ _ _
          refine goes_addK 60 rfl rfl rfl rfl rfl ?_
          show Goes _ _ _ _
          refine next1 (k + 1) _ _ ?_
          refine ⟨by omega, by omega, ?_, ⟨⟨rfl, rfl⟩, trivial⟩⟩
          refine ⟨⟨?_, rfl⟩, ⟨rfl, rfl⟩, ⟨rfl, rfl⟩, ⟨rfl, rfl⟩, ⟨rfl, rfl⟩, ⟨rfl, rfl⟩, ⟨rfl, rfl⟩, trivial⟩
          exact congrArg (V.int .u8) (hwr k k2.1 hk)
      · refine ⟨by constructor <;> omega, ?_⟩
        show Goes _ _ _ _
        exact next (i + 1) _ _ ⟨by omega, by omega, ⟨⟨rfl, rfl⟩, ⟨rfl, rfl⟩, ⟨rfl, rfl⟩, ⟨rfl, rfl⟩, ⟨rfl, rfl⟩, trivial⟩, ⟨⟨rfl, rfl⟩, trivial⟩⟩
    · clear next
      have d1 : Pure Tryz.prog 11 [leafV, noV 0 0] (fun x => x = .bool true) := pure_args (w_TreeopsValid (.mk 0 true [] [] [] []) { noOp 0 with at_ := 0 }) ⟨wk_leaf, wk_no 0 0, trivial⟩ rfl rfl
      have d2 : Pure Tryz.prog 17 [leafV, .nilsl] (fun x => x = .bool true) := pure_args (w_TreeopsAll (.mk 0 true [] [] [] []) [] (Nat.zero_le _)) ⟨wk_leaf, Wk.nil 11, trivial⟩ rfl rfl
      have d3 : Pure Tryz.prog 17 [nodeV groveT, .nilsl] (fun x => x = .bool true) := pure_args (w_TreeopsAll groveT [] (Nat.zero_le _)) ⟨.refl _, Wk.nil 11, trivial⟩ rfl rfl
      have d4 : Pure Tryz.prog 15 [noV 1 1048577] (fun x => x = .bool true) := pure_args (w_TreeopsFormed { noOp 1 with at_ := 1048577 }) ⟨wk_no 1 1048577, trivial⟩ rfl rfl
      have d5 : Pure Tryz.prog 15 [noV 1 1048576] (fun x => x = .bool true) := pure_args (w_TreeopsFormed { noOp 1 with at_ := 1048576 }) ⟨wk_no 1 1048576, trivial⟩ rfl rfl
      show CallThen _ _ _ _ _ _
      refine call_pure d1 rfl ?_
      rintro z rfl
      refine ⟨fun _ => go 60 ?_, fun q => (by cases q)⟩
      show CallThen _ _ _ _ _ _
      refine call_pure d2 rfl ?_
      rintro z rfl
      refine ⟨fun _ => go 60 ?_, fun q => (by cases q)⟩
      show CallThen _ _ _ _ _ _
      refine call_pure d3 rfl ?_
      rintro z rfl
      refine ⟨fun _ => go 60 ?_, fun q => (by cases q)⟩
      show CallThen _ _ _ _ _ _
      refine call_pure d4 rfl ?_
      rintro z rfl
      refine ⟨fun _ => go 60 ?_, fun q => (by cases q)⟩
      show CallThen _ _ _ _ _ _
      refine call_pure d5 rfl ?_
      rintro z rfl
      refine ⟨fun _ => go 60 ?_, fun q => (by cases q)⟩
      show CallThen _ _ _ _ _ _
      refine call_pure hw rfl ?_
      rintro z rfl
      exact ⟨trivial, rfl, rfl, rfl, leaf_b rfl⟩
end Bow
/- TD1: what is read as data at the program's types. -/
namespace Bow
open Go Go.Proofs

end Bow
/- TD2: operations that are read as data. -/
namespace Bow
open Go Go.Proofs

end Bow
