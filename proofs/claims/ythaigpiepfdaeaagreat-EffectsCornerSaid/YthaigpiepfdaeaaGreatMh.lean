/- The library, part 8: W70, W71, W72, AE47, W79, W28, W29, W30, W40, W41, W42, W43, SP18, W44, SP34, W86, W95, W96, SP38, W97, TD1, TD2. -/
import Derived.Test.YthaigpiepfdaeaaGreatMf
import Derived.Test.YthaigpiepfdaeaaGreatMg
import Derived.Test.YthaigpiepfdaeaaGreatMe
import Derived.Test.YthaigpiepfdaeaaGreatMd
import Derived.Test.YthaigpiepfdaeaaGreatRows
import Derived.ChangeShapes
/- W70: the document's answer of chapter 5: norm, Extent, view, behind, Transform. -/
namespace Bow
open Go Go.Proofs

set_option maxRecDepth 100000 in
theorem w_refRightW (l : List PieceT) (hl : l.length ≤ 1000000000000) (hpl : ∀ p ∈ l, p.put.length ≤ 1000000000000) : Pure Tryz.prog 116 [piecesV l] (fun x => x = .bool (rightP l)) := by
  refine pure_wk (pure_fn 100 Tryz.func116 rfl rfl rfl fun B => ?_)
  refine ⟨fun g0 => go 200 ?_, fun g0 => go 200 ?_⟩
  · have g0 : 4096 < l.length := by have := lt_of g0; simp at this; omega
    exact ⟨trivial, rfl, rfl, rfl, leaf_ff (by unfold rightP; rw [decide_eq_false (by omega)]; rfl)⟩
  have g0 : l.length ≤ 4096 := by have := not_lt_of g0; simp at this; omega
  show Goes _ _ _ _
  refine goes_iter (ι := Nat × Nat) (fun i => i.1 ≤ l.length ∧ i.2 ≤ 1048576 ∧ rightP l = rightGo i.2 (l.drop i.1)) (fun i => l.length - i.1) (fun i => [(4, .int .i64 i.1), (0, piecesV l), (3, .int .i64 i.2)]) (fun _ => []) (0, 0) 200 (fun _ => rfl) (fun _ => rfl) ⟨⟨Nat.zero_le _, Nat.zero_le _, ?_⟩, ?_, ?_⟩ ?_
  · unfold rightP
    rw [decide_eq_true g0]
    rfl
  · exact ⟨⟨rfl, rfl⟩, ⟨rfl, rfl⟩, ⟨rfl, rfl⟩, trivial⟩
  · trivial
  · rintro ⟨i, n⟩ ⟨h1, h3, h2⟩ next
    simp only at h1 h2 h3
    refine ⟨fun hlt => go 200 ?_, fun hge => go 200 ?_⟩
    · have hi : i < l.length := by simpa using hlt
      have hx : (l.map pieceV)[i]? = some (pieceV l[i]) := by simp [hi]
      have hput := hpl l[i] (List.getElem_mem hi)
      rw [drop_cons hi] at h2
      refine ⟨Int.natCast_nonneg i, _, hx, ?_⟩
      refine ⟨fun g1 => go 200 ?_, fun g1 => go 200 ?_⟩
      · have g1 := lt_of g1
        exact ⟨trivial, rfl, rfl, rfl, leaf_ff (by rw [h2]; exact rightGo_bad (by omega))⟩
      have g1 := not_lt_of g1
      refine ⟨Int.natCast_nonneg i, _, hx, ?_⟩
      refine ⟨fun g2 => go 200 ?_, fun g2 => go 200 ?_⟩
      · have g2 := lt_of g2
        exact ⟨trivial, rfl, rfl, rfl, leaf_ff (by rw [h2]; exact rightGo_bad (by omega))⟩
      have g2 := not_lt_of g2
      refine ⟨Int.natCast_nonneg i, _, hx, ?_⟩
      refine ⟨fun g3 => go 200 ?_, fun g3 => go 200 ?_⟩
      · have g3 := lt_of g3
        exact ⟨trivial, rfl, rfl, rfl, leaf_ff (by rw [h2]; exact rightGo_bad (by omega))⟩
      have g3 := not_lt_of g3
      refine ⟨Int.natCast_nonneg i, _, hx, ?_⟩
      refine ⟨fun g4 => go 200 ?_, fun g4 => go 200 ?_⟩
      · have g4 := lt_of g4
        exact ⟨trivial, rfl, rfl, rfl, leaf_ff (by rw [h2]; exact rightGo_bad (by omega))⟩
      have g4 := not_lt_of g4
      refine ⟨Int.natCast_nonneg i, _, hx, ?_⟩
      refine ⟨by constructor <;> omega, ?_⟩
      refine ⟨fun g5 => go 200 ?_, fun g5 => go 200 ?_⟩
      · have g5 := lt_of g5
        exact ⟨trivial, rfl, rfl, rfl, leaf_ff (by rw [h2]; exact rightGo_bad (by omega))⟩
      have g5 := not_lt_of g5
      refine ⟨Int.natCast_nonneg i, _, hx, ?_⟩
      refine ⟨by constructor <;> omega, ?_⟩
      refine ⟨by constructor <;> omega, ?_⟩
      show Goes _ _ _ _
      refine next (i + 1, n + (l[i]).put.length) _ _ ⟨⟨hi, by simp only; omega, ?_⟩, ?_, ⟨⟨rfl, rfl⟩, ⟨rfl, rfl⟩, ⟨rfl, rfl⟩, trivial⟩, trivial⟩
      · rw [h2]
        exact rightGo_good (by omega) (by omega) (by omega) (by omega) (by omega)
      · simp only; omega
    · have hi : l.length ≤ i := by simpa using hge
      rw [List.drop_eq_nil_of_le hi] at h2
      exact ⟨trivial, rfl, rfl, rfl, leaf_tt h2⟩
/-! ### norm -/
def mkN (l : List PieceT) (i : Nat) : Mk := (l.take i).foldl Mk.piece Mk.nil
theorem mkN_succ {l : List PieceT} {i : Nat} (hi : i < l.length) : mkN l (i + 1) = (mkN l i).piece l[i] := by
  unfold mkN
  rw [List.take_succ_eq_append_getElem hi, List.foldl_append]
  rfl
theorem sumW_take' (l : List PieceT) (i : Nat) (h : ∀ p ∈ l, p.Nn) : sumW (l.take i) ≤ sumW l := by
  have e := sumW_append (l.take i) (l.drop i)
  rw [List.take_append_drop] at e
  have := sumW_len (l := l.drop i) fun p hp => h p (List.mem_of_mem_drop hp)
  omega
theorem piece_at {l : List PieceT} {i : Nat} (h : i < l.length) : (l.map pieceV)[i]? = some (pieceV l[i]) := by simp [h]
theorem lastP_at {l : List PieceT} (h : 0 < l.length) : (l.map pieceV)[0 + ((l.length : Int) - 1).toNat]? = some (pieceV (l[l.length - 1]'(by omega))) := by
  have : 0 + ((l.length : Int) - 1).toNat = l.length - 1 := by omega
  rw [this]
  simp [show l.length - 1 < l.length by omega]
theorem set_lastP {f : PieceT → PieceT} {l : List PieceT} (h : 0 < l.length) : (l.map pieceV).set (0 + ((l.length : Int) - 1).toNat) (pieceV (f (l[l.length - 1]'(by omega)))) = (modL f l).map pieceV := by
  have : 0 + ((l.length : Int) - 1).toNat = l.length - 1 := by omega
  rw [this, modL_set f l (by omega), List.map_set]
set_option pp.maxSteps 300 in
set_option maxHeartbeats 2000000 in
set_option maxRecDepth 100000 in
theorem w_ref5norm (l : List PieceT) (h : ∀ p ∈ l, p.Nn) (hw : sumW l ≤ 400000000000) : Pure Tryz.prog 168 [piecesV l] (fun x => x = piecesV (normP l)) := by
  have hlen := sumW_len h
  refine pure_wk (pure_fn 100 Tryz.func168 rfl rfl rfl fun B => ?_)
  show Goes _ _ _ _
  refine goes_own 3 3 rfl ?_
  refine goes_iter (ι := Nat × Nat) (fun i => i.1 ≤ l.length) (fun i => l.length - i.1) (fun i => [(5, .int .i64 i.1), (4, .int .i64 (mkN l i.1).keep), (3, .osl (.loc 0) i.2 0 (mkN l i.1).l.length), (0, piecesV l)]) (fun i => [some (.vec i.2 3 ((mkN l i.1).l.map pieceV))]) (0, 0) 100 (fun _ => rfl) (fun _ => rfl) ⟨Nat.zero_le _, ⟨⟨rfl, rfl⟩, ⟨rfl, rfl⟩, ⟨rfl, rfl⟩, ⟨rfl, rfl⟩, trivial⟩, ⟨⟨rfl, rfl⟩, trivial⟩⟩ ?_
  rintro ⟨i, g⟩ k1 next
  simp only at k1
  refine ⟨fun hlt => go 100 ?_, fun hge => go 100 ?_⟩
  · have hi : i < l.length := by have := lt_of hlt; simp at this; omega
    have hm : l[i] ∈ l := List.getElem_mem hi
    have hn := h _ hm
    obtain ⟨q1, q2⟩ := foldl_ok (l := l.take i) Mk.nil_ok fun p hp => h p (List.mem_of_mem_take hp)
    have q1 : (mkN l i).Ok := q1
    have q2 : (mkN l i).w ≤ Mk.nil.w + 2 * sumW (l.take i) := q2
    have s1 : (mkN l (i, g).fst).keep = (mkN l i).keep := rfl
    have s2 : (((mkN l (i, g).fst).l.length : Nat) : Int) = ((mkN l i).l.length : Nat) := rfl
    have q3 := sumW_take' l i h
    have q4 := sumW_mem h _ hm
    have e1 := mkN_succ hi
    have d1 := q1.k
    have d2 := sumW_len q1.l
    have d3 := hn.k
    have d4 := hn.d
    have d5 : Mk.nil.w = 0 := rfl
    have d6 : (mkN l i).w = (mkN l i).keep + sumW (mkN l i).l := rfl
    have d7 : l[i].w = l[i].keep + l[i].drop + l[i].put.length + 1 := rfl
    have hx := piece_at hi
    have hroom : room (((mkN l i).l.map pieceV).length + 1) 32 := by
      unfold room
      simp only [List.length_map]
      omega
    refine ⟨Int.natCast_nonneg i, _, hx, ?_⟩
    refine ⟨by constructor <;> omega, ?_⟩
    refine ⟨Int.natCast_nonneg i, _, hx, ?_⟩
    refine ⟨fun g1 => go 60 ?_, fun g1 => go 60 ?_⟩
    · have p0 : l[i].put = [] := of_decide_eq_true g1
      refine ⟨Int.natCast_nonneg i, _, hx, ?_⟩
      refine ⟨fun g2 => go 60 ?_, fun g2 => go 60 ?_⟩
      · have p1 : l[i].drop = 0 := eq_of g2
        have e2 : mkN l (i + 1) = ⟨(mkN l i).l, (mkN l i).keep + l[i].keep⟩ := by rw [e1]; exact piece_skip p0 p1
        refine ⟨by constructor <;> omega, ?_⟩
        show Goes _ _ _ _
        refine next (i + 1, g) _ _ ⟨hi, by simp only; omega, ?_, ?_⟩
        · rw [e2]
          exact ⟨⟨rfl, rfl⟩, ⟨rfl, rfl⟩, ⟨rfl, rfl⟩, ⟨rfl, rfl⟩, trivial⟩
        · rw [e2]
          exact ⟨⟨rfl, rfl⟩, trivial⟩
      · have p1 : l[i].drop ≠ 0 := ne_of g2
        have h0 : ¬ (l[i].put = [] ∧ l[i].drop = 0) := fun e => p1 e.2
        refine ⟨fun g3 => go 60 ?_, fun g3 => go 60 ?_⟩
        · have g3 := eq_of g3
          refine ⟨rfl, ?_⟩
          refine ⟨fun g4 => go 60 ?_, fun g4 => go 60 ?_⟩
          · have g4 := lt_of g4
            have hne : (mkN l i).l ≠ [] := fun e => by rw [e] at g4; simp at g4
            have e2 : mkN l (i + 1) = ⟨modL (addP l[i]) (mkN l i).l, 0⟩ := by rw [e1]; exact piece_merge d4 h0 g3 hne
            have hpos : 0 < (mkN l i).l.length := List.length_pos_iff.2 hne
            have hL := lastP_at hpos
            have hLm := sumW_mem q1.l _ (List.getElem_mem (by omega : (mkN l i).l.length - 1 < (mkN l i).l.length))
            have hLn := q1.l _ (List.getElem_mem (by omega : (mkN l i).l.length - 1 < (mkN l i).l.length))
            have hLk := hLn.k
            have hLd := hLn.d
            unfold PieceT.w at hLm
            refine ⟨rfl, ⟨by omega, by omega⟩, rfl, by omega, by omega, rfl, _, hL, ?_⟩
            show Goes _ _ _ _
            refine goes_draw 60 ⟨Int.natCast_nonneg i, _, hx, by rw [List.length_append]; omega, ?_⟩
            refine ⟨by kernel_rfl, ?_⟩
            show Goes _ _ _ _
            refine goes_draw 60 ⟨Int.natCast_nonneg i, _, hx, ⟨by omega, by omega⟩, ?_⟩
            refine ⟨by kernel_rfl, ?_⟩
            refine ⟨rfl, ⟨by omega, by omega⟩, rfl, by omega, by omega, rfl, _, hL, ?_⟩
            refine ⟨⟨by omega, by omega⟩, ?_⟩
            show Goes _ _ _ _
            have e3 := set_lastP (f := addP l[i]) hpos
            refine next (i + 1, g) _ _ ⟨hi, by simp only; omega, ⟨⟨rfl, rfl⟩, ⟨?_, rfl⟩, ⟨?_, rfl⟩, ⟨rfl, rfl⟩, trivial⟩, ⟨⟨?_, rfl⟩, trivial⟩⟩
            · show V.int .i64 ((mkN l i).keep + l[i].keep) = V.int .i64 (mkN l (i + 1)).keep
              rw [e2, g3]
            · show V.osl (.loc 0) g 0 (mkN l i).l.length = V.osl (.loc 0) g 0 (mkN l (i + 1)).l.length
              rw [e2]
              simp only [modL_len]
            · rw [e2]
              exact congrArg (fun z => some (HObj.vec g 3 z)) e3
          · have g4 := not_lt_of g4
            have hnil : (mkN l i).l = [] := List.length_eq_zero_iff.1 (by omega)
            have e2 : mkN l (i + 1) = ⟨(mkN l i).l ++ [⟨(mkN l i).keep + l[i].keep, l[i].drop, l[i].put⟩], 0⟩ := by rw [e1]; exact piece_new d4 h0 (.inr hnil)
            show Goes _ _ _ _
            refine goes_draw 60 ⟨Int.natCast_nonneg i, _, hx, Int.natCast_nonneg i, _, hx, rfl, ⟨rfl, trivial⟩, rfl, rfl, rfl, rfl, by simp, hroom, ?_⟩
            refine ⟨by kernel_rfl, ?_⟩
            refine ⟨⟨by omega, by omega⟩, ?_⟩
            show Goes _ _ _ _
            refine next (i + 1, bump g) _ _ ⟨hi, by simp only; omega, ⟨⟨rfl, rfl⟩, ⟨?_, rfl⟩, ⟨?_, rfl⟩, ⟨rfl, rfl⟩, trivial⟩, ⟨⟨?_, rfl⟩, trivial⟩⟩
            · rw [e2]
              rfl
            · rw [e2]
              exact congrArg (V.osl (.loc 0) (bump g) 0) (by simp)
            · rw [e2]
              exact congrArg (fun z => some (HObj.vec (bump g) 3 z)) (by rw [List.map_append]; rfl)
        · have g3 := ne_of g3
          have e2 : mkN l (i + 1) = ⟨(mkN l i).l ++ [⟨(mkN l i).keep + l[i].keep, l[i].drop, l[i].put⟩], 0⟩ := by rw [e1]; exact piece_new d4 h0 (.inl (by omega))
          show Goes _ _ _ _
          refine goes_draw 60 ⟨Int.natCast_nonneg i, _, hx, Int.natCast_nonneg i, _, hx, rfl, ⟨rfl, trivial⟩, rfl, rfl, rfl, rfl, by simp, hroom, ?_⟩
          refine ⟨by kernel_rfl, ?_⟩
          refine ⟨⟨by omega, by omega⟩, ?_⟩
          show Goes _ _ _ _
          refine next (i + 1, bump g) _ _ ⟨hi, by simp only; omega, ⟨⟨rfl, rfl⟩, ⟨?_, rfl⟩, ⟨?_, rfl⟩, ⟨rfl, rfl⟩, trivial⟩, ⟨⟨?_, rfl⟩, trivial⟩⟩
          · rw [e2]
            rfl
          · rw [e2]
            exact congrArg (V.osl (.loc 0) (bump g) 0) (by simp)
          · rw [e2]
            exact congrArg (fun z => some (HObj.vec (bump g) 3 z)) (by rw [List.map_append]; rfl)
    · have p0 : l[i].put ≠ [] := of_decide_eq_false g1
      have h0 : ¬ (l[i].put = [] ∧ l[i].drop = 0) := fun e => p0 e.1
      refine ⟨fun g3 => go 60 ?_, fun g3 => go 60 ?_⟩
      · have g3 := eq_of g3
        refine ⟨rfl, ?_⟩
        refine ⟨fun g4 => go 60 ?_, fun g4 => go 60 ?_⟩
        · have g4 := lt_of g4
          have hne : (mkN l i).l ≠ [] := fun e => by rw [e] at g4; simp at g4
          have e2 : mkN l (i + 1) = ⟨modL (addP l[i]) (mkN l i).l, 0⟩ := by rw [e1]; exact piece_merge d4 h0 g3 hne
          have hpos : 0 < (mkN l i).l.length := List.length_pos_iff.2 hne
          have hL := lastP_at hpos
          have hLm := sumW_mem q1.l _ (List.getElem_mem (by omega : (mkN l i).l.length - 1 < (mkN l i).l.length))
          have hLn := q1.l _ (List.getElem_mem (by omega : (mkN l i).l.length - 1 < (mkN l i).l.length))
          have hLk := hLn.k
          have hLd := hLn.d
          unfold PieceT.w at hLm
          refine ⟨rfl, ⟨by omega, by omega⟩, rfl, by omega, by omega, rfl, _, hL, ?_⟩
          show Goes _ _ _ _
          refine goes_draw 60 ⟨Int.natCast_nonneg i, _, hx, by rw [List.length_append]; omega, ?_⟩
          refine ⟨by kernel_rfl, ?_⟩
          show Goes _ _ _ _
          refine goes_draw 60 ⟨Int.natCast_nonneg i, _, hx, ⟨by omega, by omega⟩, ?_⟩
          refine ⟨by kernel_rfl, ?_⟩
          refine ⟨rfl, ⟨by omega, by omega⟩, rfl, by omega, by omega, rfl, _, hL, ?_⟩
          refine ⟨⟨by omega, by omega⟩, ?_⟩
          show Goes _ _ _ _
          have e3 := set_lastP (f := addP l[i]) hpos
          refine next (i + 1, g) _ _ ⟨hi, by simp only; omega, ⟨⟨rfl, rfl⟩, ⟨?_, rfl⟩, ⟨?_, rfl⟩, ⟨rfl, rfl⟩, trivial⟩, ⟨⟨?_, rfl⟩, trivial⟩⟩
          · show V.int .i64 ((mkN l i).keep + l[i].keep) = V.int .i64 (mkN l (i + 1)).keep
            rw [e2, g3]
          · show V.osl (.loc 0) g 0 (mkN l i).l.length = V.osl (.loc 0) g 0 (mkN l (i + 1)).l.length
            rw [e2]
            simp only [modL_len]
          · rw [e2]
            exact congrArg (fun z => some (HObj.vec g 3 z)) e3
        · have g4 := not_lt_of g4
          have hnil : (mkN l i).l = [] := List.length_eq_zero_iff.1 (by omega)
          have e2 : mkN l (i + 1) = ⟨(mkN l i).l ++ [⟨(mkN l i).keep + l[i].keep, l[i].drop, l[i].put⟩], 0⟩ := by rw [e1]; exact piece_new d4 h0 (.inr hnil)
          show Goes _ _ _ _
          refine goes_draw 60 ⟨Int.natCast_nonneg i, _, hx, Int.natCast_nonneg i, _, hx, rfl, ⟨rfl, trivial⟩, rfl, rfl, rfl, rfl, by simp, hroom, ?_⟩
          refine ⟨by kernel_rfl, ?_⟩
          refine ⟨⟨by omega, by omega⟩, ?_⟩
          show Goes _ _ _ _
          refine next (i + 1, bump g) _ _ ⟨hi, by simp only; omega, ⟨⟨rfl, rfl⟩, ⟨?_, rfl⟩, ⟨?_, rfl⟩, ⟨rfl, rfl⟩, trivial⟩, ⟨⟨?_, rfl⟩, trivial⟩⟩
          · rw [e2]
            rfl
          · rw [e2]
            exact congrArg (V.osl (.loc 0) (bump g) 0) (by simp)
          · rw [e2]
            exact congrArg (fun z => some (HObj.vec (bump g) 3 z)) (by rw [List.map_append]; rfl)
      · have g3 := ne_of g3
        have e2 : mkN l (i + 1) = ⟨(mkN l i).l ++ [⟨(mkN l i).keep + l[i].keep, l[i].drop, l[i].put⟩], 0⟩ := by rw [e1]; exact piece_new d4 h0 (.inl (by omega))
        show Goes _ _ _ _
        refine goes_draw 60 ⟨Int.natCast_nonneg i, _, hx, Int.natCast_nonneg i, _, hx, rfl, ⟨rfl, trivial⟩, rfl, rfl, rfl, rfl, by simp, hroom, ?_⟩
        refine ⟨by kernel_rfl, ?_⟩
        refine ⟨⟨by omega, by omega⟩, ?_⟩
        show Goes _ _ _ _
        refine next (i + 1, bump g) _ _ ⟨hi, by simp only; omega, ⟨⟨rfl, rfl⟩, ⟨?_, rfl⟩, ⟨?_, rfl⟩, ⟨rfl, rfl⟩, trivial⟩, ⟨⟨?_, rfl⟩, trivial⟩⟩
        · rw [e2]
          rfl
        · rw [e2]
          exact congrArg (V.osl (.loc 0) (bump g) 0) (by simp)
        · rw [e2]
          exact congrArg (fun z => some (HObj.vec (bump g) 3 z)) (by rw [List.map_append]; rfl)
  · have hi : i = l.length := by have := not_lt_of hge; simp at this; omega
    subst hi
    have e : (mkN l l.length).l = normP l := by unfold mkN normP; rw [List.take_length]
    refine ⟨trivial, rfl, rfl, rfl, by simp, rfl, piecesV (normP l), ?_, rfl, rfl⟩
    rw [← e]
    exact Wk.refl _

/-! ### Extent -/
theorem extN_drop {l : List PieceT} {i : Nat} (hi : i < l.length) : extN (l.drop i) = l[i].keep.toNat + l[i].drop.toNat + extN (l.drop (i + 1)) := by
  rw [List.drop_eq_getElem_cons hi, extN]
set_option maxRecDepth 100000 in
theorem w_ref5Extent (l : List PieceT) (h : ∀ p ∈ l, p.Nn) (hw : sumW l ≤ 1000000000000) : Pure Tryz.prog 136 [piecesV l] (fun x => x = .int .i64 (extN l)) := by
  have hlen := sumW_len h
  have hext := extN_le h
  refine pure_fn 100 Tryz.func136 rfl rfl rfl fun B => ?_
  show Goes _ _ _ _
  refine goes_iter (ι := Nat × Nat) (fun i => i.1 ≤ l.length ∧ i.2 + extN (l.drop i.1) = extN l) (fun i => l.length - i.1) (fun i => [(4, .int .i64 i.1), (0, piecesV l), (3, .int .i64 i.2)]) (fun _ => []) (0, 0) 100 (fun _ => rfl) (fun _ => rfl) ⟨⟨Nat.zero_le _, by simp⟩, ⟨⟨rfl, rfl⟩, ⟨rfl, rfl⟩, ⟨rfl, rfl⟩, trivial⟩, trivial⟩ ?_
  rintro ⟨i, n⟩ ⟨k1, k3⟩ next
  simp only at k1 k3
  refine ⟨fun hlt => go 100 ?_, fun hge => go 100 ?_⟩
  · have hi : i < l.length := by simpa using hlt
    have hx := piece_at hi
    have hp := h l[i] (List.getElem_mem hi)
    have := hp.k
    have := hp.d
    rw [extN_drop hi] at k3
    show Goes _ _ _ _
    refine goes_draw 100 ⟨Int.natCast_nonneg i, _, hx, ⟨by omega, by omega⟩, Int.natCast_nonneg i, _, hx, ⟨by omega, by omega⟩, ?_⟩
    refine ⟨by kernel_rfl, ?_⟩
    refine ⟨⟨by omega, by omega⟩, ?_⟩
    show Goes _ _ _ _
    refine next (i + 1, n + l[i].keep.toNat + l[i].drop.toNat) _ _ ⟨⟨hi, by simp only; omega⟩, by simp only; omega, ⟨⟨rfl, rfl⟩, ⟨rfl, rfl⟩, ⟨?_, rfl⟩, trivial⟩, trivial⟩
    show V.int .i64 _ = V.int .i64 _
    congr 1
    omega
  · have hi : l.length ≤ i := by simpa using hge
    rw [List.drop_eq_nil_of_le hi] at k3
    refine ⟨trivial, rfl, rfl, rfl, ?_⟩
    show V.int .i64 _ = V.int .i64 _
    rw [← k3]
    rfl

/-! ### view -/
def bitV (b : Bool) : V := bif b then .tt else .ff
def viewV (l : List PieceT) (n : Nat) : V := .agg [.sl 1 ((List.range' 0 (n + 1)).map fun j => .str (putAt l j)), .sl 1 ((List.range' 0 (n + 1)).map fun j => .bool (dropAt l j))]
theorem wk_bits (f : Nat → Bool) : ∀ L : List Nat, WkE 1 (L.map fun j => bitV (f j)) (L.map fun j => .bool (f j))
  | [] => trivial
  | a :: L => by
    refine ⟨?_, wk_bits f L⟩
    show WkL (bitV (f a)).cells (V.bool (f a)).cells ∧ okE 1 (V.bool (f a))
    cases f a with
    | true => exact ⟨⟨Wk.tt, trivial⟩, rfl, rfl⟩
    | false => exact ⟨⟨Wk.ff, trivial⟩, rfl, rfl⟩
theorem rep_range {α : Type} (x : α) (N : Nat) : List.replicate N x = (List.range' 0 N).map fun _ => x := by
  apply List.ext_getElem
  · simp
  · intro j h1 h2
    simp
theorem range_at {α : Type} (f : Nat → α) {N j : Nat} (h : j < N) : ((List.range' 0 N).map f)[j]? = some (f j) := by simp [h]
set_option pp.maxSteps 300 in
set_option maxHeartbeats 2000000 in
set_option maxRecDepth 100000 in
theorem w_view (l : List PieceT) (n : Nat) (h : RN l) (hw : sumW l ≤ 400000000000) (hn : extN l ≤ n) (hb : n ≤ 1000000000000) : Pure Tryz.prog 242 [piecesV l, .int .i64 n] (fun x => x = viewV l n) := by
  have hnn := rn_nn h
  have hlen := sumW_len hnn
  have hN : ((n : Int) + 1).toNat = n + 1 := by omega
  have hb1 : ((n : Int) + 1).toNat ≤ 1000000000001 := by omega
  refine pure_wk (pure_fn 100 Tryz.func242 rfl rfl rfl fun B => ?_)
  show Goes _ _ _ _
  refine goes_draw 60 ⟨⟨by omega, by omega⟩, ⟨by omega, rfl, Nat.le_trans (Nat.mul_le_mul_left _ hb1) (by decide)⟩, rfl, ⟨by omega, by omega⟩, ⟨by omega, rfl, Nat.le_trans (Nat.mul_le_mul_left _ hb1) (by decide)⟩, rfl, rfl, ?_⟩
  refine ⟨by kernel_rfl, ?_⟩
  show Goes _ _ _ _
  refine goes_iter (ι := Nat) (fun i => i ≤ l.length) (fun i => l.length - i) (fun i => [(7, .int .i64 i), (6, .int .i64 (extN (l.take i))), (5, .ptr (.loc 3) 0), (4, .ptr (.loc 0) 0), (0, piecesV l)])
    (fun i => [some (.box [.nilsl, .nilsl]), some (.vec 2 1 ((List.range' 0 (n + 1)).map fun j => .str (putAt (l.take i) j))), some (.vec 2 1 ((List.range' 0 (n + 1)).map fun j => bitV (dropAt (l.take i) j))), some (.box [.osl (.loc 1) 2 0 (n + 1), .osl (.loc 2) 2 0 (n + 1)])]) 0 60 (fun _ => rfl) (fun _ => rfl)
    ⟨Nat.zero_le _, ⟨⟨rfl, rfl⟩, ⟨rfl, rfl⟩, ⟨rfl, rfl⟩, ⟨rfl, rfl⟩, ⟨rfl, rfl⟩, trivial⟩, ⟨⟨rfl, rfl⟩, ⟨?_, rfl⟩, ⟨?_, rfl⟩, ⟨?_, rfl⟩, trivial⟩⟩ ?_
  · rw [hN]
    exact congrArg (fun z => some (HObj.vec 2 1 z)) (rep_range _ _)
  · rw [hN]
    exact congrArg (fun z => some (HObj.vec 2 1 z)) (rep_range _ _)
  · rw [hN]
    rfl
  rintro i k1 next
  refine ⟨fun hlt => go 60 ?_, fun hge => go 60 ?_⟩
  · have hi : i < l.length := by have := lt_of hlt; simp at this; omega
    have hx := piece_at hi
    have hm := hnn _ (List.getElem_mem hi)
    have d1 := hm.k
    have d2 := hm.d
    have hext := extN_take hi
    have hle := extN_take_le l (i + 1)
    have e1 : l.take (i + 1) = l.take i ++ [l[i]] := List.take_succ_eq_append_getElem hi
    have hr := rn_take h (i + 1)
    rw [e1] at hr
    obtain ⟨c, hc⟩ : ∃ c : Nat, ((extN (l.take i) : Nat) : Int) + l[i].keep = (c : Int) := ⟨extN (l.take i) + l[i].keep.toNat, by omega⟩
    have hc' : c = extN (l.take i) + l[i].keep.toNat := by omega
    have hcn : c + l[i].drop.toNat ≤ n := by omega
    have hct : 0 + (((extN (l.take i) : Nat) : Int) + l[i].keep).toNat = c := by omega
    have hpx : ((List.range' 0 (n + 1)).map fun j => V.str (putAt (l.take i) j))[0 + (((extN (l.take i) : Nat) : Int) + l[i].keep).toNat]? = some (.str (putAt (l.take i) c)) := by
      rw [hct]
      exact range_at _ (by omega)
    refine ⟨Int.natCast_nonneg i, _, hx, ⟨by omega, by omega⟩, ?_⟩
    show Goes _ _ _ _
    refine goes_draw 60 ⟨Int.natCast_nonneg i, _, hx, rfl, by omega, by omega, rfl, _, hpx, ?_⟩
    refine ⟨by kernel_rfl, ?_⟩
    show Goes _ _ _ _
    have eputs : ((List.range' 0 (n + 1)).map fun j => V.str (putAt (l.take i) j)).set (0 + (((extN (l.take i) : Nat) : Int) + l[i].keep).toNat) (.str l[i].put) = (List.range' 0 (n + 1)).map fun j => V.str (putAt (l.take (i + 1)) j) := by
      rw [hct, set_range]
      refine List.map_congr_left fun j _ => ?_
      rw [e1, putAt_snoc hr, ← hc']
      cases decide (j = c) <;> rfl
    refine goes_iter (ι := Nat) (fun k => k ≤ l[i].drop.toNat) (fun k => l[i].drop.toNat - k) (fun k => [(8, .int .i64 k), (7, .int .i64 i), (6, .int .i64 c), (5, .ptr (.loc 3) 0), (4, .ptr (.loc 0) 0), (0, piecesV l)])
      (fun k => [some (.box [.nilsl, .nilsl]), some (.vec 2 1 ((List.range' 0 (n + 1)).map fun j => .str (putAt (l.take (i + 1)) j))), some (.vec 2 1 ((List.range' 0 (n + 1)).map fun j => bitV (dropAt (l.take i) j || (decide (c ≤ j) && decide (j < c + k))))), some (.box [.osl (.loc 1) 2 0 (n + 1), .osl (.loc 2) 2 0 (n + 1)])]) 0 60 (fun _ => rfl) (fun _ => rfl)
      ⟨Nat.zero_le _, ⟨⟨rfl, rfl⟩, ⟨rfl, rfl⟩, ⟨?_, rfl⟩, ⟨rfl, rfl⟩, ⟨rfl, rfl⟩, ⟨rfl, rfl⟩, trivial⟩, ⟨⟨rfl, rfl⟩, ⟨?_, rfl⟩, ⟨?_, rfl⟩, ⟨rfl, rfl⟩, trivial⟩⟩ ?_
    · exact congrArg (V.int .i64) hc
    · exact congrArg (fun z => some (HObj.vec 2 1 z)) eputs
    · refine congrArg (fun z => some (HObj.vec 2 1 z)) (List.map_congr_left fun j _ => ?_)
      congr 1
      by_cases h1 : c ≤ j
      · rw [decide_eq_true h1, decide_eq_false (by omega : ¬ j < c + 0)]; simp
      · rw [decide_eq_false h1]; simp
    rintro k k2 next2
    refine ⟨Int.natCast_nonneg i, _, hx, ?_⟩
    refine ⟨fun hlt2 => go 60 ?_, fun hge2 => go 60 ?_⟩
    · have hk : k < l[i].drop.toNat := by have := lt_of hlt2; omega
      have hck : 0 + ((c : Int) + (k : Int)).toNat = c + k := by omega
      have hdx : ((List.range' 0 (n + 1)).map fun j => bitV (dropAt (l.take i) j || (decide (c ≤ j) && decide (j < c + k))))[0 + ((c : Int) + (k : Int)).toNat]? = some .ff := by
        rw [hck, range_at _ (by omega)]
        rw [dropAt_ge _ _ (by omega), decide_eq_false (by omega : ¬ c + k < c + k)]
        simp [bitV]
      refine ⟨⟨by omega, by omega⟩, rfl, by omega, by omega, rfl, _, hdx, ?_⟩
      refine ⟨⟨by omega, by omega⟩, ?_⟩
      show Goes _ _ _ _
      refine next2 (k + 1) _ _ ⟨hk, by omega, ⟨⟨rfl, rfl⟩, ⟨rfl, rfl⟩, ⟨rfl, rfl⟩, ⟨rfl, rfl⟩, ⟨rfl, rfl⟩, ⟨rfl, rfl⟩, trivial⟩, ⟨⟨rfl, rfl⟩, ⟨rfl, rfl⟩, ⟨?_, rfl⟩, ⟨rfl, rfl⟩, trivial⟩⟩
      show some (HObj.vec 2 1 (List.set _ (0 + ((c : Int) + (k : Int)).toNat) .tt)) = _
      rw [hck, set_range]
      refine congrArg (fun z => some (HObj.vec 2 1 z)) (List.map_congr_left fun j _ => ?_)
      by_cases h1 : j = c + k
      · rw [decide_eq_true h1, h1, decide_eq_true (by omega : c ≤ c + k), decide_eq_true (by omega : c + k < c + (k + 1))]
        simp [bitV]
      · rw [decide_eq_false h1]
        have : decide (j < c + k) = decide (j < c + (k + 1)) := by rw [decide_eq_decide]; omega
        rw [this]
        rfl
    · have hk : k = l[i].drop.toNat := by have := not_lt_of hge2; omega
      refine ⟨Int.natCast_nonneg i, _, hx, ⟨by omega, by omega⟩, ?_⟩
      refine ⟨⟨by omega, by omega⟩, ?_⟩
      show Goes _ _ _ _
      refine next (i + 1) _ _ ⟨hi, by omega, ⟨⟨rfl, rfl⟩, ⟨?_, rfl⟩, ⟨rfl, rfl⟩, ⟨rfl, rfl⟩, ⟨rfl, rfl⟩, trivial⟩, ⟨⟨rfl, rfl⟩, ⟨rfl, rfl⟩, ⟨?_, rfl⟩, ⟨rfl, rfl⟩, trivial⟩⟩
      · exact congrArg (V.int .i64) (by omega)
      · refine congrArg (fun z => some (HObj.vec 2 1 z)) (List.map_congr_left fun j _ => ?_)
        rw [e1, dropAt_snoc, ← hc', hk]
  · have hi : i = l.length := by have := not_lt_of hge; simp at this; omega
    subst hi
    refine ⟨trivial, rfl, rfl, rfl, (by rw [List.length_map, List.length_range']), rfl, (by rw [List.length_map, List.length_range']), rfl, viewV l n, ?_, rfl, rfl⟩
    rw [List.take_length]
    exact Wk.agg ⟨.refl _, Wk.sl (wk_bits _ _), trivial⟩

/-! ### behind -/
theorem viewP_at (l : List PieceT) {n j : Nat} (h : j < (viewP l n).length) : (viewP l n)[j] = (putAt l j, dropAt l j) := by
  have h2 : j < n + 1 := by rw [viewP_len] at h; exact h
  have e : (viewP l n)[j]? = some (putAt l j, dropAt l j) := by unfold viewP; exact range_at _ h2
  rw [List.getElem?_eq_getElem h] at e
  exact Option.some.inj e
set_option pp.maxSteps 300 in
set_option maxHeartbeats 2000000 in
set_option maxRecDepth 100000 in
theorem w_behind5 (la lb : List PieceT) (n : Nat) (first : Bool) (ha : RN la) (hb : RN lb) (wa : sumW la ≤ 40000000000) (wb : sumW lb ≤ 40000000000) (hn : n ≤ 40000000000) :
    Pure Tryz.prog 243 [viewV la n, viewV lb n, .bool first] (fun x => x = piecesV (normP (placesP first (viewP la n) (viewP lb n)))) := by
  have sa := sumL_view ha n
  have sb := sumL_view hb n
  have lva := viewP_len la n
  have lvb := viewP_len lb n
  obtain ⟨nn, len, sw⟩ := places_nn first (viewP la n) (viewP lb n)
  have hnorm := w_ref5norm (placesP first (viewP la n) (viewP lb n)) nn (by omega)
  refine pure_wk (pure_fn 100 Tryz.func243 rfl rfl rfl fun B => ?_)
  show Goes _ _ _ _
  refine goes_own 7 3 rfl ?_
  refine goes_iter (ι := Nat × Nat) (fun i => i.1 ≤ n + 1) (fun i => n + 1 - i.1) (fun i => [(8, .int .i64 i.1), (7, .osl (.loc 2) i.2 0 (placesP first ((viewP la n).take i.1) ((viewP lb n).take i.1)).length), (2, .bool first), (3, .ptr (.loc 0) 0), (4, .ptr (.loc 1) 0)])
    (fun i => [some (.box (viewV la n).cells), some (.box (viewV lb n).cells), some (.vec i.2 3 ((placesP first ((viewP la n).take i.1) ((viewP lb n).take i.1)).map pieceV))]) (0, 0) 100 (fun _ => rfl) (fun _ => rfl)
    ⟨Nat.zero_le _, ⟨⟨rfl, rfl⟩, ⟨rfl, rfl⟩, ⟨rfl, rfl⟩, ⟨rfl, rfl⟩, ⟨rfl, rfl⟩, trivial⟩, ⟨⟨rfl, rfl⟩, ⟨rfl, rfl⟩, ⟨rfl, rfl⟩, trivial⟩⟩ ?_
  rintro ⟨i, g⟩ k1 next
  simp only at k1
  refine ⟨fun hlt => go 100 ?_, fun hge => go 100 ?_⟩
  · have hi : i < n + 1 := by have := lt_of hlt; simp at this; omega
    have px : ((List.range' 0 (n + 1)).map fun j => V.str (putAt la j))[i]? = some (.str (putAt la i)) := range_at _ hi
    have py : ((List.range' 0 (n + 1)).map fun j => V.str (putAt lb j))[i]? = some (.str (putAt lb i)) := range_at _ hi
    have dx : ((List.range' 0 (n + 1)).map fun j => V.bool (dropAt la j))[i]? = some (.bool (dropAt la i)) := range_at _ hi
    have dy : ((List.range' 0 (n + 1)).map fun j => V.bool (dropAt lb j))[i]? = some (.bool (dropAt lb i)) := range_at _ hi
    have hsn := placesP_snoc first (va := viewP la n) (vb := viewP lb n) (i := i) (by omega) (by omega)
    rw [viewP_at, viewP_at] at hsn
    obtain ⟨_, len2, _⟩ := places_nn first ((viewP la n).take i) ((viewP lb n).take i)
    have hl2 : (placesP first ((viewP la n).take i) ((viewP lb n).take i)).length ≤ 3 * i := by
      refine Nat.le_trans len2 ?_
      rw [List.length_take]
      omega
    obtain ⟨P, hP⟩ : ∃ P, placesP first ((viewP la n).take i) ((viewP lb n).take i) = P := ⟨_, rfl⟩
    have room1 : ∀ m : Nat, m ≤ 3 * i + 3 → room m 32 := fun m h => by unfold room; omega
    refine ⟨Int.natCast_nonneg i, _, py, ?_⟩
    refine ⟨Int.natCast_nonneg i, _, px, ?_⟩
    refine ⟨fun g1 => go 100 ?_, fun g1 => go 100 ?_⟩
    · refine ⟨⟨rfl, rfl, trivial⟩, rfl, rfl, rfl, by simp, room1 _ (by simp only [List.length_map, List.length_cons, List.length_nil]; omega), ?_⟩
      refine ⟨Int.natCast_nonneg i, _, dy, ?_⟩
      refine ⟨fun g2 => go 100 ?_, fun g2 => go 100 ?_⟩
      · have hQ : placeP first (putAt la i, dropAt la i) (putAt lb i, dropAt lb i) = [⟨0, 0, putAt la i⟩, ⟨(putAt lb i).length, 0, []⟩] := by unfold placeP; rw [g1, g2]; rfl
        refine ⟨⟨by omega, by omega⟩, ?_⟩
        show Goes _ _ _ _
        refine next (i + 1, bump g) _ _ ⟨hi, by simp only; omega, ⟨⟨rfl, rfl⟩, ⟨?_, rfl⟩, ⟨rfl, rfl⟩, ⟨rfl, rfl⟩, ⟨rfl, rfl⟩, trivial⟩, ⟨⟨rfl, rfl⟩, ⟨rfl, rfl⟩, ⟨?_, rfl⟩, trivial⟩⟩
        · exact congrArg (V.osl (.loc 2) (bump g) 0) (by rw [hsn, hQ, List.length_append, List.length_map]; rfl)
        · exact congrArg (fun z => some (HObj.vec (bump g) 3 z)) (by rw [hsn, hQ, List.map_append]; rfl)
      · refine ⟨Int.natCast_nonneg i, _, dx, ?_⟩
        refine ⟨fun g3 => go 100 ?_, fun g3 => go 100 ?_⟩
        · have hQ : placeP first (putAt la i, dropAt la i) (putAt lb i, dropAt lb i) = [⟨0, 0, putAt la i⟩, ⟨(putAt lb i).length, 0, []⟩, ⟨0, 1, []⟩] := by unfold placeP; rw [g1, g2, g3]; rfl
          refine ⟨⟨rfl, trivial⟩, rfl, rfl, rfl, by simp, room1 _ (by simp only [List.length_append, List.length_map, List.length_cons, List.length_nil]; omega), ?_⟩
          refine ⟨⟨by omega, by omega⟩, ?_⟩
          show Goes _ _ _ _
          refine next (i + 1, bump (bump g)) _ _ ⟨hi, by simp only; omega, ⟨⟨rfl, rfl⟩, ⟨?_, rfl⟩, ⟨rfl, rfl⟩, ⟨rfl, rfl⟩, ⟨rfl, rfl⟩, trivial⟩, ⟨⟨rfl, rfl⟩, ⟨rfl, rfl⟩, ⟨?_, rfl⟩, trivial⟩⟩
          · exact congrArg (V.osl (.loc 2) (bump (bump g)) 0) (by rw [hsn, hQ, List.length_append, List.length_append, List.length_map]; rfl)
          · exact congrArg (fun z => some (HObj.vec (bump (bump g)) 3 z)) (by rw [hsn, hQ, List.map_append, List.append_assoc]; rfl)
        · have hQ : placeP first (putAt la i, dropAt la i) (putAt lb i, dropAt lb i) = [⟨0, 0, putAt la i⟩, ⟨(putAt lb i).length, 0, []⟩, ⟨1, 0, []⟩] := by unfold placeP; rw [g1, g2, g3]; rfl
          refine ⟨⟨rfl, trivial⟩, rfl, rfl, rfl, by simp, room1 _ (by simp only [List.length_append, List.length_map, List.length_cons, List.length_nil]; omega), ?_⟩
          refine ⟨⟨by omega, by omega⟩, ?_⟩
          show Goes _ _ _ _
          refine next (i + 1, bump (bump g)) _ _ ⟨hi, by simp only; omega, ⟨⟨rfl, rfl⟩, ⟨?_, rfl⟩, ⟨rfl, rfl⟩, ⟨rfl, rfl⟩, ⟨rfl, rfl⟩, trivial⟩, ⟨⟨rfl, rfl⟩, ⟨rfl, rfl⟩, ⟨?_, rfl⟩, trivial⟩⟩
          · exact congrArg (V.osl (.loc 2) (bump (bump g)) 0) (by rw [hsn, hQ, List.length_append, List.length_append, List.length_map]; rfl)
          · exact congrArg (fun z => some (HObj.vec (bump (bump g)) 3 z)) (by rw [hsn, hQ, List.map_append, List.append_assoc]; rfl)
    · refine ⟨⟨rfl, rfl, trivial⟩, rfl, rfl, rfl, by simp, room1 _ (by simp only [List.length_map, List.length_cons, List.length_nil]; omega), ?_⟩
      refine ⟨Int.natCast_nonneg i, _, dy, ?_⟩
      refine ⟨fun g2 => go 100 ?_, fun g2 => go 100 ?_⟩
      · have hQ : placeP first (putAt la i, dropAt la i) (putAt lb i, dropAt lb i) = [⟨(putAt lb i).length, 0, []⟩, ⟨0, 0, putAt la i⟩] := by unfold placeP; rw [g1, g2]; rfl
        refine ⟨⟨by omega, by omega⟩, ?_⟩
        show Goes _ _ _ _
        refine next (i + 1, bump g) _ _ ⟨hi, by simp only; omega, ⟨⟨rfl, rfl⟩, ⟨?_, rfl⟩, ⟨rfl, rfl⟩, ⟨rfl, rfl⟩, ⟨rfl, rfl⟩, trivial⟩, ⟨⟨rfl, rfl⟩, ⟨rfl, rfl⟩, ⟨?_, rfl⟩, trivial⟩⟩
        · exact congrArg (V.osl (.loc 2) (bump g) 0) (by rw [hsn, hQ, List.length_append, List.length_map]; rfl)
        · exact congrArg (fun z => some (HObj.vec (bump g) 3 z)) (by rw [hsn, hQ, List.map_append]; rfl)
      · refine ⟨Int.natCast_nonneg i, _, dx, ?_⟩
        refine ⟨fun g3 => go 100 ?_, fun g3 => go 100 ?_⟩
        · have hQ : placeP first (putAt la i, dropAt la i) (putAt lb i, dropAt lb i) = [⟨(putAt lb i).length, 0, []⟩, ⟨0, 0, putAt la i⟩, ⟨0, 1, []⟩] := by unfold placeP; rw [g1, g2, g3]; rfl
          refine ⟨⟨rfl, trivial⟩, rfl, rfl, rfl, by simp, room1 _ (by simp only [List.length_append, List.length_map, List.length_cons, List.length_nil]; omega), ?_⟩
          refine ⟨⟨by omega, by omega⟩, ?_⟩
          show Goes _ _ _ _
          refine next (i + 1, bump (bump g)) _ _ ⟨hi, by simp only; omega, ⟨⟨rfl, rfl⟩, ⟨?_, rfl⟩, ⟨rfl, rfl⟩, ⟨rfl, rfl⟩, ⟨rfl, rfl⟩, trivial⟩, ⟨⟨rfl, rfl⟩, ⟨rfl, rfl⟩, ⟨?_, rfl⟩, trivial⟩⟩
          · exact congrArg (V.osl (.loc 2) (bump (bump g)) 0) (by rw [hsn, hQ, List.length_append, List.length_append, List.length_map]; rfl)
          · exact congrArg (fun z => some (HObj.vec (bump (bump g)) 3 z)) (by rw [hsn, hQ, List.map_append, List.append_assoc]; rfl)
        · have hQ : placeP first (putAt la i, dropAt la i) (putAt lb i, dropAt lb i) = [⟨(putAt lb i).length, 0, []⟩, ⟨0, 0, putAt la i⟩, ⟨1, 0, []⟩] := by unfold placeP; rw [g1, g2, g3]; rfl
          refine ⟨⟨rfl, trivial⟩, rfl, rfl, rfl, by simp, room1 _ (by simp only [List.length_append, List.length_map, List.length_cons, List.length_nil]; omega), ?_⟩
          refine ⟨⟨by omega, by omega⟩, ?_⟩
          show Goes _ _ _ _
          refine next (i + 1, bump (bump g)) _ _ ⟨hi, by simp only; omega, ⟨⟨rfl, rfl⟩, ⟨?_, rfl⟩, ⟨rfl, rfl⟩, ⟨rfl, rfl⟩, ⟨rfl, rfl⟩, trivial⟩, ⟨⟨rfl, rfl⟩, ⟨rfl, rfl⟩, ⟨?_, rfl⟩, trivial⟩⟩
          · exact congrArg (V.osl (.loc 2) (bump (bump g)) 0) (by rw [hsn, hQ, List.length_append, List.length_append, List.length_map]; rfl)
          · exact congrArg (fun z => some (HObj.vec (bump (bump g)) 3 z)) (by rw [hsn, hQ, List.map_append, List.append_assoc]; rfl)
  · have hi : i = n + 1 := by have := not_lt_of hge; simp at this; omega
    subst hi
    have e1 : (viewP la n).take (n + 1) = viewP la n := List.take_of_length_le (by omega)
    have e2 : (viewP lb n).take (n + 1) = viewP lb n := List.take_of_length_le (by omega)
    have hnorm' : Pure Tryz.prog 168 [.sl 3 ((placesP first ((viewP la n).take (n + 1)) ((viewP lb n).take (n + 1))).map pieceV)] (fun x => x = piecesV (normP (placesP first (viewP la n) (viewP lb n)))) := by
      rw [e1, e2]
      exact hnorm
    show CallThen _ _ _ _ _ _
    refine call_pure_frz ?_
    refine ⟨rfl, by simp, _, hnorm', rfl, ?_⟩
    rintro x rfl
    exact ⟨trivial, rfl, rfl, rfl, _, Wk.refl _, rfl, rfl⟩

/-! ### Transform -/
theorem norm_big {l : List PieceT} (h : ∀ p ∈ l, p.Nn) (W : Int) (hw : 2 * sumW l ≤ W) : (∀ p ∈ normP l, p.Nn) ∧ sumW (normP l) ≤ W ∧ ((normP l).length : Int) ≤ W ∧ ∀ p ∈ normP l, (p.put.length : Int) ≤ W := by
  obtain ⟨q1, q2⟩ := foldl_ok (l := l) Mk.nil_ok h
  have d1 := q1.k
  have d5 : Mk.nil.w = 0 := rfl
  have d6 : (l.foldl Mk.piece Mk.nil).w = (l.foldl Mk.piece Mk.nil).keep + sumW (normP l) := rfl
  have d2 : ((normP l).length : Int) ≤ sumW (normP l) := sumW_len q1.l
  refine ⟨q1.l, by omega, by omega, fun p hp => ?_⟩
  have h1 := sumW_mem q1.l p hp
  have h2 := (q1.l p hp).k
  have h3 := (q1.l p hp).d
  unfold PieceT.w at h1
  have h1 : p.keep + p.drop + p.put.length + 1 ≤ sumW (normP l) := h1
  omega
def TrV (r : List PieceT × List PieceT × Int) : V := .tup [piecesV r.1, piecesV r.2.1, .int .i64 r.2.2]
theorem leafT {r : List PieceT × List PieceT × Int} {e : Int} (h : r = ([], [], e)) : ∃ y, Wk (.tup [.nilsl, .nilsl, .int .i64 e]) y ∧ y.pureB = true ∧ y = TrV r := ⟨TrV ([], [], e), Wk.tup ⟨Wk.nil 3, Wk.nil 3, .refl _, trivial⟩, rfl, by rw [h]⟩
set_option pp.maxSteps 300 in
set_option maxHeartbeats 2000000 in
set_option maxRecDepth 100000 in
theorem w_ref5Trans (a b : List PieceT) (prior : Bool) (la : a.length ≤ 1000000) (lb : b.length ≤ 1000000) (pa : ∀ p ∈ a, p.put.length ≤ 1000000000) (pb : ∀ p ∈ b, p.put.length ≤ 1000000000) :
    Pure Tryz.prog 222 [piecesV a, piecesV b, .bool prior] (fun x => x = TrV (transP a b prior)) := by
  rw [← transR_eq]
  obtain ⟨R, hR⟩ : ∃ R, transR a b prior = R := ⟨_, rfl⟩
  rw [hR]
  refine pure_wk (pure_fn 100 Tryz.func222 rfl rfl rfl fun B => ?_)
  show CallThen _ _ _ _ _ _
  refine call_pure (w_refRight a la pa) rfl ?_
  rintro x rfl
  refine ⟨fun g1 => go 100 ?_, fun g1 => go 100 ?_⟩
  · have g1 : rightP a = false := by simpa using g1
    exact ⟨trivial, rfl, rfl, rfl, leafT (by rw [← hR]; unfold transR; rw [g1]; rfl)⟩
  have ra : rightP a = true := by simpa using g1
  show CallThen _ _ _ _ _ _
  refine call_pure (w_refRight b lb pb) rfl ?_
  rintro x rfl
  refine ⟨fun g2 => go 100 ?_, fun g2 => go 100 ?_⟩
  · have g2 : rightP b = false := by simpa using g2
    exact ⟨trivial, rfl, rfl, rfl, leafT (by rw [← hR]; unfold transR; rw [ra, g2]; rfl)⟩
  have rb : rightP b = true := by simpa using g2
  obtain ⟨na, wa⟩ := right_nn ra
  obtain ⟨nb, wb⟩ := right_nn rb
  have ca := w_ref5norm a na (by omega)
  have cb := w_ref5norm b nb (by omega)
  obtain ⟨qa1, qa2, _, _⟩ := norm_big na 40000000000 (by omega)
  obtain ⟨qb1, qb2, _, _⟩ := norm_big nb 40000000000 (by omega)
  have rna := norm_rn ra
  have rnb := norm_rn rb
  have hT : R = bif !rightP (normP (placesP prior (viewP (normP a) (max (extN (normP a)) (extN (normP b)))) (viewP (normP b) (max (extN (normP a)) (extN (normP b)))))) || !rightP (normP (placesP (!prior) (viewP (normP b) (max (extN (normP a)) (extN (normP b)))) (viewP (normP a) (max (extN (normP a)) (extN (normP b)))))) then ([], [], 3) else (normP (placesP prior (viewP (normP a) (max (extN (normP a)) (extN (normP b)))) (viewP (normP b) (max (extN (normP a)) (extN (normP b))))), normP (placesP (!prior) (viewP (normP b) (max (extN (normP a)) (extN (normP b)))) (viewP (normP a) (max (extN (normP a)) (extN (normP b))))), 0) := by
    rw [← hR]
    unfold transR
    rw [ra, rb]
    rfl
  have ea := extN_le qa1
  have eb := extN_le qb1
  have cea := w_ref5Extent _ qa1 (by omega)
  have ceb := w_ref5Extent _ qb1 (by omega)
  generalize normP a = A at *
  generalize normP b = B' at *
  obtain ⟨N, hN⟩ : ∃ N, max (extN A) (extN B') = N := ⟨_, rfl⟩
  rw [hN] at hT
  have hmax : (if ((extN B' : Nat) : Int) > ((extN A : Nat) : Int) then ((extN B' : Nat) : Int) else ((extN A : Nat) : Int)) = (N : Int) := by
    split <;> omega
  have cva := w_view A N rna (by omega) (by omega) (by omega)
  have cvb := w_view B' N rnb (by omega) (by omega) (by omega)
  have cx := w_behind5 A B' N prior rna rnb (by omega) (by omega) (by omega)
  have cy := w_behind5 B' A N (!prior) rnb rna (by omega) (by omega) (by omega)
  have sA := sumL_view rna N
  have sB := sumL_view rnb N
  have lA := viewP_len A N
  have lB := viewP_len B' N
  obtain ⟨x1, _, x3⟩ := places_nn prior (viewP A N) (viewP B' N)
  obtain ⟨y1, _, y3⟩ := places_nn (!prior) (viewP B' N) (viewP A N)
  obtain ⟨_, _, x4, x5⟩ := norm_big x1 1000000000000 (by omega)
  obtain ⟨_, _, y4, y5⟩ := norm_big y1 1000000000000 (by omega)
  have crx := w_refRightW (normP (placesP prior (viewP A N) (viewP B' N))) (by omega) (fun p hp => by have := x5 p hp; omega)
  have cry := w_refRightW (normP (placesP (!prior) (viewP B' N) (viewP A N))) (by omega) (fun p hp => by have := y5 p hp; omega)
  generalize normP (placesP prior (viewP A N) (viewP B' N)) = X at *
  generalize normP (placesP (!prior) (viewP B' N) (viewP A N)) = Y at *
  show CallThen _ _ _ _ _ _
  refine call_pure ca rfl ?_
  rintro x rfl
  show CallThen _ _ _ _ _ _
  refine call_pure cb rfl ?_
  rintro x rfl
  show CallThen _ _ _ _ _ _
  refine call_pure cea rfl ?_
  rintro x rfl
  show CallThen _ _ _ _ _ _
  refine call_pure ceb rfl ?_
  rintro x rfl
  have cva' : Pure Tryz.prog 242 [piecesV A, .int .i64 (if ((extN B' : Nat) : Int) > ((extN A : Nat) : Int) then ((extN B' : Nat) : Int) else ((extN A : Nat) : Int))] (fun x => x = viewV A N) := by rw [hmax]; exact cva
  have cvb' : Pure Tryz.prog 242 [piecesV B', .int .i64 (if ((extN B' : Nat) : Int) > ((extN A : Nat) : Int) then ((extN B' : Nat) : Int) else ((extN A : Nat) : Int))] (fun x => x = viewV B' N) := by rw [hmax]; exact cvb
  show CallThen _ _ _ _ _ _
  refine call_pure cva' rfl ?_
  rintro x rfl
  show CallThen _ _ _ _ _ _
  refine call_pure cvb' rfl ?_
  rintro x rfl
  show Goes _ _ _ _
  refine goes_draw 60 ⟨_, cx, rfl, _, cy, rfl, ?_⟩
  refine ⟨by kernel_rfl, ?_⟩
  show CallThen _ _ _ _ _ _
  refine call_pure crx rfl ?_
  rintro x rfl
  refine ⟨fun g3 => go 100 ?_, fun g3 => go 100 ?_⟩
  · have g3 : rightP X = false := by simpa using g3
    exact ⟨trivial, rfl, rfl, rfl, leafT (by rw [hT, g3]; rfl)⟩
  have g3 : rightP X = true := by simpa using g3
  show CallThen _ _ _ _ _ _
  refine call_pure cry rfl ?_
  rintro x rfl
  refine ⟨fun g4 => go 100 ?_, fun g4 => go 100 ?_⟩
  · have g4 : rightP Y = false := by simpa using g4
    exact ⟨trivial, rfl, rfl, rfl, leafT (by rw [hT, g3, g4]; rfl)⟩
  have g4 : rightP Y = true := by simpa using g4
  exact ⟨trivial, rfl, rfl, rfl, TrV (X, Y, 0), Wk.refl _, rfl, by rw [hT, g3, g4]; rfl⟩
end Bow
/- W71: the document's answer of chapter 12: what becomes of an operation behind another one. -/
namespace Bow
open Go Go.Proofs

theorem w_one (o : OpT) : Pure Tryz.prog 218 [opV o] (fun x => x = opsV [o]) := by
  refine pure_fn 300 Tryz.func218 rfl rfl rfl fun B => ?_
  refine ⟨⟨rfl, trivial⟩, ?_⟩
  exact ⟨trivial, rfl, rfl, rfl, rfl, rfl, rfl⟩
theorem w_keep (h : Bool) (l : List OpT) : Pure Tryz.prog 221 [.bool h, opsV l] (fun x => x = opsV (bif h then l else [])) := by
  refine pure_wk (pure_fn 300 Tryz.func221 rfl rfl rfl fun B => ?_)
  refine ⟨fun g => go 300 ?_, fun g => go 300 ?_⟩
  · have g : h = false := by simpa using g
    exact ⟨trivial, rfl, rfl, rfl, opsV [], Wk.nil 11, rfl, by rw [g]; rfl⟩
  · have g : h = true := by simpa using g
    exact ⟨trivial, rfl, rfl, rfl, opsV l, Wk.refl _, rfl, by rw [g]; rfl⟩
theorem w_drop12 (p : List Int) : Pure Tryz.prog 219 [pathV p] (fun x => x = opV (dropO p)) := by
  refine pure_wk (pure_fn 300 Tryz.func219 rfl rfl rfl fun B => ?_)
  exact ⟨trivial, rfl, rfl, rfl, opV (dropO p), Wk.agg ⟨.refl _, .refl _, .refl _, Wk.nil 1, .refl _, Wk.ff, .refl _, .refl _, .refl _, Wk.ff, Wk.nil 3, trivial⟩, rfl, rfl⟩
set_option maxRecDepth 100000 in
theorem w_Sound12 (o : OpT) (ho : o.Ok) : Pure Tryz.prog 182 [opV o] (fun x => x = .bool (soundO o)) := by
  refine pure_wk (pure_fn 300 Tryz.func182 rfl rfl rfl fun B => ?_)
  have hW := w_refWithin o.path o.to ho.lt.path
  show CallThen _ _ _ _ _ _
  refine call_pure (w_refFormed o ho.lt ho.each) rfl ?_
  rintro x rfl
  repeat' first
    | (refine ⟨fun _ => go 300 ?_, fun _ => go 300 ?_⟩)
    | (show CallThen _ _ _ _ _ _; refine call_pure hW rfl ?_; rintro z rfl)
    | (refine ⟨trivial, rfl, rfl, rfl, leaf_tt ?_⟩)
    | (refine ⟨trivial, rfl, rfl, rfl, leaf_ff ?_⟩)
    | (refine ⟨trivial, rfl, rfl, rfl, leaf_b ?_⟩)
    | fail
  all_goals clear hW
  all_goals (unfold soundO; cases hf : formedB o with
    | false => simp_all
    | true => rcases formed_kinds hf with k | k | k | k | k | k <;> simp_all <;> (try intro _) <;> exact List.length_pos_iff.2 (by assumption))

theorem gapP_node (o : OpT) (p : List Int) (n : Int) (f : Bool) : (gapP o p n f).1 = (nodeP o p).getD [] := by
  unfold gapP
  cases nodeP o p with
  | none => rfl
  | some q => cases movesO o <;> rfl
set_option maxHeartbeats 4000000 in
set_option maxRecDepth 100000 in
theorem w_row9 (b a : OpT) (prior : Bool) (ha : a.Ok) (_ : b.Ok) (hf : formedB b = true) :
    Pure Tryz.prog 223 [opV b, opV a, .bool prior] (fun x => x = opV (shiftedO b a prior)) := by
  have hpl := may_len (formed_path hf)
  have hps := may_step (formed_path hf)
  refine pure_fn 300 Tryz.func223 rfl rfl rfl fun B => ?_
  refine ⟨fun g1 => go 300 ?_, fun g1 => go 300 ?_⟩
  · have hk : b.kind = 1 := eq_of g1
    have hg := formed_gap hf (.inl hk)
    show CallThen _ _ _ _ _ _
    refine call_pure (w_refGap a b.path b.at_ prior ha (by omega) hps ⟨by omega, by omega⟩) rfl ?_
    rintro x rfl
    refine ⟨trivial, rfl, rfl, rfl, ?_⟩
    have e := gapP_node a b.path b.at_ prior
    unfold shiftedO
    rw [decide_eq_true hk, ← e]
    rfl
  have hk1 : b.kind ≠ 1 := ne_of g1
  refine ⟨fun g2 => go 300 ?_, fun g2 => go 300 ?_⟩
  · have hk : b.kind = 3 := eq_of g2
    have hg := formed_gap hf (.inr hk)
    have htl := may_len (good_to hf hk)
    have hts := may_step (good_to hf hk)
    show CallThen _ _ _ _ _ _
    refine call_pure (w_refNode a b.path ha (by omega) hps) rfl ?_
    rintro x rfl
    show CallThen _ _ _ _ _ _
    refine call_pure (w_refGap a b.to b.at_ prior ha (by omega) hts ⟨by omega, by omega⟩) rfl ?_
    rintro x rfl
    refine ⟨trivial, rfl, rfl, rfl, ?_⟩
    unfold shiftedO
    rw [decide_eq_false hk1, decide_eq_true hk]
    rfl
  · have hk3 : b.kind ≠ 3 := ne_of g2
    show CallThen _ _ _ _ _ _
    refine call_pure (w_refNode a b.path ha (by omega) hps) rfl ?_
    rintro x rfl
    refine ⟨trivial, rfl, rfl, rfl, ?_⟩
    unfold shiftedO
    rw [decide_eq_false hk1, decide_eq_false hk3]
    rfl

theorem leafO {l r : List OpT} (h : r = l) : ∃ y, Wk (opsV l) y ∧ y.pureB = true ∧ y = opsV r := ⟨opsV r, by rw [h]; exact Wk.refl _, rfl, rfl⟩
set_option maxHeartbeats 4000000 in
set_option maxRecDepth 100000 in
theorem w_twoMoves (b a : OpT) (prior : Bool) (ha : a.Ok) (hb : b.Ok) (fa : formedB a = true) (fb : formedB b = true) (ka : a.kind = 3) (kb : b.kind = 3) :
    Pure Tryz.prog 220 [opV b, opV a, .bool prior] (fun x => x = opsV (rowO b a prior)) := by
  have pa := may_len (formed_path fa)
  have pb := may_len (formed_path fb)
  have hrow : rowO b a prior = bif decide (a.path = b.path) then (bif prior then [shiftedO b a prior] else []) else bif within b.path a.to && within a.path b.to then (bif prior then [undoO a, b] else []) else [shiftedO b a prior] := by
    unfold rowO wonO
    rw [ka, kb]
    simp
  have h9 := w_row9 b a prior ha hb fb
  have c1 := w_refSame a.path b.path (by omega)
  have c2 := w_refWithin b.path a.to (by omega)
  have c3 := w_refWithin a.path b.to (by omega)
  have ck1 := w_keep prior [shiftedO b a prior]
  have ck2 := w_keep prior [undoO a, b]
  rw [hrow]
  clear hrow
  refine pure_wk (pure_fn 300 Tryz.func220 rfl rfl rfl fun B => ?_)
  show CallThen _ _ _ _ _ _
  refine call_pure c1 rfl ?_
  rintro x rfl
  refine ⟨fun g1 => go 300 ?_, fun g1 => go 300 ?_⟩
  · show CallThen _ _ _ _ _ _
    refine call_pure h9 rfl ?_
    rintro x rfl
    show CallThen _ _ _ _ _ _
    refine call_pure (w_one _) rfl ?_
    rintro x rfl
    show CallThen _ _ _ _ _ _
    refine call_pure ck1 rfl ?_
    rintro x rfl
    exact ⟨trivial, rfl, rfl, rfl, leafO (by rw [g1]; rfl)⟩
  show CallThen _ _ _ _ _ _
  refine call_pure c2 rfl ?_
  rintro x rfl
  refine ⟨fun g2 => go 300 ?_, fun g2 => go 300 ?_⟩
  · show CallThen _ _ _ _ _ _
    refine call_pure c3 rfl ?_
    rintro x rfl
    refine ⟨fun g3 => go 300 ?_, fun g3 => go 300 ?_⟩
    · show Goes _ _ _ _
      refine goes_draw 300 ⟨_, w_ref11Undo a ha, rfl, rfl, ⟨rfl, rfl, trivial⟩, by kernel_rfl, rfl, rfl, _, ck2, rfl, ?_⟩
      refine ⟨by kernel_rfl, ?_⟩
      exact ⟨trivial, rfl, rfl, rfl, leafO (by rw [g1, g2, g3]; rfl)⟩
    · show CallThen _ _ _ _ _ _
      refine call_pure h9 rfl ?_
      rintro x rfl
      show CallThen _ _ _ _ _ _
      refine call_pure (w_one _) rfl ?_
      rintro x rfl
      exact ⟨trivial, rfl, rfl, rfl, leafO (by rw [g1, g2, g3]; rfl)⟩
  · show CallThen _ _ _ _ _ _
    refine call_pure h9 rfl ?_
    rintro x rfl
    show CallThen _ _ _ _ _ _
    refine call_pure (w_one _) rfl ?_
    rintro x rfl
    exact ⟨trivial, rfl, rfl, rfl, leafO (by rw [g1, g2]; rfl)⟩
def RowV (l : List OpT) : V := .tup [opsV l, .int .i64 0]
theorem leafR {l r : List OpT} (h : r = l) : ∃ y, Wk (.tup [opsV l, .int .i64 0]) y ∧ y.pureB = true ∧ y = RowV r := ⟨RowV r, by rw [h]; exact Wk.refl _, rfl, rfl⟩
theorem leafR0 {r : List OpT} (h : r = []) : ∃ y, Wk (.tup [.nilsl, .int .i64 0]) y ∧ y.pureB = true ∧ y = RowV r := ⟨RowV [], Wk.tup ⟨Wk.nil 11, .refl _, trivial⟩, rfl, by rw [h]⟩
theorem node_idle {a : OpT} (h : a.kind ≠ 1 ∧ a.kind ≠ 2 ∧ a.kind ≠ 3) : movesO a = false := by
  unfold movesO
  rw [decide_eq_false h.1, decide_eq_false h.2.1, decide_eq_false h.2.2]
  simp
/-- Behind an operation that moves no node nothing is shifted. -/
theorem shifted_idle {a : OpT} (b : OpT) (p : Bool) (h : a.kind ≠ 1 ∧ a.kind ≠ 2 ∧ a.kind ≠ 3) : shiftedO b a p = b := by
  have hm := node_idle h
  have hg : ∀ q n f, gapP a q n f = (q, n, true) := fun q n f => by unfold gapP; rw [node_still q hm, hm]; rfl
  unfold shiftedO
  rw [node_still b.path hm, hg, hg]
  simp only [Option.getD_some]
  cases decide (b.kind = 1) <;> cases decide (b.kind = 3) <;> rfl
theorem within_eq {p q : List Int} (h : within p q = true) (hl : q.length ≤ p.length) : p = q := by
  unfold within at h
  rw [List.take_of_length_le hl] at h
  exact of_decide_eq_true h
theorem eqB {a b : Int} {p : Prop} (h : (a = b) → p) (g : decide (a = b) = true) : p := h (eq_of g)
theorem neB {a b : Int} {p : Prop} (h : (a ≠ b) → p) (g : decide (a = b) = false) : p := h (ne_of g)
set_option maxHeartbeats 8000000 in
set_option maxRecDepth 100000 in
theorem w_behind12 (b a : OpT) (prior : Bool) (ha : a.Ok) (hb : b.Ok) (sa : soundO a = true) (sb : soundO b = true) (he : bothEdit b a = false) :
    Pure Tryz.prog 183 [opV b, opV a, .bool prior] (fun x => x = RowV (rowO b a prior)) := by
  have fa : formedB a = true := by unfold soundO at sa; rw [Bool.and_eq_true] at sa; exact sa.1
  have fb : formedB b = true := by unfold soundO at sb; rw [Bool.and_eq_true] at sb; exact sb.1
  have pa := may_len (formed_path fa)
  have pb := may_len (formed_path fb)
  have qa := may_step (formed_path fa)
  have qb := may_step (formed_path fb)
  have ka := formed_kinds fa
  have kb := formed_kinds fb
  have h9 := w_row9 b a prior ha hb fb
  have c1 := w_refSame a.path b.path (by omega)
  have c2 := w_refWithin a.path b.path (by omega)
  have c3 := w_refWithin a.path b.to (by omega)
  have c4 := w_refWithin b.path a.path (by omega)
  have c5 := w_refWithin b.path a.to (by omega)
  have n1 := w_refNode a b.path ha (by omega) qb
  have n2 := w_refNode a a.path ha (by omega) qa
  have hna := nodeP_len64 a a.path
  have hnb := nodeP_len64 a b.path
  have hqs := node_steps (a := a) (p := b.path) (may_strict (formed_path fb))
  have d1 := w_drop12 ((nodeP a b.path).getD [])
  have d2 := w_drop12 ((nodeP a a.path).getD [])
  have n3 := w_refNode (dropO ((nodeP a a.path).getD [])) ((nodeP a b.path).getD []) (drop_ok (by omega)) (by omega) hqs
  have d3 := w_drop12 ((nodeP (dropO ((nodeP a a.path).getD [])) ((nodeP a b.path).getD [])).getD [])
  have o1 := w_one (shiftedO b a prior)
  have o2 := w_one b
  have o3 := w_one (dropO ((nodeP a b.path).getD []))
  have k1 := w_keep prior [b]
  have len : ∀ p : List Int, (List.map intV p).length = p.length := fun p => List.length_map _
  refine pure_wk (pure_fn 100 Tryz.func183 rfl rfl rfl fun B => ?_)
  repeat' first
    | (refine ⟨fun g => absurd (eq_of g) (by omega), fun _ => go 100 ?_⟩)
    | (refine ⟨fun _ => go 100 ?_, fun g => absurd (by omega) (ne_of g)⟩)
    | (refine ⟨fun g => absurd (lt_of g) (by simp only [len]; omega), fun _ => go 100 ?_⟩)
    | (refine ⟨eqB fun k => go 100 ?_, neB fun k => go 100 ?_⟩)
    | (refine ⟨fun _ => go 100 ?_, fun _ => go 100 ?_⟩)
    | (show CallThen _ _ _ _ _ _; refine call_pure c1 rfl ?_; rintro z rfl)
    | (show CallThen _ _ _ _ _ _; refine call_pure c2 rfl ?_; rintro z rfl)
    | (show CallThen _ _ _ _ _ _; refine call_pure c3 rfl ?_; rintro z rfl)
    | (show CallThen _ _ _ _ _ _; refine call_pure c4 rfl ?_; rintro z rfl)
    | (show CallThen _ _ _ _ _ _; refine call_pure c5 rfl ?_; rintro z rfl)
    | (show CallThen _ _ _ _ _ _; refine call_pure n1 rfl ?_; rintro z rfl)
    | (show CallThen _ _ _ _ _ _; refine call_pure n2 rfl ?_; rintro z rfl)
    | (show CallThen _ _ _ _ _ _; refine call_pure n3 rfl ?_; rintro z rfl)
    | (show CallThen _ _ _ _ _ _; refine call_pure d1 rfl ?_; rintro z rfl)
    | (show CallThen _ _ _ _ _ _; refine call_pure d2 rfl ?_; rintro z rfl)
    | (show CallThen _ _ _ _ _ _; refine call_pure d3 rfl ?_; rintro z rfl)
    | (show CallThen _ _ _ _ _ _; refine call_pure h9 rfl ?_; rintro z rfl)
    | (show CallThen _ _ _ _ _ _; refine call_pure o1 rfl ?_; rintro z rfl)
    | (show CallThen _ _ _ _ _ _; refine call_pure o2 rfl ?_; rintro z rfl)
    | (show CallThen _ _ _ _ _ _; refine call_pure o3 rfl ?_; rintro z rfl)
    | (show CallThen _ _ _ _ _ _; refine call_pure k1 rfl ?_; rintro z rfl)
    | (show CallThen _ _ _ _ _ _; refine call_pure (w_twoMoves b a prior ha hb fa fb (by omega) (by omega)) rfl ?_; rintro z rfl)
    | (refine ⟨trivial, rfl, rfl, rfl, leafR0 ?_⟩)
    | (refine ⟨trivial, rfl, rfl, rfl, leafR ?_⟩)
    | (refine ⟨⟨rfl, rfl, trivial⟩, ?_⟩; refine ⟨trivial, rfl, rfl, rfl, rfl, rfl, leafR (l := [dropO ((nodeP a a.path).getD []), dropO ((nodeP (dropO ((nodeP a a.path).getD [])) ((nodeP a b.path).getD [])).getD [])]) ?_⟩)
    | fail
  all_goals clear c1 c2 c3 c4 c5 n1 n2 n3 d1 d2 d3 o1 o2 o3 k1 h9
  all_goals try rfl
  all_goals try (exfalso; have hk6 : a.kind = 6 := (by omega); unfold bothEdit at he; simp_all; done)
  all_goals (unfold rowO wonO)
  all_goals try (simp_all; done)
  all_goals first
    | (have hid : shiftedO b a prior = b := shifted_idle b prior ⟨by omega, by omega, by omega⟩; rw [hid]; simp_all; done)
    | (have hne : ¬ b.path = a.path := (by intro e; simp_all); simp_all; done)
    | (cases hw : within b.path a.path with
       | false => simp_all
       | true =>
         have hl := within_len hw
         have hge : a.path.length ≤ b.path.length := by simp_all
         have heq := within_eq hw hge
         simp_all)
set_option pp.maxSteps 300 in
set_option maxHeartbeats 4000000 in
set_option maxRecDepth 100000 in
theorem w_behind12E (b a : OpT) (prior : Bool) (_ : a.Ok) (_ : b.Ok) (sa : soundO a = true) (sb : soundO b = true) (he : bothEdit b a = true) :
    Pure Tryz.prog 183 [opV b, opV a, .bool prior] (fun x => x = .tup [opsV [editO b a prior], .int .i64 (transP b.pieces a.pieces prior).2.2]) := by
  unfold bothEdit at he
  simp only [Bool.and_eq_true, decide_eq_true_eq] at he
  obtain ⟨k1, k2, k3⟩ := he
  have fa : formedB a = true := by unfold soundO at sa; rw [Bool.and_eq_true] at sa; exact sa.1
  have fb : formedB b = true := by unfold soundO at sb; rw [Bool.and_eq_true] at sb; exact sb.1
  have pa := may_len (formed_path fa)
  obtain ⟨l1, l2⟩ := right_bounds (formed_pieces fa k1)
  obtain ⟨l3, l4⟩ := right_bounds (formed_pieces fb k2)
  have ct := w_ref5Trans b.pieces a.pieces prior (by omega) (by omega) l4 l2
  have c1 := w_refSame a.path b.path (by omega)
  rw [decide_eq_true k3] at c1
  have o1 := w_one (editO b a prior)
  have ee : editO b a prior = { b with pieces := (transP b.pieces a.pieces prior).1 } := rfl
  rw [ee] at o1 ⊢
  clear ee
  obtain ⟨⟨r1, r2, e⟩, hr⟩ : ∃ r, transP b.pieces a.pieces prior = r := ⟨_, rfl⟩
  rw [hr] at ct o1 ⊢
  refine pure_fn 100 Tryz.func183 rfl rfl rfl fun B => ?_
  refine ⟨fun g => go 100 ?_, fun g => absurd (by omega) (ne_of g)⟩
  show CallThen _ _ _ _ _ _
  refine call_pure c1 rfl ?_
  rintro x rfl
  refine ⟨fun g => absurd (eq_of g) (by omega), fun _ => go 100 ?_⟩
  refine ⟨fun g => absurd (eq_of g) (by omega), fun _ => go 100 ?_⟩
  refine ⟨fun g => absurd (eq_of g) (by omega), fun _ => go 100 ?_⟩
  refine ⟨fun g => absurd (eq_of g) (by omega), fun _ => go 100 ?_⟩
  refine ⟨fun _ => go 100 ?_, fun g => (by cases g)⟩
  refine ⟨fun g => absurd (eq_of g) (by omega), fun _ => go 100 ?_⟩
  refine ⟨fun _ => go 100 ?_, fun g => (by cases g)⟩
  refine ⟨fun g => absurd (eq_of g) (by omega), fun _ => go 100 ?_⟩
  refine ⟨fun _ => go 100 ?_, fun g => (by cases g)⟩
  refine ⟨fun _ => go 100 ?_, fun g => absurd (by omega) (ne_of g)⟩
  show CallThen _ _ _ _ _ _
  refine call_pure ct rfl ?_
  rintro x rfl
  show CallThen _ _ _ _ _ _
  refine call_pure o1 rfl ?_
  rintro x rfl
  exact ⟨trivial, rfl, rfl, rfl, rfl⟩
end Bow
/- W72: the document's Behind and Both (chapter 12); the law SquareBehind, walked. -/
namespace Bow
open Go Go.Proofs

theorem row_ok' {b a : OpT} {prior : Bool} (ha : a.Ok) (hb : b.Ok) (sa : soundO a = true) (sb : soundO b = true) (hto : a.to.length ≤ 1000 ∧ b.to.length ≤ 1000) : ∀ o ∈ rowO b a prior, o.Ok := by
  have fa : formedB a = true := by unfold soundO at sa; rw [Bool.and_eq_true] at sa; exact sa.1
  have fb : formedB b = true := by unfold soundO at sb; rw [Bool.and_eq_true] at sb; exact sb.1
  have pa := may_len (formed_path fa)
  have pb := may_len (formed_path fb)
  exact row_ok (prior := prior) ha hb (by omega) (by omega) hto.1 hto.2
/-- What behind hands to Behind. -/
def rowX (b a : OpT) (prior : Bool) : List OpT × Int := bif bothEdit b a then ([editO b a prior], (transP b.pieces a.pieces prior).2.2) else (rowO b a prior, 0)
theorem w_behind12X (b a : OpT) (prior : Bool) (ha : a.Ok) (hb : b.Ok) (sa : soundO a = true) (sb : soundO b = true) :
    Pure Tryz.prog 183 [opV b, opV a, .bool prior] (fun x => x = BehV (rowX b a prior)) := by
  unfold rowX
  cases he : bothEdit b a with
  | false => exact w_behind12 b a prior ha hb sa sb he
  | true => exact w_behind12E b a prior ha hb sa sb he
theorem rowX_len (b a : OpT) (prior : Bool) : (rowX b a prior).1.length ≤ 2 := by
  unfold rowX
  cases bothEdit b a with
  | false => exact row_len b a prior
  | true => exact Nat.le_succ _
theorem behX_rowX {b a : OpT} {prior : Bool} (sa : soundO a = true) (sb : soundO b = true) : behindX b a prior = bif !decide ((rowX b a prior).2 = 0) then ([], 3) else bif (rowX b a prior).1.all formedB then (bareL (rowX b a prior).1, 0) else ([], 3) := by
  unfold behindX rowX
  cases bothEdit b a with
  | false =>
    unfold behindO
    rw [sa, sb]
    rfl
  | true =>
    simp only [cond_true]
    unfold behindE
    rw [sa, sb]
    simp only [Bool.not_true, Bool.or_self, cond_false]
    cases decide ((transP b.pieces a.pieces prior).2.2 = 0) with
    | false => rfl
    | true =>
      simp only [Bool.true_and, Bool.not_true, cond_false, List.all_cons, List.all_nil, Bool.and_true]
      rfl
set_option pp.maxSteps 300 in
set_option maxHeartbeats 4000000 in
set_option maxRecDepth 100000 in
theorem w_refBehind (b a : OpT) (prior : Bool) (ha : a.Ok) (hb : b.Ok) (hto : a.to.length ≤ 1000 ∧ b.to.length ≤ 1000) :
    Pure Tryz.prog 143 [opV b, opV a, .bool prior] (fun x => x = BehV (behindX b a prior)) := by
  obtain ⟨R, hR⟩ : ∃ R, behindX b a prior = R := ⟨_, rfl⟩
  rw [hR]
  refine pure_wk (pure_fn 300 Tryz.func143 rfl rfl rfl fun B => ?_)
  show CallThen _ _ _ _ _ _
  refine call_pure (w_Sound12 a ha) rfl ?_
  rintro x rfl
  refine ⟨fun g1 => go 300 ?_, fun g1 => go 300 ?_⟩
  · have g1 : soundO a = false := by simpa using g1
    exact ⟨trivial, rfl, rfl, rfl, behZ' (by rw [← hR, behX_bad (by rw [g1]; rfl)])⟩
  have sa : soundO a = true := by simpa using g1
  show CallThen _ _ _ _ _ _
  refine call_pure (w_Sound12 b hb) rfl ?_
  rintro x rfl
  refine ⟨fun g2 => go 300 ?_, fun g2 => go 300 ?_⟩
  · have g2 : soundO b = false := by simpa using g2
    exact ⟨trivial, rfl, rfl, rfl, behZ' (by rw [← hR, behX_bad (by rw [g2]; simp)])⟩
  have sb : soundO b = true := by simpa using g2
  have hcall := w_behind12X b a prior ha hb sa sb
  have hlen := rowX_len b a prior
  rw [behX_rowX sa sb] at hR
  have hok : ∀ o ∈ (rowX b a prior).1, o.Lt 1000000 ∧ ∀ p ∈ o.pieces, p.put.length ≤ 1000000000 := by
    unfold rowX
    cases bothEdit b a with
    | false => intro o ho; have := row_ok' (prior := prior) ha hb sa sb hto o ho; exact ⟨this.lt, this.each⟩
    | true =>
      intro o ho
      simp only [cond_true, List.mem_singleton] at ho
      subst ho
      exact edit_lt hb
  obtain ⟨⟨l, e⟩, hl⟩ : ∃ r, rowX b a prior = r := ⟨_, rfl⟩
  rw [hl] at hcall hlen hok hR
  simp only at hlen hok hR
  show CallThen _ _ _ _ _ _
  refine call_pure hcall rfl ?_
  rintro x rfl
  refine ⟨fun g3 => go 300 ?_, fun g3 => go 300 ?_⟩
  · have g3 := ne_of' g3
    rw [decide_eq_false g3] at hR
    exact ⟨trivial, rfl, rfl, rfl, behZ' hR.symm⟩
  have g3 := eq_of' g3
  rw [decide_eq_true g3] at hR
  simp only [Bool.not_true, cond_false] at hR
  show Goes _ _ _ _
  refine goes_own 10 11 rfl ?_
  refine goes_iter (ι := Nat × Nat) (fun i => i.1 ≤ l.length ∧ (l.take i.1).all formedB = true) (fun i => l.length - i.1) (fun i => [(11, .int .i64 i.1), (10, .osl (.loc 2) i.2 0 i.1), (8, opsV l)]) (fun i => [some (.box (opV b).cells), some (.box (opV a).cells), some (.vec i.2 11 ((bareL (l.take i.1)).map opV))]) (0, 0) 300 (fun _ => rfl) (fun _ => rfl) ⟨⟨Nat.zero_le _, by simp⟩, ⟨⟨rfl, rfl⟩, ⟨rfl, rfl⟩, ⟨rfl, rfl⟩, trivial⟩, ⟨⟨rfl, rfl⟩, ⟨rfl, rfl⟩, ⟨rfl, rfl⟩, trivial⟩⟩ ?_
  rintro ⟨i, g⟩ ⟨k1, k2⟩ next
  simp only at k1 k2
  have hbl : (bareL (l.take i)).length = i := by simp [bareL]; omega
  refine ⟨fun hlt => go 300 ?_, fun hge => go 300 ?_⟩
  · have hi : i < l.length := by simpa using hlt
    obtain ⟨h1, h2⟩ := hok _ (List.getElem_mem hi)
    refine ⟨Int.natCast_nonneg i, _, op_at hi, ?_⟩
    show CallThen _ _ _ _ _ _
    refine call_pure (w_refFormed l[i] h1 h2) rfl ?_
    rintro x rfl
    refine ⟨fun g4 => go 300 ?_, fun g4 => go 300 ?_⟩
    · have g4 : formedB l[i] = false := by simpa using g4
      have e : l.all formedB = false := List.all_eq_false.2 ⟨l[i], List.getElem_mem hi, by simpa using g4⟩
      rw [e] at hR
      exact ⟨trivial, rfl, rfl, rfl, behZ' hR.symm⟩
    have g4 : formedB l[i] = true := by simpa using g4
    refine ⟨Int.natCast_nonneg i, _, op_at hi, ?_⟩
    show CallThen _ _ _ _ _ _
    refine call_pure (w_refBare l[i] h1) rfl ?_
    rintro x rfl
    refine ⟨⟨rfl, trivial⟩, rfl, rfl, rfl, (by rw [List.length_map]; exact hbl.symm), Nat.le_trans (Nat.mul_le_mul_right _ (show _ ≤ 1000001 by rw [List.length_map, hbl]; simp only [List.length_cons, List.length_nil]; omega)) (by decide), ?_⟩
    refine ⟨by constructor <;> omega, ?_⟩
    show Goes _ _ _ _
    have e : (bareL (l.take (i + 1))).map opV = (bareL (l.take i)).map opV ++ [opV (bareO l[i])] := by
      rw [List.take_succ_eq_append_getElem hi]
      simp only [bareL, List.map_append, List.map_cons, List.map_nil]
    refine next (i + 1, bump g) _ _ ⟨⟨hi, ?_⟩, by simp only; omega, ⟨⟨rfl, rfl⟩, ⟨?_, rfl⟩, ⟨rfl, rfl⟩, trivial⟩, ⟨⟨rfl, rfl⟩, ⟨rfl, rfl⟩, ⟨?_, rfl⟩, trivial⟩⟩
    · simp only
      rw [List.take_succ_eq_append_getElem hi, List.all_append, k2]
      simp [g4]
    · simp only [lk]
      exact congrArg (V.osl _ _ _) (by rw [List.length_map, hbl]; rfl)
    · exact congrArg (fun z => some (HObj.vec (bump g) 11 z)) e.symm
  · have hi : i = l.length := by have : l.length ≤ i := by simpa using hge
                                 omega
    subst hi
    rw [List.take_length] at k2
    rw [k2] at hR
    refine ⟨trivial, rfl, rfl, rfl, by simp [bareL], rfl, BehV R, ?_, rfl, rfl⟩
    rw [← hR]
    show Wk (.tup [.sl 11 ((bareL (l.take l.length)).map opV), .int .i64 0]) _
    rw [List.take_length]
    exact .refl _
set_option maxRecDepth 100000 in
theorem w_refBoth (a b : OpT) (prior : Bool) (ha : a.Ok) (hb : b.Ok) (hto : a.to.length ≤ 1000 ∧ b.to.length ≤ 1000) :
    Pure Tryz.prog 97 [opV a, opV b, .bool prior] (fun x => x = BothV (bothX a b prior)) := by
  refine pure_wk (pure_fn 300 Tryz.func97 rfl rfl rfl fun B => ?_)
  show CallThen _ _ _ _ _ _
  refine call_pure (w_refBehind a b prior hb ha ⟨hto.2, hto.1⟩) rfl ?_
  rintro x rfl
  show CallThen _ _ _ _ _ _
  refine call_pure (w_refBehind b a (!prior) ha hb hto) rfl ?_
  rintro x rfl
  refine ⟨fun g1 => go 300 ?_, fun g1 => go 300 ?_⟩
  · have g1 : (behindX a b prior).2 ≠ 0 := ne_of' g1
    have e : bothX a b prior = ([], [], (behindX a b prior).2) := by unfold bothX; rw [decide_eq_false g1]; rfl
    rw [e]
    exact ⟨trivial, rfl, rfl, rfl, bothZ _⟩
  have g1 : (behindX a b prior).2 = 0 := eq_of' g1
  refine ⟨fun g2 => go 300 ?_, fun g2 => go 300 ?_⟩
  · have g2 : (behindX b a (!prior)).2 ≠ 0 := ne_of' g2
    have e : bothX a b prior = ([], [], (behindX b a (!prior)).2) := by unfold bothX; rw [decide_eq_true g1, decide_eq_false g2]; rfl
    rw [e]
    exact ⟨trivial, rfl, rfl, rfl, bothZ _⟩
  have g2 : (behindX b a (!prior)).2 = 0 := eq_of' g2
  have e : bothX a b prior = ((behindX a b prior).1, (behindX b a (!prior)).1, 0) := by unfold bothX; rw [decide_eq_true g1, decide_eq_true g2]; rfl
  rw [e]
  exact ⟨trivial, rfl, rfl, rfl, BothV _, Wk.refl _, rfl, rfl⟩
end Bow
/- AE47: a function whose named memory nobody looks at any more. -/
namespace Bow
open Go

end Bow
/- W79: the law SquareBoth, walked. -/
namespace Bow
open Go Go.Proofs

theorem OpsOk.add {B N : Base} {zs : List (Ns × OpT)} (h : OpsOk N zs) (hN : ∀ q o, N q = some o → B q = none) : OpsOk (B.add N) zs := h.ext fun q o e => add_new e (hN q o e)
theorem NsShp.names {B : Base} {ns : Ns} {o : OpT} (h : NsShp B ns o) : ∀ q ∈ [ns.p, ns.t, ns.s], ∃ ob, B q = some ob := by
  obtain ⟨⟨xs, h1, _⟩, ⟨ys, h2, _⟩, ⟨zs, h3, _⟩⟩ := h
  intro q hq
  simp only [List.mem_cons, List.not_mem_nil, or_false] at hq
  rcases hq with rfl | rfl | rfl
  · exact ⟨_, h1⟩
  · exact ⟨_, h2⟩
  · exact ⟨_, h3⟩
/-- Names that nobody held ahead. -/
def NewNs (B : Base) (ns : Ns) : Prop := ∀ q ∈ [ns.p, ns.t, ns.s], B q = none
theorem NsOk.fresh {B N : Base} {ns : Ns} {o : OpT} (h : NsOk N ns o) (hN : ∀ q ob, N q = some ob → B q = none) : NewNs B ns := by
  intro q hq
  simp only [List.mem_cons, List.not_mem_nil, or_false] at hq
  rcases hq with rfl | rfl | rfl
  · exact hN _ _ h.path
  · exact hN _ _ h.to
  · exact hN _ _ h.pieces
end Bow
/- W28: the chapter's examples. -/
namespace Bow
open Go Go.Proofs

end Bow
/- W29: the chapter's examples, all. -/
namespace Bow
open Go Go.Proofs

end Bow
/- W30: the laws' functions: TreeopsFormed, TreeopsValid. -/
namespace Bow
open Go Go.Proofs

end Bow
/- W40: the law's function TreeopsApply. -/
namespace Bow
open Go Go.Proofs

end Bow
/- W41: the program's IDs; count. -/
namespace Bow
open Go Go.Proofs

end Bow
/- W42: the law's function TreeopsRight. -/
namespace Bow
open Go Go.Proofs

end Bow
/- W43: the law's function TreeopsAll. -/
namespace Bow
open Go Go.Proofs

end Bow
/- SP18: the paths of a tree's nodes; a move to a gap beside itself; in plain Lean. -/
namespace Bow
open Go

end Bow
/- W44: the paths of all nodes. -/
namespace Bow
open Go Go.Proofs

end Bow
/- SP34: the grove, and all pairs of operations of all kinds on it: both ways round end in the same tree; computed in plain Lean. -/
namespace Bow
open Go

def smallO (o : OpT) : Bool := decide (o.path.length ≤ 100) && (decide (o.to.length ≤ 100) && (decide (o.label.length ≤ 100) && (decide (o.key.length ≤ 100) && (decide (o.value.length ≤ 100) && (decide (o.pieces.length ≤ 100) && decide (putsLen o.pieces ≤ 1000))))))
end Bow
/- W86: bowerkit's Grove and Many; bowerlaw12.closes. -/
namespace Bow
open Go Go.Proofs

theorem wkL_mk {b : Bool} {i : Int} {label text : List UInt8} {ats ks leaf : V} {al : List (List UInt8 × List UInt8)} {ss : List Tree} (hl : Wk leaf (.bool b)) (ha : Wk ats (.sl 2 (al.map attrV))) (hk : Wk ks (.sl 6 (ss.map nodeV))) :
    WkL [.int .u64 i, leaf, .str label, ats, .str text, ks] (nodeV (.mk i b label al text ss)).cells := by
  refine ⟨.refl _, hl, .refl _, ha, .refl _, ?_, trivial⟩
  rw [subV_eq]
  exact hk
theorem small_ok {o : OpT} (h : smallO o = true) : o.Ok := by
  unfold smallO at h
  simp only [Bool.and_eq_true, decide_eq_true_eq] at h
  obtain ⟨h1, h2, h3, h4, h5, h6, h7⟩ := h
  exact ⟨⟨by omega, by omega, by omega, by omega, by omega, by omega⟩, by omega⟩
theorem small_to {o : OpT} (h : smallO o = true) : o.to.length ≤ 100 := by
  unfold smallO at h
  simp only [Bool.and_eq_true, decide_eq_true_eq] at h
  exact h.2.1
theorem ok_all {l : List OpT} (h : l.all smallO = true) : ∀ o ∈ l, o.Ok := fun o ho => small_ok (List.all_eq_true.1 h o ho)

end Bow
/- W95: effects.Corner; what stands of deletes and labels; the chapter's examples; the law EffectsFind. -/
namespace Bow
open Go Go.Proofs

def cornerV (r : Tree × Int) : V := .tup [nodeV r.1, .int .i64 r.2]
set_option maxHeartbeats 4000000 in
set_option maxRecDepth 100000 in
theorem w_Corner (t : Tree) (a b : OpT) (prior : Bool) (ht : t.weight ≤ 100000) (ha : a.Ok) (hb : b.Ok) (hto : a.to.length ≤ 1000 ∧ b.to.length ≤ 1000) (hc : (applyR t a).1.weight + costs (bothX a b prior).2.1 ≤ 400000) (hl : (bothX a b prior).2.1.length ≤ 1000000) (hok : ∀ o ∈ (bothX a b prior).2.1, o.Ok) :
    Pure Tryz.prog 38 [nodeV t, opV a, opV b, .bool prior] (fun x => x = cornerV (cornerT t a b prior)) := by
  have c1 := w_Apply t a (by omega) ha
  have c2 := w_Valid t b (by omega) hb
  have c3 := w_BothX a b prior ha hb hto
  have c4 := w_ApplyAll (applyR t a).1 (bothX a b prior).2.1 hc hl hok
  unfold cornerT
  generalize applyR t a = m at c1 c4 hc
  generalize bothX a b prior = r at c3 c4 hc hl hok
  generalize ValidE t b = v at c2
  obtain ⟨m1, m2⟩ := m
  obtain ⟨r1, r2, r3⟩ := r
  simp only at c4
  obtain ⟨u, hu⟩ : ∃ u, AllR m1 r2 = u := ⟨_, rfl⟩
  rw [hu] at c4
  obtain ⟨u1, u2, u3⟩ := u
  clear hc hl hok
  simp only
  refine pure_wk (pure_fn 60 Tryz.func38 rfl rfl rfl fun B => ?_)
  show CallThen _ _ _ _ _ _
  refine call_pure c1 rfl ?_
  rintro z rfl
  refine ⟨fun q => go 60 ?_, fun q => go 60 ?_⟩
  · have q : m2 = 0 := of_decide_eq_true q
    rw [if_neg (show ¬ m2 ≠ 0 from fun h => h q)]
    show CallThen _ _ _ _ _ _
    refine call_pure c2 rfl ?_
    rintro z rfl
    refine ⟨fun q1 => go 60 ?_, fun q1 => go 60 ?_⟩
    · have q1 : v ≠ 0 := ne_of' q1
      rw [if_pos q1]
      refine ⟨trivial, rfl, rfl, rfl, cornerV (zeroT0, v), ?_, rfl, rfl⟩
      exact Wk.tup ⟨wk_zeroC, .refl _, trivial⟩
    have q1 : v = 0 := eq_of' q1
    rw [if_neg (show ¬ v ≠ 0 from fun h => h q1)]
    show CallThen _ _ _ _ _ _
    refine call_pure c3 rfl ?_
    rintro z rfl
    refine ⟨fun q2 => go 60 ?_, fun q2 => go 60 ?_⟩
    · have q2 : r3 ≠ 0 := ne_of' q2
      rw [if_pos q2]
      refine ⟨trivial, rfl, rfl, rfl, cornerV (zeroT0, r3), ?_, rfl, rfl⟩
      exact Wk.tup ⟨wk_zeroC, .refl _, trivial⟩
    have q2 : r3 = 0 := eq_of' q2
    rw [if_neg (show ¬ r3 ≠ 0 from fun h => h q2)]
    show CallThen _ _ _ _ _ _
    refine call_pure c4 rfl ?_
    rintro z rfl
    exact ⟨trivial, rfl, rfl, rfl, cornerV (u1, u3), .refl _, rfl, by rw [hu]⟩
  · have q : m2 ≠ 0 := of_decide_eq_false q
    rw [if_pos q]
    refine ⟨fun _ => go 60 ?_, fun q1 => absurd (eq_of' q1) q⟩
    refine ⟨trivial, rfl, rfl, rfl, cornerV (zeroT0, m2), ?_, rfl, rfl⟩
    exact Wk.tup ⟨wk_zeroC, .refl _, trivial⟩

set_option maxRecDepth 100000 in
theorem w_cut (b : Bes) (q : List Int) (hp : b.p.path.length ≤ 1000000) : Pure Tryz.prog 209 [besV b, pathV q] (fun x => x = .bool (cutB b.p q)) := by
  have c1 := w_pathWithin b.p.path q hp
  refine pure_wk (pure_fn 60 Tryz.func209 rfl rfl rfl fun B => ?_)
  refine ⟨fun g => go 60 ?_, fun g => go 60 ?_⟩
  · show CallThen _ _ _ _ _ _
    refine call_pure c1 rfl ?_
    rintro z rfl
    refine ⟨trivial, rfl, rfl, rfl, leaf_b ?_⟩
    unfold cutB
    rw [g]
    rfl
  · refine ⟨trivial, rfl, rfl, rfl, leaf_ff ?_⟩
    unfold cutB
    rw [g]
    rfl
set_option maxRecDepth 100000 in
theorem w_lost (b : Bes) (hp : b.p.path.length ≤ 1000000) : Pure Tryz.prog 210 [besV b] (fun x => x = .bool (lostB b)) := by
  have c1 := w_pathSame b.p.path b.o.path hp
  refine pure_wk (pure_fn 60 Tryz.func210 rfl rfl rfl fun B => ?_)
  refine ⟨fun g => go 60 ?_, fun g => go 60 ?_⟩
  · refine ⟨fun g2 => go 60 ?_, fun g2 => go 60 ?_⟩
    · show CallThen _ _ _ _ _ _
      refine call_pure c1 rfl ?_
      rintro z rfl
      refine ⟨trivial, rfl, rfl, rfl, leaf_b ?_⟩
      unfold lostB
      rw [g, g2]
      rfl
    · refine ⟨trivial, rfl, rfl, rfl, leaf_ff ?_⟩
      unfold lostB
      rw [g, g2]
      rfl
  · refine ⟨trivial, rfl, rfl, rfl, leaf_ff ?_⟩
    unfold lostB
    rw [g]
    rfl

theorem rfold_any {α : Type} (f : α → Bool) : ∀ l : List α, rfold (fun (_ : Unit) a => ((), if f a = true then some Code.ret else none)) () l = ((), if l.all (fun a => !f a) = true then none else some .ret)
  | [] => rfl
  | a :: l => by
    rw [rfold, List.all_cons]
    cases h : f a with
    | true => rfl
    | false => exact rfold_any f l

set_option maxHeartbeats 2000000 in
set_option maxRecDepth 100000 in
theorem w_besDrop (b : Bes) (h1 : b.x.size ≤ 1000000000) (h2 : b.c.size ≤ 1000000000) : Pure Tryz.prog 176 [besV b] (fun x => x = .bool (dropB b)) := by
  refine pure_wk (pure_fn 60 Tryz.func176 rfl rfl rfl fun B => ?_)
  show CallThen _ _ _ _ _ _
  refine call_pure (w_kin b.x 0) rfl ?_
  rintro x rfl
  show Goes _ _ _ _
  refine goes_rangeM 60 2 (fun _ : Unit => [some (.box (besV b).cells), some (.box [.ff])]) (fun _ a => ((), if (findR b.c a.1.id).2.2 = true then some .ret else none)) kinV (fun _ _ => True) () (b.x.kin 0) rfl rfl rfl (w_kin1 b.x 0 h1) rfl (fun _ => rfl) (fun _ => rfl) (fun _ => rfl) rfl (fun _ => rfl) (fun _ _ h => by cases h) (fun _ => rfl) rfl trivial ?_ ?_
  · rintro ⟨⟩ a asg -
    have cf := w_Find b.c a.1.id h2
    generalize findR b.c a.1.id = r at cf ⊢
    obtain ⟨r1, r2, r3⟩ := r
    refine ⟨fun _ => trivial, fun imps B r l h1 h2 => ?_⟩
    cases r3
    · show Goes _ _ _ _
      refine goes_beginRound 60 rfl h2 rfl ?_
      show CallThen _ _ _ _ _ _
      refine call_pure cf rfl ?_
      rintro z rfl
      refine ⟨fun q => (by cases q), fun _ => go 60 ?_⟩
      exact ⟨rfl, rfl, trivial, ⟨⟨rfl, rfl⟩, ⟨rfl, rfl⟩, ⟨rfl, rfl⟩, ⟨rfl, rfl⟩, trivial⟩⟩
    · show Goes _ _ _ _
      refine goes_beginRound 60 rfl h2 rfl ?_
      show CallThen _ _ _ _ _ _
      refine call_pure cf rfl ?_
      rintro z rfl
      refine ⟨fun _ => go 60 ?_, fun q => (by cases q)⟩
      exact ⟨rfl, rfl, trivial, ⟨⟨rfl, rfl⟩, ⟨rfl, rfl⟩, ⟨rfl, rfl⟩, ⟨rfl, rfl⟩, trivial⟩⟩
  · rw [rfold_any]
    have hd : dropB b = (b.x.kin 0).all fun y => !(findR b.c y.1.id).2.2 := rfl
    rw [← hd]
    cases dropB b
    · exact ⟨trivial, rfl, rfl, rfl, leaf_ff rfl⟩
    · exact ⟨trivial, rfl, rfl, rfl, leaf_tt rfl⟩

set_option maxHeartbeats 2000000 in
set_option maxRecDepth 100000 in
theorem w_setL (b : Bes) (hk : b.o.kind = 5) (hp : b.p.path.length ≤ 1000000) (h2 : b.c.size ≤ 1000000000) : Pure Tryz.prog 179 [besV b] (fun x => x = .bool (labelB b)) := by
  have c1 := w_cut b b.o.path hp
  have c2 := w_lost b hp
  have c3 := w_Find b.c b.x.id h2
  have n4 : decide (b.o.kind = 4) = false := decide_eq_false (by rw [hk]; decide)
  unfold labelB
  generalize findR b.c b.x.id = r at c3
  obtain ⟨r1, r2, r3⟩ := r
  generalize cutB b.p b.o.path = g1 at c1
  generalize lostB b = g2 at c2
  refine pure_wk (pure_fn 60 Tryz.func179 rfl rfl rfl fun B => ?_)
  show CallThen _ _ _ _ _ _
  refine call_pure c1 rfl ?_
  rintro z rfl
  cases g1
  case true =>
    refine ⟨fun _ => go 60 ?_, fun q => (by cases q)⟩
    exact ⟨trivial, rfl, rfl, rfl, leaf_tt rfl⟩
  refine ⟨fun q => (by cases q), fun _ => go 60 ?_⟩
  show CallThen _ _ _ _ _ _
  refine call_pure c2 rfl ?_
  rintro z rfl
  cases g2
  case true =>
    refine ⟨fun _ => go 60 ?_, fun q => (by cases q)⟩
    refine ⟨fun _ => go 60 ?_, fun q => absurd q (by rw [n4]; decide)⟩
    exact ⟨trivial, rfl, rfl, rfl, leaf_tt rfl⟩
  refine ⟨fun q => (by cases q), fun _ => go 60 ?_⟩
  show CallThen _ _ _ _ _ _
  refine call_pure c3 rfl ?_
  rintro z rfl
  cases r3
  · refine ⟨fun _ => go 60 ?_, fun q => (by cases q)⟩
    refine ⟨fun q => (by cases q), fun _ => go 60 ?_⟩
    exact ⟨trivial, rfl, rfl, rfl, leaf_ff rfl⟩
  · refine ⟨fun q => (by cases q), fun _ => go 60 ?_⟩
    refine ⟨fun _ => go 60 ?_, fun q => absurd q (by rw [n4]; decide)⟩
    refine ⟨fun _ => go 60 ?_, fun q => (by cases q)⟩
    exact ⟨trivial, rfl, rfl, rfl, leaf_b rfl⟩

def wrongB (b : Bes) : Int := bif decide (b.o.kind = 2) then (bif dropB b then 0 else 3) else (bif labelB b then 0 else 5)
set_option maxRecDepth 100000 in
theorem w_wrong (b : Bes) (hk : b.o.kind = 2 ∨ b.o.kind = 5) (hp : b.p.path.length ≤ 1000000) (h1 : b.x.size ≤ 1000000000) (h2 : b.c.size ≤ 1000000000) : Pure Tryz.prog 141 [besV b] (fun x => x = .int .u8 (wrongB b)) := by
  have c1 := w_besDrop b h1 h2
  refine pure_fn 60 Tryz.func141 rfl rfl rfl fun B => ?_
  unfold wrongB
  rcases hk with hk | hk
  · rw [decide_eq_true hk]
    generalize dropB b = d at c1
    refine ⟨fun q => absurd (of_decide_eq_true q) (by rw [hk]; decide), fun _ => go 60 ?_⟩
    refine ⟨fun _ => go 60 ?_, fun q => absurd hk (of_decide_eq_false q)⟩
    show CallThen _ _ _ _ _ _
    refine call_pure c1 rfl ?_
    rintro z rfl
    cases d
    · refine ⟨fun q => (by cases q), fun _ => go 60 ?_⟩
      exact ⟨trivial, rfl, rfl, rfl, rfl⟩
    · refine ⟨fun _ => go 60 ?_, fun q => (by cases q)⟩
      exact ⟨trivial, rfl, rfl, rfl, rfl⟩
  · have c2 := w_setL b hk hp h2
    rw [decide_eq_false (p := b.o.kind = 2) (by rw [hk]; decide)]
    generalize labelB b = d at c2
    refine ⟨fun q => absurd (of_decide_eq_true q) (by rw [hk]; decide), fun _ => go 60 ?_⟩
    refine ⟨fun q => absurd (of_decide_eq_true q) (by rw [hk]; decide), fun _ => go 60 ?_⟩
    refine ⟨fun q => absurd (of_decide_eq_true q) (by rw [hk]; decide), fun _ => go 60 ?_⟩
    refine ⟨fun q => absurd (of_decide_eq_true q) (by rw [hk]; decide), fun _ => go 60 ?_⟩
    show CallThen _ _ _ _ _ _
    refine call_pure c2 rfl ?_
    rintro z rfl
    cases d
    · refine ⟨fun q => (by cases q), fun _ => go 60 ?_⟩
      exact ⟨trivial, rfl, rfl, rfl, rfl⟩
    · refine ⟨fun _ => go 60 ?_, fun q => (by cases q)⟩
      exact ⟨trivial, rfl, rfl, rfl, rfl⟩

/-! ### What stands -/
def nodeAt (t : Tree) (p : List Int) : Tree := (atT t p).getD zeroT0
theorem w_AtB (t : Tree) (p : List Int) (hp : p.length ≤ 1000000) : Pure Tryz.prog 54 [nodeV t, pathV p] (fun x => x = .tup [nodeV (nodeAt t p), .bool (atT t p).isSome]) := by
  refine pure_wk ((w_At t p hp).mono fun x hx => ⟨_, ?_, ?_, rfl⟩)
  · rw [hx]
    unfold nodeAt
    cases atT t p with
    | none => exact Wk.tup ⟨.refl _, Wk.ff, trivial⟩
    | some s => exact Wk.tup ⟨.refl _, Wk.tt, trivial⟩
  · rfl
def standsT (n c : Tree) (a b : OpT) (prior : Bool) : Int :=
  bif decide (ValidE n a = 0) && decide (ValidE n b = 0) then
    (bif decide (wrongB ⟨n, c, a, b, prior, nodeAt n a.path⟩ = 0) then wrongB ⟨n, c, b, a, !prior, nodeAt n b.path⟩ else wrongB ⟨n, c, a, b, prior, nodeAt n a.path⟩)
  else 1
theorem nodeAt_size (t : Tree) (p : List Int) : (nodeAt t p).size ≤ t.size := by
  unfold nodeAt
  cases h : atT t p with
  | none => exact size_pos t
  | some s => exact atT_size h
set_option maxHeartbeats 2000000 in
set_option maxRecDepth 100000 in
theorem w_Stands (n c : Tree) (a b : OpT) (prior : Bool) (hn : n.weight ≤ 1000000) (hs : n.size ≤ 1000000000) (hc : c.size ≤ 1000000000) (ha : a.Ok) (hb : b.Ok) (ka : a.kind = 2 ∨ a.kind = 5) (kb : b.kind = 2 ∨ b.kind = 5) :
    Pure Tryz.prog 95 [nodeV n, nodeV c, opV a, opV b, .bool prior] (fun x => x = .int .u8 (standsT n c a b prior)) := by
  have c1 := w_Valid n a hn ha
  have c2 := w_Valid n b hn hb
  have c3 := w_AtB n a.path ha.lt.path
  have c4 := w_AtB n b.path hb.lt.path
  have hx := nodeAt_size n a.path
  have hy := nodeAt_size n b.path
  have c5 := w_wrong ⟨n, c, a, b, prior, nodeAt n a.path⟩ ka hb.lt.path (by simp only; omega) hc
  have c6 := w_wrong ⟨n, c, b, a, !prior, nodeAt n b.path⟩ kb ha.lt.path (by simp only; omega) hc
  unfold standsT
  generalize nodeAt n a.path = X at c3 c5 ⊢
  generalize nodeAt n b.path = Y at c4 c6 ⊢
  generalize ValidE n a = va at c1
  generalize ValidE n b = vb at c2
  generalize wrongB ⟨n, c, a, b, prior, X⟩ = w1 at c5
  generalize wrongB ⟨n, c, b, a, !prior, Y⟩ = w2 at c6
  clear hx hy
  obtain ⟨R, hR⟩ : ∃ R : Int, (bif decide (va = 0) && decide (vb = 0) then (bif decide (w1 = 0) then w2 else w1) else 1) = R := ⟨_, rfl⟩
  rw [hR]
  refine pure_wk (pure_fn 60 Tryz.func95 rfl rfl rfl fun B => ?_)
  show CallThen _ _ _ _ _ _
  refine call_pure c1 rfl ?_
  rintro z rfl
  refine ⟨fun q => go 60 ?_, fun q1 => go 60 ?_⟩
  · exact ⟨trivial, rfl, rfl, rfl, _, .refl _, rfl, congrArg (V.int .u8) (by rw [← hR, decide_eq_false (ne_of' q)]; rfl)⟩
  show CallThen _ _ _ _ _ _
  refine call_pure c2 rfl ?_
  rintro z rfl
  refine ⟨fun q => go 60 ?_, fun q2 => go 60 ?_⟩
  · exact ⟨trivial, rfl, rfl, rfl, _, .refl _, rfl, congrArg (V.int .u8) (by rw [← hR, decide_eq_false (ne_of' q), Bool.and_false]; rfl)⟩
  show CallThen _ _ _ _ _ _
  refine call_pure c3 rfl ?_
  rintro z rfl
  show CallThen _ _ _ _ _ _
  refine call_pure c4 rfl ?_
  rintro z rfl
  show CallThen _ _ _ _ _ _
  refine call_pure c5 rfl ?_
  rintro z rfl
  refine ⟨fun q => go 60 ?_, fun q3 => go 60 ?_⟩
  · exact ⟨trivial, rfl, rfl, rfl, _, .refl _, rfl, congrArg (V.int .u8) (by rw [← hR, decide_eq_true (eq_of' q1), decide_eq_true (eq_of' q2), decide_eq_false (ne_of' q)]; rfl)⟩
  show CallThen _ _ _ _ _ _
  refine call_pure c6 rfl ?_
  rintro z rfl
  exact ⟨trivial, rfl, rfl, rfl, _, .refl _, rfl, congrArg (V.int .u8) (by rw [← hR, decide_eq_true (eq_of' q1), decide_eq_true (eq_of' q2), decide_eq_true (eq_of' q3)]; rfl)⟩
end Bow
/- W96: the examples of chapter 14; the law EffectsFind. -/
namespace Bow
open Go Go.Proofs

def ex14N : Tree := .mk 1 false [114] [] [] [.mk 2 false [97] [] [] [.mk 3 false [120] [] [] []], .mk 4 false [98] [] [] []]
def ex14Z : Tree := .mk 1 false [] [] [] [.mk 4 false [122] [] [] []]
def ex14D : OpT := { noOp 2 with path := [0] }
def ex14L : OpT := { noOp 5 with path := [0, 0], label := [121] }
def ex14P : OpT := { noOp 5 with path := [1], label := [112] }
def ex14Q : OpT := { noOp 5 with path := [1], label := [113] }
def ex14M : OpT := { noOp 3 with path := [0], to := [1] }
def ex14O : OpT := { noOp 3 with path := [1], to := [0] }
def ex14A : Tree := .mk 1 false [114] [] [] [.mk 4 false [98] [] [] []]
def ex14B : Tree := .mk 1 false [114] [] [] [.mk 2 false [97] [] [] [.mk 3 false [120] [] [] []], .mk 4 false [112] [] [] []]
def ex14C : Tree := .mk 1 false [114] [] [] [.mk 2 false [97] [] [] [.mk 4 false [98] [] [] [], .mk 3 false [120] [] [] []]]
set_option maxRecDepth 100000 in
theorem ex14_a : cornerT ex14N ex14D ex14L true = (ex14A, 0) := by kernel_rfl
set_option maxRecDepth 100000 in
theorem ex14_b : cornerT ex14N ex14P ex14Q true = (ex14B, 0) := by kernel_rfl
set_option maxRecDepth 100000 in
theorem ex14_c : cornerT ex14N ex14M ex14O false = (ex14C, 0) := by kernel_rfl
set_option maxRecDepth 100000 in
theorem ex14_d : standsT ex14N ex14A ex14D ex14L true = 0 := by kernel_rfl
set_option maxRecDepth 100000 in
theorem ex14_e : standsT ex14N ex14Z ex14P ex14Q true = 5 := by kernel_rfl
set_option maxRecDepth 100000 in
theorem ex14_f : findR ex14C 4 = (.mk 4 false [98] [] [] [], 2, true) := by kernel_rfl
theorem ok14 {o : OpT} (h : smallO o = true) : o.Ok ∧ o.to.length ≤ 1000 := ⟨small_ok h, by have := small_to h; omega⟩

theorem cw14 {t : Tree} {a b : OpT} {prior : Bool} {r : Tree} (h : cornerT t a b prior = (r, 0)) (ht : t.weight ≤ 100000) (ha : smallO a = true) (hb : smallO b = true) (hc : (decide ((applyR t a).1.weight + costs (bothX a b prior).2.1 ≤ 400000) && decide ((bothX a b prior).2.1.length ≤ 1000000) && (bothX a b prior).2.1.all smallO) = true) :
    Pure Tryz.prog 38 [nodeV t, opV a, opV b, .bool prior] (fun x => x = cornerV (r, 0)) := by
  simp only [Bool.and_eq_true, decide_eq_true_eq] at hc
  obtain ⟨⟨h1, h2⟩, h3⟩ := hc
  rw [← h]
  exact w_Corner t a b prior ht (ok14 ha).1 (ok14 hb).1 ⟨(ok14 ha).2, (ok14 hb).2⟩ h1 h2 (ok_all h3)
set_option maxRecDepth 100000 in
theorem w14a : Pure Tryz.prog 38 [nodeV ex14N, opV ex14D, opV ex14L, .bool true] (fun x => x = cornerV (ex14A, 0)) := cw14 ex14_a (by decide) (by decide) (by decide) (by decide +kernel)
set_option maxRecDepth 100000 in
theorem w14b : Pure Tryz.prog 38 [nodeV ex14N, opV ex14P, opV ex14Q, .bool true] (fun x => x = cornerV (ex14B, 0)) := cw14 ex14_b (by decide) (by decide) (by decide) (by decide +kernel)
set_option maxRecDepth 100000 in
theorem w14c : Pure Tryz.prog 38 [nodeV ex14N, opV ex14M, opV ex14O, .bool false] (fun x => x = cornerV (ex14C, 0)) := cw14 ex14_c (by decide) (by decide) (by decide) (by decide +kernel)
theorem w14d : Pure Tryz.prog 95 [nodeV ex14N, nodeV ex14A, opV ex14D, opV ex14L, .bool true] (fun x => x = .int .u8 0) := by
  rw [← ex14_d]
  exact w_Stands _ _ _ _ _ (by decide) (by decide) (by decide) (ok14 (by decide)).1 (ok14 (by decide)).1 (.inl rfl) (.inr rfl)
theorem w14e : Pure Tryz.prog 95 [nodeV ex14N, nodeV ex14Z, opV ex14P, opV ex14Q, .bool true] (fun x => x = .int .u8 5) := by
  rw [← ex14_e]
  exact w_Stands _ _ _ _ _ (by decide) (by decide) (by decide) (ok14 (by decide)).1 (ok14 (by decide)).1 (.inr rfl) (.inr rfl)
theorem w14f : Pure Tryz.prog 43 [nodeV ex14C, .int .u64 4] (fun x => x = findV (.mk 4 false [98] [] [] [], 2, true)) := by
  rw [← ex14_f]
  exact w_Find _ _ (by decide)

def opC (k : Int) (pt to : V) (s : List UInt8) : List V := [.int .u8 k, pt, .int .i64 0, to, .int .u64 0, .ff, .str s, .str [], .str [], .ff, .nilsl]
theorem wk_opC {k : Int} {pt to : V} {s : List UInt8} {p q : List Int} (hp : Wk pt (pathV p)) (hq : Wk to (pathV q)) : WkL (opC k pt to s) (opV { noOp k with path := p, to := q, label := s }).cells :=
  ⟨.refl _, hp, .refl _, hq, .refl _, Wk.ff, .refl _, .refl _, .refl _, Wk.ff, Wk.nil 3, trivial⟩
theorem wk_ex14N : WkL [.int .u64 1, .ff, .str [114], .nilsl, .str [], .sl 6 [.agg [.int .u64 2, .ff, .str [97], .nilsl, .str [], .sl 6 [.agg [.int .u64 3, .ff, .str [120], .nilsl, .str [], .nilsl]]], .agg [.int .u64 4, .ff, .str [98], .nilsl, .str [], .nilsl]]] (nodeV ex14N).cells :=
  wkL_mk Wk.ff (Wk.nil 2) (Wk.sl ⟨⟨wkL_mk Wk.ff (Wk.nil 2) (Wk.sl ⟨⟨wkL_mk Wk.ff (Wk.nil 2) (Wk.nil 6), okE_node _⟩, trivial⟩), okE_node _⟩, ⟨wkL_mk Wk.ff (Wk.nil 2) (Wk.nil 6), okE_node _⟩, trivial⟩)
theorem wk_ex14Z : WkL [.int .u64 1, .ff, .str [], .nilsl, .str [], .sl 6 [.agg [.int .u64 4, .ff, .str [122], .nilsl, .str [], .nilsl]]] (nodeV ex14Z).cells :=
  wkL_mk Wk.ff (Wk.nil 2) (Wk.sl ⟨⟨wkL_mk Wk.ff (Wk.nil 2) (Wk.nil 6), okE_node _⟩, trivial⟩)
set_option maxHeartbeats 4000000 in
set_option maxRecDepth 100000 in
theorem w_works14 : Pure Tryz.prog 35 [] (fun x => x = .bool true) := by
  refine pure_wk (pure_fn 17 Tryz.func35 rfl rfl rfl fun B => ?_)
  refine ⟨⟨rfl, trivial⟩, rfl, rfl, ⟨rfl, rfl, trivial⟩, ?_⟩
  show Goes _ _ _ _
  refine goes_freezeIn 1 [2] rfl rfl rfl ?_
  show Goes _ _ _ _
  refine goes_wkbox 2 (nodeV ex14N).cells rfl rfl rfl wk_ex14N ?_
  refine go 11 ?_
  refine ⟨⟨rfl, trivial⟩, ⟨rfl, rfl, trivial⟩, ?_⟩
  show Goes _ _ _ _
  refine goes_freezeIn 3 [5] rfl rfl rfl ?_
  show Goes _ _ _ _
  refine goes_freezeIn 4 [6] rfl rfl rfl ?_
  show Goes _ _ _ _
  refine goes_wkbox 5 (opV ex14D).cells rfl rfl rfl (wk_opC (.refl _) (Wk.nil 1)) ?_
  refine goes_wkbox 6 (opV ex14L).cells rfl rfl rfl (wk_opC (.refl _) (Wk.nil 1)) ?_
  refine go 11 ?_
  refine ⟨⟨rfl, trivial⟩, ⟨rfl, trivial⟩, ?_⟩
  show Goes _ _ _ _
  refine goes_freezeIn 7 [9] rfl rfl rfl ?_
  show Goes _ _ _ _
  refine goes_freezeIn 8 [10] rfl rfl rfl ?_
  show Goes _ _ _ _
  refine goes_wkbox 9 (opV ex14P).cells rfl rfl rfl (wk_opC (.refl _) (Wk.nil 1)) ?_
  refine goes_wkbox 10 (opV ex14Q).cells rfl rfl rfl (wk_opC (.refl _) (Wk.nil 1)) ?_
  refine go 300 ?_
  show CallThen _ _ _ _ _ _
  refine call_pure (pure_args w14a ⟨.refl _, .refl _, .refl _, Wk.tt, trivial⟩ rfl rfl) rfl ?_
  rintro z rfl
  show CallThen _ _ _ _ _ _
  refine call_pure (pure_args w14b ⟨.refl _, .refl _, .refl _, Wk.tt, trivial⟩ rfl rfl) rfl ?_
  rintro z rfl
  refine ⟨⟨rfl, trivial⟩, ?_⟩
  refine ⟨⟨rfl, trivial⟩, ⟨rfl, trivial⟩, ⟨rfl, trivial⟩, ⟨rfl, trivial⟩, ?_⟩
  show CallThen _ _ _ _ _ _
  refine call_pure_frz ?_
  refine ⟨rfl, rfl, rfl, rfl, rfl, rfl, rfl, rfl, _, pure_args w14c ⟨.refl _, Wk.agg (wk_opC (s := []) (.refl _) (.refl _)), Wk.agg (wk_opC (s := []) (.refl _) (.refl _)), Wk.ff, trivial⟩ rfl rfl, rfl, ?_⟩
  rintro z rfl
  show CallThen _ _ _ _ _ _
  refine call_pure w14f rfl ?_
  rintro z rfl
  iterate 3 refine ⟨fun _ => go 60 ?_, fun q => absurd q (by decide)⟩
  refine ⟨fun _ => go 60 ?_, fun q => absurd q (by decide)⟩
  show CallThen _ _ _ _ _ _
  refine call_pure (pure_args w14d ⟨.refl _, .refl _, .refl _, .refl _, Wk.tt, trivial⟩ rfl rfl) rfl ?_
  rintro z rfl
  refine ⟨fun _ => go 60 ?_, fun q => absurd q (by decide)⟩
  refine ⟨fun _ => go 60 ?_, fun q => absurd q (by decide)⟩
  refine ⟨by decide, _, rfl, ?_⟩
  refine ⟨fun _ => go 60 ?_, fun q => absurd q (by decide)⟩
  show CallThen _ _ _ _ _ _
  refine call_pure_frz ?_
  refine ⟨rfl, rfl, _, pure_args w14e ⟨.refl _, Wk.agg wk_ex14Z, .refl _, .refl _, Wk.tt, trivial⟩ rfl rfl, rfl, ?_⟩
  rintro z rfl
  refine ⟨fun _ => go 60 ?_, fun q => absurd q (by decide)⟩
  refine ⟨fun _ => go 60 ?_, fun q => absurd q (by decide)⟩
  refine ⟨fun _ => go 60 ?_, fun q => absurd q (by decide)⟩
  exact ⟨trivial, rfl, rfl, rfl, leaf_b (by decide)⟩

/-! ### The law -/
end Bow
/- SP38: what edits behind each other put in; what becomes of operations costs no more than they. -/
namespace Bow
open Go

theorem putsLen_app : ∀ a b : List PieceT, putsLen (a ++ b) = putsLen a + putsLen b
  | [], b => by simp [putsLen]
  | p :: a, b => by
    have := putsLen_app a b
    simp only [List.cons_append, putsLen, List.foldr_cons] at this ⊢
    omega
theorem putsLen_one (p : PieceT) : putsLen [p] = p.put.length := by simp [putsLen]
theorem putsLen_two (p : PieceT) (l : List PieceT) : putsLen (p :: l) = p.put.length + putsLen l := rfl
theorem Mk.last_puts (m : Mk) : putsLen m.last.l = putsLen m.l := by
  unfold Mk.last
  cases decide (0 < m.keep) || m.l.isEmpty with
  | true => simp only [cond_true]; rw [putsLen_app, putsLen_one]; rfl
  | false => rfl
theorem modL_puts (s : List UInt8) : ∀ {l : List PieceT}, l ≠ [] → putsLen (modL (fun p => { p with put := p.put ++ s }) l) = putsLen l + s.length
  | [], h => absurd rfl h
  | [p], _ => by rw [modL, putsLen_one, putsLen_one, List.length_append]
  | p :: q :: r, _ => by
    rw [modL, putsLen_two, putsLen_two p, modL_puts s (l := q :: r) (by simp)]
    omega
theorem modL_drops (n : Int) : ∀ l : List PieceT, putsLen (modL (fun p => { p with drop := p.drop + n }) l) = putsLen l
  | [] => rfl
  | [p] => by rw [modL, putsLen_one, putsLen_one]
  | p :: q :: r => by rw [modL, putsLen_two, putsLen_two p, modL_drops n (q :: r)]
theorem Mk.put_puts (s : List UInt8) (m : Mk) : putsLen (m.put s).l = putsLen m.l + s.length := by
  unfold Mk.put
  cases h : s.isEmpty with
  | true =>
    rw [List.isEmpty_iff] at h
    subst h
    rfl
  | false =>
    simp only [cond_false]
    rw [modL_puts s m.last_ne, m.last_puts]
theorem Mk.drop_puts (n : Int) (m : Mk) : putsLen (m.drop n).l = putsLen m.l := by
  unfold Mk.drop
  cases decide (0 < n) with
  | true => simp only [cond_true]; rw [modL_drops, m.last_puts]
  | false => rfl
theorem Mk.piece_puts (m : Mk) (p : PieceT) : putsLen (m.piece p).l = putsLen m.l + p.put.length := by
  unfold Mk.piece
  rw [Mk.drop_puts, Mk.put_puts]
  rfl
theorem foldl_puts : ∀ (l : List PieceT) (m : Mk), putsLen (l.foldl Mk.piece m).l = putsLen m.l + putsLen l
  | [], m => by simp [putsLen]
  | p :: l, m => by
    rw [List.foldl_cons, foldl_puts l, Mk.piece_puts, putsLen_two]
    omega
theorem norm_puts (l : List PieceT) : putsLen (normP l) = putsLen l := by
  unfold normP
  rw [foldl_puts]
  simp [Mk.nil, putsLen]
theorem rowPut_puts (l : List PieceT) : (rowPut l).1.length + putsLen (rowPut l).2 = putsLen l := by
  cases l with
  | nil => rfl
  | cons p r =>
    have e : rowPut (p :: r) = bif decide (0 < p.keep) || p.put.isEmpty then ([], p :: r) else (p.put, { p with put := [] } :: r) := rfl
    rw [e]
    cases decide (0 < p.keep) || p.put.isEmpty with
    | true => simp
    | false =>
      show p.put.length + putsLen ({ p with put := [] } :: r) = putsLen (p :: r)
      rw [putsLen_two, putsLen_two]
      simp
theorem rowRun_puts : ∀ l : List PieceT, putsLen (rowRun l).2 ≤ putsLen l
  | [] => Nat.le_refl _
  | p :: r => by
    have ih := rowRun_puts r
    rw [rowRun]
    cases decide (0 < p.keep) with
    | true => exact Nat.le_refl _
    | false =>
      simp only [cond_false]
      cases decide (0 < p.drop) with
      | true => exact Nat.le_refl _
      | false => simp only [cond_false]; rw [putsLen_two]; omega
theorem rowTake_puts (n : Int) (l : List PieceT) : putsLen (rowTake n l) = putsLen l := by
  cases l with
  | nil => rfl
  | cons p r =>
    have e : rowTake n (p :: r) = bif decide (0 < p.keep) then { p with keep := p.keep - n } :: r else { p with drop := p.drop - n } :: r := rfl
    rw [e]
    cases decide (0 < p.keep) <;> rfl
theorem bothR_puts (a b : List PieceT) : putsLen (bothR a b).2.1 ≤ putsLen a := by
  have h := rowRun_puts a
  unfold bothR
  generalize rowRun a = ra at h
  generalize rowRun b = rb
  obtain ⟨⟨n, x, any⟩, a'⟩ := ra
  obtain ⟨⟨m, y, more⟩, b'⟩ := rb
  simp only at h ⊢
  cases !any && !more with
  | true => exact h
  | false => simp only [cond_false]; rw [rowTake_puts]; exact h
theorem puts_puts (prior : Bool) (s : Tr) : putsLen (s.puts prior).x.l + putsLen (s.puts prior).p = putsLen s.x.l + putsLen s.p := by
  have h := rowPut_puts s.p
  unfold Tr.puts
  generalize rowPut s.p = rp at h
  generalize rowPut s.q = rq
  obtain ⟨a, p⟩ := rp
  obtain ⟨b, q⟩ := rq
  simp only at h ⊢
  cases prior with
  | true =>
    simp only [cond_true]
    have := Mk.put_puts a s.x
    unfold Mk.kept
    simp only
    omega
  | false =>
    simp only [cond_false]
    have := Mk.put_puts a (s.x.kept b.length)
    have e : putsLen (s.x.kept b.length).l = putsLen s.x.l := rfl
    omega
theorem does_puts (s : Tr) (n : Int) (x y : Bool) : putsLen (s.does n x y).x.l = putsLen s.x.l ∧ (s.does n x y).p = s.p := by
  unfold Tr.does
  cases x <;> cases y
  · exact ⟨rfl, rfl⟩
  · exact ⟨rfl, rfl⟩
  · exact ⟨Mk.drop_puts n s.x, rfl⟩
  · exact ⟨rfl, rfl⟩
theorem go_puts (prior : Bool) : ∀ (f : Nat) (s : Tr), putsLen (Tr.go prior f s).x.l ≤ putsLen s.x.l + putsLen s.p
  | 0, s => by rw [Tr.go]; omega
  | f + 1, s => by
    have h := puts_puts prior s
    rw [Tr.go]
    generalize s.puts prior = z at h
    obtain ⟨p, q, x, y⟩ := z
    have hb := bothR_puts p q
    simp only at h ⊢
    generalize bothR p q = rb at hb
    obtain ⟨⟨n, d, g, any⟩, p', q'⟩ := rb
    simp only at hb ⊢
    cases any with
    | true =>
      simp only [cond_true]
      have hd := does_puts ⟨p', q', x, y⟩ n d g
      have ih := go_puts prior f (Tr.does ⟨p', q', x, y⟩ n d g)
      rw [hd.1, hd.2] at ih
      simp only at ih
      omega
    | false =>
      simp only [cond_false]
      omega
theorem trans_puts (a b : List PieceT) (prior : Bool) : putsLen (transP a b prior).1 ≤ putsLen a := by
  unfold transP
  cases !rightP a || !rightP b with
  | true => exact Nat.zero_le _
  | false =>
    simp only [cond_false]
    have h := go_puts prior (extN (normP a) + extN (normP b) + 1) ⟨normP a, normP b, Mk.nil, Mk.nil⟩
    simp only [norm_puts] at h
    generalize Tr.go prior (extN (normP a) + extN (normP b) + 1) ⟨normP a, normP b, Mk.nil, Mk.nil⟩ = s at h
    obtain ⟨p, q, x, y⟩ := s
    simp only at h ⊢
    have h0 : putsLen Mk.nil.l = 0 := rfl
    cases !rightP x.l || !rightP y.l with
    | true => exact Nat.zero_le _
    | false => simp only [cond_false]; omega

/-! ### Costs -/
theorem cost_min (o : OpT) : 2 ≤ costO o := by unfold costO; omega
theorem cost_noOp (k : Int) : costO (noOp k) = 2 := rfl
theorem bare_cost (o : OpT) : costO (bareO o) ≤ costO o := by
  rcases kinds o with h | h | h | h | h | h | ⟨h1, h2, h3, h4, h5, h6⟩
  · rw [bare1 h]; unfold costO; simp only [noOp, putsLen, List.length_nil, List.foldr_nil]; omega
  · rw [bare2 h]; unfold costO; simp only [noOp, putsLen, List.length_nil, List.foldr_nil]; omega
  · rw [bare3 h]; unfold costO; simp only [noOp, putsLen, List.length_nil, List.foldr_nil]; omega
  · rw [bare4 h]
    unfold costO
    cases o.gone
    · simp only [noOp, putsLen, List.length_nil, List.foldr_nil, cond_false]; omega
    · simp only [noOp, putsLen, List.length_nil, List.foldr_nil, cond_true]; omega
  · rw [bare5 h]; unfold costO; simp only [noOp, putsLen, List.length_nil, List.foldr_nil]; omega
  · rw [bare6 h]; unfold costO; simp only [noOp, List.length_nil]; omega
  · rw [bare_none h1 h2 h3 h4 h5 h6, cost_noOp]
    exact cost_min o
theorem shifted_cost (b a : OpT) (prior : Bool) : costO (shiftedO b a prior) = costO b := by
  unfold shiftedO
  cases decide (b.kind = 1) with
  | true => rfl
  | false =>
    cases decide (b.kind = 3) with
    | true => rfl
    | false => rfl
theorem undo_cost (o : OpT) : costO (undoO o) = 2 := by
  unfold undoO
  cases decide (o.kind = 3) && movesO o <;> rfl
theorem row_cost (b a : OpT) (prior : Bool) : ∀ o ∈ rowO b a prior, costO o ≤ costO b := by
  have hs : ∀ o ∈ [shiftedO b a prior], costO o ≤ costO b := fun o ho => by
    rw [List.mem_singleton.1 ho, shifted_cost]
    exact Nat.le_refl _
  have hn : ∀ o ∈ ([] : List OpT), costO o ≤ costO b := fun o ho => by cases ho
  have hd : ∀ p q : List Int, ∀ o ∈ [dropO p, dropO q], costO o ≤ costO b := fun p q o ho => by
    have := cost_min b
    rcases List.mem_cons.1 ho with rfl | ho
    · exact this
    · rw [List.mem_singleton.1 ho]; exact this
  have hd1 : ∀ p : List Int, ∀ o ∈ [dropO p], costO o ≤ costO b := fun p o ho => by
    rw [List.mem_singleton.1 ho]
    exact cost_min b
  have hu : ∀ o ∈ [undoO a, b], costO o ≤ costO b := fun o ho => by
    rcases List.mem_cons.1 ho with rfl | ho
    · rw [undo_cost]; exact cost_min b
    · rw [List.mem_singleton.1 ho]; exact Nat.le_refl _
  unfold rowO
  cases decide (a.kind = 2) with
  | true =>
    cases within a.path b.path with
    | true => exact hn
    | false => cases decide (b.kind = 3) && within a.path b.to <;> first | exact hs | exact hd1 _
  | false =>
    cases wonO b a with
    | true => cases prior <;> first | exact hn | exact hs
    | false =>
      cases decide (a.kind = 3) with
      | false => exact hs
      | true =>
        cases decide (b.kind = 2) with
        | true => cases within b.path a.path && (!decide (b.path = a.path) && !within b.path a.to) <;> first | exact hs | exact hd _ _
        | false => cases decide (b.kind = 3) && (within b.path a.to && within a.path b.to) <;> first | exact hs | (cases prior <;> first | exact hn | exact hu)
theorem behX_cost (b a : OpT) (prior : Bool) : ∀ o ∈ (behindX b a prior).1, costO o ≤ costO b := by
  unfold behindX
  cases bothEdit b a with
  | true =>
    simp only [cond_true]
    unfold behindE
    cases !soundO a || !soundO b with
    | true => intro o ho; cases ho
    | false =>
      cases decide ((transP b.pieces a.pieces prior).2.2 = 0) && formedB (editO b a prior) with
      | false => intro o ho; cases ho
      | true =>
        intro o ho
        simp only [cond_true, cond_false, List.mem_singleton] at ho
        subst ho
        refine Nat.le_trans (bare_cost _) ?_
        have := trans_puts b.pieces a.pieces prior
        unfold costO editO
        simp only
        omega
  | false =>
    simp only [cond_false]
    unfold behindO
    cases !soundO a || !soundO b with
    | true => intro o ho; cases ho
    | false =>
      cases (rowO b a prior).all formedB with
      | false => intro o ho; cases ho
      | true =>
        intro o ho
        simp only [cond_true, cond_false, List.mem_map] at ho
        obtain ⟨z, hz, rfl⟩ := ho
        exact Nat.le_trans (bare_cost z) (row_cost b a prior z hz)
theorem bothX_cost (a b : OpT) (prior : Bool) : ∀ o ∈ (bothX a b prior).2.1, costO o ≤ costO b := by
  unfold bothX
  cases decide ((behindX a b prior).2 = 0) with
  | false => intro o ho; cases ho
  | true =>
    cases decide ((behindX b a (!prior)).2 = 0) with
    | false => intro o ho; cases ho
    | true => exact behX_cost b a (!prior)
end Bow
/- W97: the document's corner; the law EffectsCorner. -/
namespace Bow
open Go Go.Proofs

set_option maxHeartbeats 4000000 in
set_option maxRecDepth 100000 in
theorem w_refCorner (t : Tree) (a b : OpT) (prior : Bool) (ht : t.weight ≤ 100000) (ha : a.Ok) (hb : b.Ok) (hto : a.to.length ≤ 1000 ∧ b.to.length ≤ 1000) (hc : (applyR t a).1.weight + costs (bothX a b prior).2.1 ≤ 400000) (hl : (bothX a b prior).2.1.length ≤ 1000000) (hok : ∀ o ∈ (bothX a b prior).2.1, o.Ok) :
    Pure Tryz.prog 39 [nodeV t, opV a, opV b, .bool prior] (fun x => x = cornerV (cornerT t a b prior)) := by
  have c1 := w_refApply t a (by omega) ha
  have c2 := w_refValid t b (by omega) hb
  have c3 := w_refBoth a b prior ha hb hto
  have c4 := w_refApplyAll (applyR t a).1 (bothX a b prior).2.1 hc hl hok
  unfold cornerT
  generalize applyR t a = m at c1 c4 hc
  generalize bothX a b prior = r at c3 c4 hc hl hok
  generalize ValidE t b = v at c2
  obtain ⟨m1, m2⟩ := m
  obtain ⟨r1, r2, r3⟩ := r
  simp only at c4
  obtain ⟨u, hu⟩ : ∃ u, AllR m1 r2 = u := ⟨_, rfl⟩
  rw [hu] at c4
  obtain ⟨u1, u2, u3⟩ := u
  clear hc hl hok
  simp only
  obtain ⟨R, hR⟩ : ∃ R : Tree × Int, (if m2 ≠ 0 then (zeroT0, m2) else if v ≠ 0 then (zeroT0, v) else if r3 ≠ 0 then (zeroT0, r3) else ((AllR m1 r2).1, (AllR m1 r2).2.2)) = R := ⟨_, rfl⟩
  rw [hR]
  refine pure_wk (pure_fn 60 Tryz.func39 rfl rfl rfl fun B => ?_)
  show CallThen _ _ _ _ _ _
  refine call_pure c1 rfl ?_
  rintro z rfl
  refine ⟨fun q => go 60 ?_, fun q1 => go 60 ?_⟩
  · refine ⟨trivial, rfl, rfl, rfl, cornerV (zeroT0, m2), ?_, rfl, by rw [← hR, if_pos (ne_of' q)]⟩
    exact Wk.tup ⟨wk_zeroC, .refl _, trivial⟩
  show CallThen _ _ _ _ _ _
  refine call_pure c2 rfl ?_
  rintro z rfl
  refine ⟨fun q => go 60 ?_, fun q2 => go 60 ?_⟩
  · refine ⟨trivial, rfl, rfl, rfl, cornerV (zeroT0, v), ?_, rfl, by rw [← hR, if_neg (fun h => h (eq_of' q1)), if_pos (ne_of' q)]⟩
    exact Wk.tup ⟨wk_zeroC, .refl _, trivial⟩
  show CallThen _ _ _ _ _ _
  refine call_pure c3 rfl ?_
  rintro z rfl
  refine ⟨fun q => go 60 ?_, fun q3 => go 60 ?_⟩
  · refine ⟨trivial, rfl, rfl, rfl, cornerV (zeroT0, r3), ?_, rfl, by rw [← hR, if_neg (fun h => h (eq_of' q1)), if_neg (fun h => h (eq_of' q2)), if_pos (ne_of' q)]⟩
    exact Wk.tup ⟨wk_zeroC, .refl _, trivial⟩
  show CallThen _ _ _ _ _ _
  refine call_pure c4 rfl ?_
  rintro z rfl
  exact ⟨trivial, rfl, rfl, rfl, cornerV (u1, u3), .refl _, rfl, by rw [← hR, if_neg (fun h => h (eq_of' q1)), if_neg (fun h => h (eq_of' q2)), if_neg (fun h => h (eq_of' q3)), hu]⟩

set_option maxRecDepth 100000 in
theorem w_light14 (t : Tree) (a b : OpT) : Pure Tryz.prog 34 [nodeV t, opV a, opV b] (fun x => ∃ g : Bool, x = .bool g ∧ (g = true → t.weight ≤ 200 ∧ lightB a 100 = true ∧ lightB b 100 = true)) := by
  have ff : ∃ y, Wk .ff y ∧ y.pureB = true ∧ ∃ g : Bool, y = .bool g ∧ (g = true → t.weight ≤ 200 ∧ lightB a 100 = true ∧ lightB b 100 = true) := ⟨_, Wk.ff, rfl, false, rfl, fun h => by cases h⟩
  refine pure_wk (pure_fn 60 Tryz.func34 rfl rfl rfl fun B => ?_)
  show CallThen _ _ _ _ _ _
  refine call_pure (w_Weight t 200 (by decide)) rfl ?_
  rintro z ⟨w, rfl, w1, w2, w3⟩
  refine ⟨fun g0 => go 60 ?_, fun g0 => go 60 ?_⟩
  · have g0 : t.weight ≤ 200 := by
      have := of_decide_eq_true g0
      have := w3 (by omega)
      omega
    show CallThen _ _ _ _ _ _
    refine call_pure (w_LightX a 100 (by decide)) rfl ?_
    rintro z rfl
    refine ⟨fun g1 => go 60 ?_, fun g1 => go 60 ?_⟩
    · show CallThen _ _ _ _ _ _
      refine call_pure (w_LightX b 100 (by decide)) rfl ?_
      rintro z rfl
      refine ⟨fun g2 => go 60 ?_, fun g2 => go 60 ?_⟩
      · have la := ((lightB_iff a 100).1 g1).1
        have lb := ((lightB_iff b 100).1 g2).1
        have h1 := la.pieces
        have h2 := lb.pieces
        show CallThen _ _ _ _ _ _
        refine call_pure (w_Small a.pieces 200 (by omega) (by decide)) rfl ?_
        rintro z ⟨s1, rfl⟩
        cases s1
        · refine ⟨fun q => (by cases q), fun _ => go 60 ?_⟩
          exact ⟨trivial, rfl, rfl, rfl, ff⟩
        · refine ⟨fun _ => go 60 ?_, fun q => (by cases q)⟩
          show CallThen _ _ _ _ _ _
          refine call_pure (w_Small b.pieces 200 (by omega) (by decide)) rfl ?_
          rintro z ⟨s2, rfl⟩
          exact ⟨trivial, rfl, rfl, rfl, _, .refl _, rfl, s2, rfl, fun _ => ⟨g0, g1, g2⟩⟩
      · exact ⟨trivial, rfl, rfl, rfl, ff⟩
    · exact ⟨trivial, rfl, rfl, rfl, ff⟩
  · exact ⟨trivial, rfl, rfl, rfl, ff⟩

theorem corner_weight (t : Tree) (a b : OpT) (prior : Bool) : (cornerT t a b prior).1.weight ≤ t.weight + costO a + costs (bothX a b prior).2.1 := by
  have h1 := applyR_weight t a
  have h2 := AllR_weight (applyR t a).1 (bothX a b prior).2.1
  have h3 := cost_min a
  have h0 : zeroT0.weight = 1 := by decide
  unfold cornerT
  simp only
  split
  · simp only; omega
  · split
    · simp only; omega
    · split
      · simp only; omega
      · simp only; omega
theorem sameO_bare3 (o : OpT) : sameO o (bareO o) = true := by
  unfold sameO
  rw [bare_bare]
  exact eqO_refl _

set_option maxHeartbeats 4000000 in
set_option maxRecDepth 100000 in
theorem w_EffectsCorner (t : Tree) (a b : OpT) (prior : Bool) : Pure Tryz.prog 6 [nodeV t, opV a, opV b, .bool prior] (fun x => x = .bool true) := by
  have hw := w_works14
  refine pure_wk (pure_fn 60 Tryz.func6 rfl rfl rfl fun B => ?_)
  show CallThen _ _ _ _ _ _
  refine call_pure (w_light14 t a b) rfl ?_
  rintro z ⟨g, rfl, hg⟩
  cases g
  case false =>
    refine ⟨fun _ => go 60 ?_, fun q => (by cases q)⟩
    show CallThen _ _ _ _ _ _
    refine call_pure hw rfl ?_
    rintro z rfl
    exact ⟨trivial, rfl, rfl, rfl, leaf_b rfl⟩
  obtain ⟨ht, la, lb⟩ := hg rfl
  have ha := light_ok la (by decide)
  have hb := light_ok lb (by decide)
  have la := (lightB_iff a 100).1 la
  have lb := (lightB_iff b 100).1 lb
  have ta := la.1.to
  have tb := lb.1.to
  have ca : costO a ≤ 402 := by
    have h2 := la.1.label
    have h3 := la.1.key
    have h4 := la.1.value
    unfold costO
    omega
  have cb : costO b ≤ 402 := by
    have h2 := lb.1.label
    have h3 := lb.1.key
    have h4 := lb.1.value
    unfold costO
    omega
  have hlen := (bothX_lt (prior := prior) ha hb (by omega) (by omega)).2.1
  have hok := (bothX_okL a b prior).2
  have hcs : costs (bothX a b prior).2.1 ≤ 2 * 402 := costs_le hlen fun o ho => Nat.le_trans (bothX_cost a b prior o ho) cb
  have hwa := applyR_weight t a
  have hcw := corner_weight t a b prior
  have c1 := w_Corner t a b prior (by omega) ha hb ⟨by omega, by omega⟩ (by omega) (by omega) (fun o ho => (hok o ho).1)
  have c2 := w_refCorner t a b prior (by omega) ha hb ⟨by omega, by omega⟩ (by omega) (by omega) (fun o ho => (hok o ho).1)
  have c3 := w_refSameT (cornerT t a b prior).1 (cornerT t a b prior).1 (by omega)
  rw [sameT_refl] at c3
  generalize cornerT t a b prior = r at c1 c2 c3
  obtain ⟨r1, r2⟩ := r
  simp only at c3
  have c4 := w_refIDs t (by omega)
  have c5 := w_refSameO a (bareO a) ha.lt (bare_ok ha).lt
  rw [sameO_bare3] at c5
  have c6 := w_refSameO b (bareO b) hb.lt (bare_ok hb).lt
  rw [sameO_bare3] at c6
  have hil := idsT_len t
  have hsz := size_le_weight t
  clear hcw hwa hcs hok hlen hg
  refine ⟨fun q => (by cases q), fun _ => go 60 ?_⟩
  show CallThen _ _ _ _ _ _
  refine call_pure c4 rfl ?_
  rintro z rfl
  show Goes _ _ _ _
  refine goes_draw 60 ?_
  refine ⟨_, w_refBare a ha.lt, rfl, ?_⟩
  refine ⟨_, w_refBare b hb.lt, rfl, ?_⟩
  refine ⟨by kernel_rfl, ?_⟩
  refine ⟨by kernel_rfl, ?_⟩
  refine ⟨by kernel_rfl, ?_⟩
  show CallThen _ _ _ _ _ _
  refine call_pure c1 rfl ?_
  rintro z rfl
  show CallThen _ _ _ _ _ _
  refine call_pure c2 rfl ?_
  rintro z rfl
  refine ⟨fun q => absurd q (by simp), fun _ => go 60 ?_⟩
  show CallThen _ _ _ _ _ _
  refine call_pure c3 rfl ?_
  rintro z rfl
  refine ⟨fun q => (by cases q), fun _ => go 60 ?_⟩
  show CallThen _ _ _ _ _ _
  refine call_pure c5 rfl ?_
  rintro z rfl
  refine ⟨fun q => (by cases q), fun _ => go 60 ?_⟩
  show CallThen _ _ _ _ _ _
  refine call_pure c6 rfl ?_
  rintro z rfl
  refine ⟨fun q => (by cases q), fun _ => go 60 ?_⟩
  show CallThen _ _ _ _ _ _
  refine call_pure c4 rfl ?_
  rintro z rfl
  show Goes _ _ _ _
  refine goes_iter (ι := Nat) (fun i => i ≤ (idsT t).length) (fun i => (idsT t).length - i) (fun i => [(17, .int .i64 i), (9, idsV (idsT t)), (16, idsV (idsT t))]) (fun _ => []) 0 60 (fun _ => rfl) (fun _ => rfl) ⟨Nat.zero_le _, ⟨⟨rfl, rfl⟩, ⟨rfl, rfl⟩, ⟨rfl, rfl⟩, trivial⟩, trivial⟩ ?_
  rintro i k1 next
  refine ⟨fun hlt => go 60 ?_, fun hge => go 60 ?_⟩
  · have hi : i < (idsT t).length := by simpa using hlt
    have hx : ((idsT t).map idV)[i]? = some (idV (idsT t)[i]) := by simp [hi]
    show Goes _ _ _ _
    refine goes_draw 60 ⟨Int.natCast_nonneg i, _, hx, Int.natCast_nonneg i, _, hx, ?_⟩
    refine ⟨by kernel_rfl, ?_⟩
    refine ⟨fun g => absurd rfl (ne_of' g), fun _ => go 60 ?_⟩
    refine ⟨by constructor <;> omega, ?_⟩
    exact next (i + 1) _ _ ⟨hi, by omega, ⟨⟨rfl, rfl⟩, ⟨rfl, rfl⟩, ⟨rfl, rfl⟩, trivial⟩, trivial⟩
  · show CallThen _ _ _ _ _ _
    refine call_pure hw rfl ?_
    rintro z rfl
    exact ⟨trivial, rfl, rfl, rfl, leaf_b rfl⟩
end Bow
/- TD1: what is read as data at the program's types. -/
namespace Bow
open Go Go.Proofs

theorem take1 {vs : List V} {c : V} (h : vs.take 1 = [c]) : ∃ r, vs = c :: r ∧ vs.drop 1 = r := by
  cases vs with
  | nil => simp at h
  | cons x r => simp at h; subst h; exact ⟨r, rfl, rfl⟩

theorem map_exists {α β : Type} {f : α → V} {g : β → V} : ∀ {xs : List α}, (∀ x ∈ xs, ∃ y, f x = g y) → ∃ ys : List β, xs.map f = ys.map g
  | [], _ => ⟨[], rfl⟩
  | x :: xs, h => by
    obtain ⟨y, hy⟩ := h x List.mem_cons_self
    obtain ⟨ys, hys⟩ := map_exists (xs := xs) fun z hz => h z (List.mem_cons_of_mem _ hz)
    exact ⟨y :: ys, by simp [hy, hys]⟩

theorem vt_str {n : Nat} {vs : List V} (h : VT Tryz.prog n 9 vs) : ∃ s, vs = [.str s] := by
  cases n with
  | zero => exact h.elim
  | succ n =>
    obtain ⟨s, e, _⟩ : ∃ s : List UInt8, vs = [.str s] ∧ s.length ≤ maxLen := h
    exact ⟨s, e⟩
theorem vt_bool {n : Nat} {vs : List V} (h : VT Tryz.prog n 4 vs) : ∃ b, vs = [.bool b] := by
  cases n with
  | zero => exact h.elim
  | succ n => exact h
theorem vt_int {n : Nat} {vs : List V} (h : VT Tryz.prog n 3 vs) : ∃ i, vs = [.int .i64 i] ∧ (Lit.int .i64 i).wf = true := by
  cases n with
  | zero => exact h.elim
  | succ n => exact h
theorem vt_u64 {n : Nat} {vs : List V} (h : VT Tryz.prog n 22 vs) : ∃ i, vs = [.int .u64 i] := by
  cases n with
  | zero => exact h.elim
  | succ n =>
    obtain ⟨s, e, _⟩ : ∃ s : Int, vs = [.int .u64 s] ∧ (Lit.int .u64 s).wf = true := h
    exact ⟨s, e⟩
theorem vt_u8 {n : Nat} {vs : List V} (h : VT Tryz.prog n 5 vs) : ∃ i, vs = [.int .u8 i] := by
  cases n with
  | zero => exact h.elim
  | succ n =>
    obtain ⟨s, e, _⟩ : ∃ s : Int, vs = [.int .u8 s] ∧ (Lit.int .u8 s).wf = true := h
    exact ⟨s, e⟩
set_option maxRecDepth 100000 in
theorem vt_attr {n : Nat} {vs : List V} (h : VT Tryz.prog n 71 vs) : ∃ a, vs = (attrV a).cells := by
  cases n with
  | zero => exact h.elim
  | succ n =>
    obtain ⟨h0, h1, h2⟩ : VT Tryz.prog n 9 (vs.take 1) ∧ VT Tryz.prog n 9 ((vs.drop 1).take 1) ∧ (vs.drop 1).drop 1 = [] := h
    obtain ⟨a, e0⟩ := vt_str h0
    obtain ⟨b, e1⟩ := vt_str h1
    obtain ⟨r, rfl, d0⟩ := take1 e0
    rw [d0] at e1 h2
    obtain ⟨r1, rfl, d1⟩ := take1 e1
    rw [d1] at h2
    subst h2
    exact ⟨(a, b), rfl⟩
set_option maxRecDepth 100000 in
theorem vt_attrs {n : Nat} {vs : List V} (h : VT Tryz.prog n 23 vs) : ∃ l : List (List UInt8 × List UInt8), vs = [.sl 2 (l.map attrV)] := by
  cases n with
  | zero => exact h.elim
  | succ n =>
    obtain ⟨xs, e, _, hx⟩ : ∃ xs : List (List V), vs = [.sl 2 (xs.map (mkX Tryz.prog 71))] ∧ xs.length ≤ maxLen ∧ ∀ x ∈ xs, VT Tryz.prog n 71 x := h
    obtain ⟨l, hl⟩ := map_exists (f := mkX Tryz.prog 71) (g := attrV) (xs := xs) fun x hm => by
      obtain ⟨a, rfl⟩ := vt_attr (hx x hm)
      exact ⟨a, rfl⟩
    exact ⟨l, by rw [e, hl]⟩

set_option maxRecDepth 100000 in
theorem vt_node : ∀ (n : Nat) (vs : List V), VT Tryz.prog n 26 vs → ∃ t : Tree, vs = (nodeV t).cells := by
  intro n
  induction n using Nat.strongRecOn with
  | _ n ih =>
    intro vs h
    cases n with
    | zero => exact h.elim
    | succ n =>
      obtain ⟨h0, h1, h2, h3, h4, h5, h6⟩ : VT Tryz.prog n 22 (vs.take 1) ∧ VT Tryz.prog n 4 ((vs.drop 1).take 1) ∧ VT Tryz.prog n 9 (((vs.drop 1).drop 1).take 1) ∧ VT Tryz.prog n 23 ((((vs.drop 1).drop 1).drop 1).take 1) ∧
        VT Tryz.prog n 9 (((((vs.drop 1).drop 1).drop 1).drop 1).take 1) ∧ VT Tryz.prog n 24 ((((((vs.drop 1).drop 1).drop 1).drop 1).drop 1).take 1) ∧ (((((vs.drop 1).drop 1).drop 1).drop 1).drop 1).drop 1 = [] := h
      obtain ⟨i, e0⟩ := vt_u64 h0
      obtain ⟨l, e1⟩ := vt_bool h1
      obtain ⟨s, e2⟩ := vt_str h2
      obtain ⟨a, e3⟩ := vt_attrs h3
      obtain ⟨x, e4⟩ := vt_str h4
      obtain ⟨r, rfl, d0⟩ := take1 e0
      rw [d0] at e1 e2 e3 e4 h5 h6
      obtain ⟨r, rfl, d0⟩ := take1 e1
      rw [d0] at e2 e3 e4 h5 h6
      obtain ⟨r, rfl, d0⟩ := take1 e2
      rw [d0] at e3 e4 h5 h6
      obtain ⟨r, rfl, d0⟩ := take1 e3
      rw [d0] at e4 h5 h6
      obtain ⟨r, rfl, d0⟩ := take1 e4
      rw [d0] at h5 h6
      cases n with
      | zero => exact h5.elim
      | succ n =>
        obtain ⟨xs, e5, _, hx⟩ : ∃ xs : List (List V), r.take 1 = [.sl 6 (xs.map (mkX Tryz.prog 26))] ∧ xs.length ≤ maxLen ∧ ∀ x ∈ xs, VT Tryz.prog n 26 x := h5
        obtain ⟨ts, hts⟩ := map_exists (f := mkX Tryz.prog 26) (g := nodeV) (xs := xs) fun x hm => by
          obtain ⟨t, rfl⟩ := ih n (by omega) x (hx x hm)
          exact ⟨t, rfl⟩
        obtain ⟨r, rfl, d0⟩ := take1 e5
        rw [d0] at h6
        subst h6
        refine ⟨.mk i l s a x ts, ?_⟩
        rw [hts]
        simp only [nodeV, Tree.id, Tree.leaf, Tree.label, Tree.attrs, Tree.text, subV_eq, Tree.subs, V.cells]

theorem rep_of_cells {w : World} {vs : List V} {cs : Array Value} (h : RowRep w β0 [] vs cs.toList) : Rep w β0 [] (.agg vs) (.agg cs) :=
  .agg vs cs (by simpa using h.1) fun j c v hj hv => h.2 j c v hj (by simpa using hv)

set_option maxRecDepth 100000 in
/-- A node that is handed over. -/
theorem node_arg {H : Type} {enc : TypeId × Value → H} {w : World} {r : Reach} {base b0 : Nat} {sp : Nat → Bool} {held : Bool} {v : Value} {d : DataW H} {p : List MemPlace} (ho : Value.okWide Tryz.prog w r b0 26 v) (h : DataW.Trod enc Tryz.prog w base sp held 26 v d p) :
    ∃ t : Tree, Rep w β0 [] (nodeV t) v := by
  obtain ⟨fuel, hf⟩ := h
  obtain ⟨cs, rfl, _, _⟩ : ∃ cs, v = .agg cs ∧ cs.size = Tryz.prog.cellsOf 26 ∧ Row.okWide Tryz.prog w r b0 26 cs := ho
  obtain ⟨vs, h1, _, h3⟩ := read_data (G := [26, 24, 23, 71, 9, 22, 4]) (by kernel_rfl) fuel _ _ _ (by kernel_rfl) hf
  obtain ⟨t, rfl⟩ := vt_node _ _ h3
  exact ⟨t, rep_of_cells h1⟩
end Bow
/- TD2: operations that are read as data. -/
namespace Bow
open Go Go.Proofs

set_option maxRecDepth 100000 in
theorem vt_path {n : Nat} {vs : List V} (h : VT Tryz.prog n 30 vs) : ∃ l : List Int, vs = [pathV l] ∧ l.length ≤ maxLen ∧ ∀ i ∈ l, (Lit.int .i64 i).wf = true := by
  cases n with
  | zero => exact h.elim
  | succ n =>
    obtain ⟨xs, e, hl, hx⟩ : ∃ xs : List (List V), vs = [.sl 1 (xs.map (mkX Tryz.prog 3))] ∧ xs.length ≤ maxLen ∧ ∀ x ∈ xs, VT Tryz.prog n 3 x := h
    have key : ∀ xs : List (List V), (∀ x ∈ xs, VT Tryz.prog n 3 x) → ∃ l : List Int, xs.map (mkX Tryz.prog 3) = l.map intV ∧ ∀ i ∈ l, (Lit.int .i64 i).wf = true := by
      intro xs
      induction xs with
      | nil => intro _; exact ⟨[], rfl, by simp⟩
      | cons x xs ih =>
        intro hx
        obtain ⟨i, rfl, hw⟩ := vt_int (hx x List.mem_cons_self)
        obtain ⟨l, e, hl⟩ := ih fun z hz => hx z (List.mem_cons_of_mem _ hz)
        refine ⟨i :: l, by simp only [List.map_cons, e]; rfl, fun j hj => ?_⟩
        rcases List.mem_cons.1 hj with rfl | hj
        · exact hw
        · exact hl j hj
    obtain ⟨l, e1, e2⟩ := key xs hx
    refine ⟨l, by rw [e, e1]; rfl, ?_, e2⟩
    have := congrArg List.length e1
    simp at this
    omega
set_option maxRecDepth 100000 in
theorem vt_piece {n : Nat} {vs : List V} (h : VT Tryz.prog n 37 vs) : ∃ p, vs = (pieceV p).cells := by
  cases n with
  | zero => exact h.elim
  | succ n =>
    obtain ⟨h0, h1, h2, h3⟩ : VT Tryz.prog n 3 (vs.take 1) ∧ VT Tryz.prog n 3 ((vs.drop 1).take 1) ∧ VT Tryz.prog n 9 (((vs.drop 1).drop 1).take 1) ∧ ((vs.drop 1).drop 1).drop 1 = [] := h
    obtain ⟨a, e0, _⟩ := vt_int h0
    obtain ⟨b, e1, _⟩ := vt_int h1
    obtain ⟨s, e2⟩ := vt_str h2
    obtain ⟨r, rfl, d0⟩ := take1 e0
    rw [d0] at e1 e2 h3
    obtain ⟨r1, rfl, d1⟩ := take1 e1
    rw [d1] at e2 h3
    obtain ⟨r2, rfl, d2⟩ := take1 e2
    rw [d2] at h3
    subst h3
    exact ⟨⟨a, b, s⟩, rfl⟩
set_option maxRecDepth 100000 in
theorem vt_pieces {n : Nat} {vs : List V} (h : VT Tryz.prog n 31 vs) : ∃ l : List PieceT, vs = [piecesV l] := by
  cases n with
  | zero => exact h.elim
  | succ n =>
    obtain ⟨xs, e, _, hx⟩ : ∃ xs : List (List V), vs = [.sl 3 (xs.map (mkX Tryz.prog 37))] ∧ xs.length ≤ maxLen ∧ ∀ x ∈ xs, VT Tryz.prog n 37 x := h
    obtain ⟨l, hl⟩ := map_exists (f := mkX Tryz.prog 37) (g := pieceV) (xs := xs) fun x hm => by
      obtain ⟨a, rfl⟩ := vt_piece (hx x hm)
      exact ⟨a, rfl⟩
    exact ⟨l, by rw [e, hl]; rfl⟩

set_option maxRecDepth 100000 in
theorem vt_op {n : Nat} {vs : List V} (h : VT Tryz.prog n 33 vs) : ∃ o, vs = (opV o).cells := by
  cases n with
  | zero => exact h.elim
  | succ n =>
    obtain ⟨h0, h⟩ : VT Tryz.prog n 5 (vs.take 1) ∧ _ := h
    obtain ⟨a0, e0⟩ := vt_u8 h0
    obtain ⟨r, rfl, d0⟩ := take1 e0
    obtain ⟨h1, h⟩ : VT Tryz.prog n 30 (r.take 1) ∧ _ := h
    obtain ⟨a1, e1, _⟩ := vt_path h1
    obtain ⟨r, rfl, d0⟩ := take1 e1
    obtain ⟨h2, h⟩ : VT Tryz.prog n 3 (r.take 1) ∧ _ := h
    obtain ⟨a2, e2, _⟩ := vt_int h2
    obtain ⟨r, rfl, d0⟩ := take1 e2
    obtain ⟨h3, h⟩ : VT Tryz.prog n 30 (r.take 1) ∧ _ := h
    obtain ⟨a3, e3, _⟩ := vt_path h3
    obtain ⟨r, rfl, d0⟩ := take1 e3
    obtain ⟨h4, h⟩ : VT Tryz.prog n 22 (r.take 1) ∧ _ := h
    obtain ⟨a4, e4⟩ := vt_u64 h4
    obtain ⟨r, rfl, d0⟩ := take1 e4
    obtain ⟨h5, h⟩ : VT Tryz.prog n 4 (r.take 1) ∧ _ := h
    obtain ⟨a5, e5⟩ := vt_bool h5
    obtain ⟨r, rfl, d0⟩ := take1 e5
    obtain ⟨h6, h⟩ : VT Tryz.prog n 9 (r.take 1) ∧ _ := h
    obtain ⟨a6, e6⟩ := vt_str h6
    obtain ⟨r, rfl, d0⟩ := take1 e6
    obtain ⟨h7, h⟩ : VT Tryz.prog n 9 (r.take 1) ∧ _ := h
    obtain ⟨a7, e7⟩ := vt_str h7
    obtain ⟨r, rfl, d0⟩ := take1 e7
    obtain ⟨h8, h⟩ : VT Tryz.prog n 9 (r.take 1) ∧ _ := h
    obtain ⟨a8, e8⟩ := vt_str h8
    obtain ⟨r, rfl, d0⟩ := take1 e8
    obtain ⟨h9, h⟩ : VT Tryz.prog n 4 (r.take 1) ∧ _ := h
    obtain ⟨a9, e9⟩ := vt_bool h9
    obtain ⟨r, rfl, d0⟩ := take1 e9
    obtain ⟨h10, h⟩ : VT Tryz.prog n 31 (r.take 1) ∧ _ := h
    obtain ⟨a10, e10⟩ := vt_pieces h10
    obtain ⟨r, rfl, d0⟩ := take1 e10
    have h : r = [] := h
    subst h
    exact ⟨⟨a0, a1, a2, a3, a4, a5, a6, a7, a8, a9, a10⟩, rfl⟩
set_option maxRecDepth 100000 in
/-- An operation that is handed over. -/
theorem op_arg {H : Type} {enc : TypeId × Value → H} {w : World} {r : Reach} {base b0 : Nat} {sp : Nat → Bool} {held : Bool} {v : Value} {d : DataW H} {p : List MemPlace} (ho : Value.okWide Tryz.prog w r b0 33 v) (h : DataW.Trod enc Tryz.prog w base sp held 33 v d p) :
    ∃ o : OpT, Rep w β0 [] (opV o) v := by
  obtain ⟨fuel, hf⟩ := h
  obtain ⟨cs, rfl, _, _⟩ : ∃ cs, v = .agg cs ∧ cs.size = Tryz.prog.cellsOf 33 ∧ Row.okWide Tryz.prog w r b0 33 cs := ho
  obtain ⟨vs, h1, _, h3⟩ := read_data (G := [33, 30, 31, 37, 3, 9, 22, 5, 4]) (by kernel_rfl) fuel _ _ _ (by kernel_rfl) hf
  obtain ⟨t, rfl⟩ := vt_op h3
  exact ⟨t, rep_of_cells h1⟩
end Bow
