/- The library, part 7: W70, W71, W72, AE47, W79, SP18, W44, SP34, W86, W74, W87, TD1, TD2. -/
import Derived.Test.YtcglpgfcjlafhaaGreatMe
import Derived.Test.YtcglpgfcjlafhaaGreatMd
import Derived.Test.YtcglpgfcjlafhaaGreatMf
import Derived.Test.YtcglpgfcjlafhaaGreatMc
import Derived.Test.YtcglpgfcjlafhaaGreatRows
import Derived.ChangeShapes
/- W70: the document's answer of chapter 5: norm, Extent, view, behind, Transform. -/
namespace Bow
open Go Go.Proofs

set_option maxRecDepth 100000 in
theorem w_refRightW (l : List PieceT) (hl : l.length ≤ 1000000000000) (hpl : ∀ p ∈ l, p.put.length ≤ 1000000000000) : Pure Tryz.prog 55 [piecesV l] (fun x => x = .bool (rightP l)) := by
  refine pure_wk (pure_fn 100 Tryz.func55 rfl rfl rfl fun B => ?_)
  refine ⟨fun g0 => go 200 ?_, fun g0 => go 200 ?_⟩
  · have g0 : 4096 < l.length := by have := lt_of g0; simp at this; omega
    exact ⟨trivial, rfl, rfl, rfl, leaf_ff (by unfold rightP; rw [decide_eq_false (by omega)]; rfl)⟩
  have g0 : l.length ≤ 4096 := by have := not_lt_of g0; simp at this; omega
  show Goes _ _ _ _
  refine goes_iter (ι := Nat × Nat) (fun i => i.1 ≤ l.length ∧ i.2 ≤ 1048576 ∧ rightP l = rightGo i.2 (l.drop i.1)) (fun i => l.length - i.1) (fun i => [(4, .int .i64 i.1), (0, piecesV l), (3, .int .i64 i.2)]) (fun _ => []) (0, 0) 200 (fun _ => rfl) (fun _ => rfl) ⟨⟨Nat.zero_le _, Nat.zero_le _, ?_⟩, ?_, ?_⟩ ?_
  · unfold rightP
    rw [decide_eq_true g0]
    rfl
  · exact ⟨⟨rfl, rfl⟩, ⟨rfl, rfl⟩, ⟨rfl, rfl⟩, trivial⟩
  · trivial
  · rintro ⟨i, n⟩ ⟨h1, h3, h2⟩ next
    simp only at h1 h2 h3
    refine ⟨fun hlt => go 200 ?_, fun hge => go 200 ?_⟩
    · have hi : i < l.length := by simpa using hlt
      have hx : (l.map pieceV)[i]? = some (pieceV l[i]) := by simp [hi]
      have hput := hpl l[i] (List.getElem_mem hi)
      rw [drop_cons hi] at h2
      refine ⟨Int.natCast_nonneg i, _, hx, ?_⟩
      refine ⟨fun g1 => go 200 ?_, fun g1 => go 200 ?_⟩
      · have g1 := lt_of g1
        exact ⟨trivial, rfl, rfl, rfl, leaf_ff (by rw [h2]; exact rightGo_bad (by omega))⟩
      have g1 := not_lt_of g1
      refine ⟨Int.natCast_nonneg i, _, hx, ?_⟩
      refine ⟨fun g2 => go 200 ?_, fun g2 => go 200 ?_⟩
      · have g2 := lt_of g2
        exact ⟨trivial, rfl, rfl, rfl, leaf_ff (by rw [h2]; exact rightGo_bad (by omega))⟩
      have g2 := not_lt_of g2
      refine ⟨Int.natCast_nonneg i, _, hx, ?_⟩
      refine ⟨fun g3 => go 200 ?_, fun g3 => go 200 ?_⟩
      · have g3 := lt_of g3
        exact ⟨trivial, rfl, rfl, rfl, leaf_ff (by rw [h2]; exact rightGo_bad (by omega))⟩
      have g3 := not_lt_of g3
      refine ⟨Int.natCast_nonneg i, _, hx, ?_⟩
      refine ⟨fun g4 => go 200 ?_, fun g4 => go 200 ?_⟩
      · have g4 := lt_of g4
        exact ⟨trivial, rfl, rfl, rfl, leaf_ff (by rw [h2]; exact rightGo_bad (by omega))⟩
      have g4 := not_lt_of g4
      refine ⟨Int.natCast_nonneg i, _, hx, ?_⟩
      refine ⟨by constructor <;> omega, ?_⟩
      refine ⟨fun g5 => go 200 ?_, fun g5 => go 200 ?_⟩
      · have g5 := lt_of g5
        exact ⟨trivial, rfl, rfl, rfl, leaf_ff (by rw [h2]; exact rightGo_bad (by omega))⟩
      have g5 := not_lt_of g5
      refine ⟨Int.natCast_nonneg i, _, hx, ?_⟩
      refine ⟨by constructor <;> omega, ?_⟩
      refine ⟨by constructor <;> omega, ?_⟩
      show Goes _ _ _ _
      refine next (i + 1, n + (l[i]).put.length) _ _ ⟨⟨hi, by simp only; omega, ?_⟩, ?_, ⟨⟨rfl, rfl⟩, ⟨rfl, rfl⟩, ⟨rfl, rfl⟩, trivial⟩, trivial⟩
      · rw [h2]
        exact rightGo_good (by omega) (by omega) (by omega) (by omega) (by omega)
      · simp only; omega
    · have hi : l.length ≤ i := by simpa using hge
      rw [List.drop_eq_nil_of_le hi] at h2
      exact ⟨trivial, rfl, rfl, rfl, leaf_tt h2⟩
/-! ### norm -/
def mkN (l : List PieceT) (i : Nat) : Mk := (l.take i).foldl Mk.piece Mk.nil
theorem mkN_succ {l : List PieceT} {i : Nat} (hi : i < l.length) : mkN l (i + 1) = (mkN l i).piece l[i] := by
  unfold mkN
  rw [List.take_succ_eq_append_getElem hi, List.foldl_append]
  rfl
theorem sumW_take' (l : List PieceT) (i : Nat) (h : ∀ p ∈ l, p.Nn) : sumW (l.take i) ≤ sumW l := by
  have e := sumW_append (l.take i) (l.drop i)
  rw [List.take_append_drop] at e
  have := sumW_len (l := l.drop i) fun p hp => h p (List.mem_of_mem_drop hp)
  omega
theorem piece_at {l : List PieceT} {i : Nat} (h : i < l.length) : (l.map pieceV)[i]? = some (pieceV l[i]) := by simp [h]
theorem lastP_at {l : List PieceT} (h : 0 < l.length) : (l.map pieceV)[0 + ((l.length : Int) - 1).toNat]? = some (pieceV (l[l.length - 1]'(by omega))) := by
  have : 0 + ((l.length : Int) - 1).toNat = l.length - 1 := by omega
  rw [this]
  simp [show l.length - 1 < l.length by omega]
theorem set_lastP {f : PieceT → PieceT} {l : List PieceT} (h : 0 < l.length) : (l.map pieceV).set (0 + ((l.length : Int) - 1).toNat) (pieceV (f (l[l.length - 1]'(by omega)))) = (modL f l).map pieceV := by
  have : 0 + ((l.length : Int) - 1).toNat = l.length - 1 := by omega
  rw [this, modL_set f l (by omega), List.map_set]
set_option pp.maxSteps 300 in
set_option maxHeartbeats 2000000 in
set_option maxRecDepth 100000 in
theorem w_ref5norm (l : List PieceT) (h : ∀ p ∈ l, p.Nn) (hw : sumW l ≤ 400000000000) : Pure Tryz.prog 138 [piecesV l] (fun x => x = piecesV (normP l)) := by
  have hlen := sumW_len h
  refine pure_wk (pure_fn 100 Tryz.func138 rfl rfl rfl fun B => ?_)
  show Goes _ _ _ _
  refine goes_own 3 3 rfl ?_
  refine goes_iter (ι := Nat × Nat) (fun i => i.1 ≤ l.length) (fun i => l.length - i.1) (fun i => [(5, .int .i64 i.1), (4, .int .i64 (mkN l i.1).keep), (3, .osl (.loc 0) i.2 0 (mkN l i.1).l.length), (0, piecesV l)]) (fun i => [some (.vec i.2 3 ((mkN l i.1).l.map pieceV))]) (0, 0) 100 (fun _ => rfl) (fun _ => rfl) ⟨Nat.zero_le _, ⟨⟨rfl, rfl⟩, ⟨rfl, rfl⟩, ⟨rfl, rfl⟩, ⟨rfl, rfl⟩, trivial⟩, ⟨⟨rfl, rfl⟩, trivial⟩⟩ ?_
  rintro ⟨i, g⟩ k1 next
  simp only at k1
  refine ⟨fun hlt => go 100 ?_, fun hge => go 100 ?_⟩
  · have hi : i < l.length := by have := lt_of hlt; simp at this; omega
    have hm : l[i] ∈ l := List.getElem_mem hi
    have hn := h _ hm
    obtain ⟨q1, q2⟩ := foldl_ok (l := l.take i) Mk.nil_ok fun p hp => h p (List.mem_of_mem_take hp)
    have q1 : (mkN l i).Ok := q1
    have q2 : (mkN l i).w ≤ Mk.nil.w + 2 * sumW (l.take i) := q2
    have s1 : (mkN l (i, g).fst).keep = (mkN l i).keep := rfl
    have s2 : (((mkN l (i, g).fst).l.length : Nat) : Int) = ((mkN l i).l.length : Nat) := rfl
    have q3 := sumW_take' l i h
    have q4 := sumW_mem h _ hm
    have e1 := mkN_succ hi
    have d1 := q1.k
    have d2 := sumW_len q1.l
    have d3 := hn.k
    have d4 := hn.d
    have d5 : Mk.nil.w = 0 := rfl
    have d6 : (mkN l i).w = (mkN l i).keep + sumW (mkN l i).l := rfl
    have d7 : l[i].w = l[i].keep + l[i].drop + l[i].put.length + 1 := rfl
    have hx := piece_at hi
    have hroom : room (((mkN l i).l.map pieceV).length + 1) 32 := by
      unfold room
      simp only [List.length_map]
      omega
    refine ⟨Int.natCast_nonneg i, _, hx, ?_⟩
    refine ⟨by constructor <;> omega, ?_⟩
    refine ⟨Int.natCast_nonneg i, _, hx, ?_⟩
    refine ⟨fun g1 => go 60 ?_, fun g1 => go 60 ?_⟩
    · have p0 : l[i].put = [] := of_decide_eq_true g1
      refine ⟨Int.natCast_nonneg i, _, hx, ?_⟩
      refine ⟨fun g2 => go 60 ?_, fun g2 => go 60 ?_⟩
      · have p1 : l[i].drop = 0 := eq_of g2
        have e2 : mkN l (i + 1) = ⟨(mkN l i).l, (mkN l i).keep + l[i].keep⟩ := by rw [e1]; exact piece_skip p0 p1
        refine ⟨by constructor <;> omega, ?_⟩
        show Goes _ _ _ _
        refine next (i + 1, g) _ _ ⟨hi, by simp only; omega, ?_, ?_⟩
        · rw [e2]
          exact ⟨⟨rfl, rfl⟩, ⟨rfl, rfl⟩, ⟨rfl, rfl⟩, ⟨rfl, rfl⟩, trivial⟩
        · rw [e2]
          exact ⟨⟨rfl, rfl⟩, trivial⟩
      · have p1 : l[i].drop ≠ 0 := ne_of g2
        have h0 : ¬ (l[i].put = [] ∧ l[i].drop = 0) := fun e => p1 e.2
        refine ⟨fun g3 => go 60 ?_, fun g3 => go 60 ?_⟩
        · have g3 := eq_of g3
          refine ⟨rfl, ?_⟩
          refine ⟨fun g4 => go 60 ?_, fun g4 => go 60 ?_⟩
          · have g4 := lt_of g4
            have hne : (mkN l i).l ≠ [] := fun e => by rw [e] at g4; simp at g4
            have e2 : mkN l (i + 1) = ⟨modL (addP l[i]) (mkN l i).l, 0⟩ := by rw [e1]; exact piece_merge d4 h0 g3 hne
            have hpos : 0 < (mkN l i).l.length := List.length_pos_iff.2 hne
            have hL := lastP_at hpos
            have hLm := sumW_mem q1.l _ (List.getElem_mem (by omega : (mkN l i).l.length - 1 < (mkN l i).l.length))
            have hLn := q1.l _ (List.getElem_mem (by omega : (mkN l i).l.length - 1 < (mkN l i).l.length))
            have hLk := hLn.k
            have hLd := hLn.d
            unfold PieceT.w at hLm
            refine ⟨rfl, ⟨by omega, by omega⟩, rfl, by omega, by omega, rfl, _, hL, ?_⟩
            show Goes _ _ _ _
            refine goes_draw 60 ⟨Int.natCast_nonneg i, _, hx, by rw [List.length_append]; omega, ?_⟩
            refine ⟨by kernel_rfl, ?_⟩
            show Goes _ _ _ _
            refine goes_draw 60 ⟨Int.natCast_nonneg i, _, hx, ⟨by omega, by omega⟩, ?_⟩
            refine ⟨by kernel_rfl, ?_⟩
            refine ⟨rfl, ⟨by omega, by omega⟩, rfl, by omega, by omega, rfl, _, hL, ?_⟩
            refine ⟨⟨by omega, by omega⟩, ?_⟩
            show Goes _ _ _ _
            have e3 := set_lastP (f := addP l[i]) hpos
            refine next (i + 1, g) _ _ ⟨hi, by simp only; omega, ⟨⟨rfl, rfl⟩, ⟨?_, rfl⟩, ⟨?_, rfl⟩, ⟨rfl, rfl⟩, trivial⟩, ⟨⟨?_, rfl⟩, trivial⟩⟩
            · show V.int .i64 ((mkN l i).keep + l[i].keep) = V.int .i64 (mkN l (i + 1)).keep
              rw [e2, g3]
            · show V.osl (.loc 0) g 0 (mkN l i).l.length = V.osl (.loc 0) g 0 (mkN l (i + 1)).l.length
              rw [e2]
              simp only [modL_len]
            · rw [e2]
              exact congrArg (fun z => some (HObj.vec g 3 z)) e3
          · have g4 := not_lt_of g4
            have hnil : (mkN l i).l = [] := List.length_eq_zero_iff.1 (by omega)
            have e2 : mkN l (i + 1) = ⟨(mkN l i).l ++ [⟨(mkN l i).keep + l[i].keep, l[i].drop, l[i].put⟩], 0⟩ := by rw [e1]; exact piece_new d4 h0 (.inr hnil)
            show Goes _ _ _ _
            refine goes_draw 60 ⟨Int.natCast_nonneg i, _, hx, Int.natCast_nonneg i, _, hx, rfl, ⟨rfl, trivial⟩, rfl, rfl, rfl, rfl, by simp, hroom, ?_⟩
            refine ⟨by kernel_rfl, ?_⟩
            refine ⟨⟨by omega, by omega⟩, ?_⟩
            show Goes _ _ _ _
            refine next (i + 1, bump g) _ _ ⟨hi, by simp only; omega, ⟨⟨rfl, rfl⟩, ⟨?_, rfl⟩, ⟨?_, rfl⟩, ⟨rfl, rfl⟩, trivial⟩, ⟨⟨?_, rfl⟩, trivial⟩⟩
            · rw [e2]
              rfl
            · rw [e2]
              exact congrArg (V.osl (.loc 0) (bump g) 0) (by simp)
            · rw [e2]
              exact congrArg (fun z => some (HObj.vec (bump g) 3 z)) (by rw [List.map_append]; rfl)
        · have g3 := ne_of g3
          have e2 : mkN l (i + 1) = ⟨(mkN l i).l ++ [⟨(mkN l i).keep + l[i].keep, l[i].drop, l[i].put⟩], 0⟩ := by rw [e1]; exact piece_new d4 h0 (.inl (by omega))
          show Goes _ _ _ _
          refine goes_draw 60 ⟨Int.natCast_nonneg i, _, hx, Int.natCast_nonneg i, _, hx, rfl, ⟨rfl, trivial⟩, rfl, rfl, rfl, rfl, by simp, hroom, ?_⟩
          refine ⟨by kernel_rfl, ?_⟩
          refine ⟨⟨by omega, by omega⟩, ?_⟩
          show Goes _ _ _ _
          refine next (i + 1, bump g) _ _ ⟨hi, by simp only; omega, ⟨⟨rfl, rfl⟩, ⟨?_, rfl⟩, ⟨?_, rfl⟩, ⟨rfl, rfl⟩, trivial⟩, ⟨⟨?_, rfl⟩, trivial⟩⟩
          · rw [e2]
            rfl
          · rw [e2]
            exact congrArg (V.osl (.loc 0) (bump g) 0) (by simp)
          · rw [e2]
            exact congrArg (fun z => some (HObj.vec (bump g) 3 z)) (by rw [List.map_append]; rfl)
    · have p0 : l[i].put ≠ [] := of_decide_eq_false g1
      have h0 : ¬ (l[i].put = [] ∧ l[i].drop = 0) := fun e => p0 e.1
      refine ⟨fun g3 => go 60 ?_, fun g3 => go 60 ?_⟩
      · have g3 := eq_of g3
        refine ⟨rfl, ?_⟩
        refine ⟨fun g4 => go 60 ?_, fun g4 => go 60 ?_⟩
        · have g4 := lt_of g4
          have hne : (mkN l i).l ≠ [] := fun e => by rw [e] at g4; simp at g4
          have e2 : mkN l (i + 1) = ⟨modL (addP l[i]) (mkN l i).l, 0⟩ := by rw [e1]; exact piece_merge d4 h0 g3 hne
          have hpos : 0 < (mkN l i).l.length := List.length_pos_iff.2 hne
          have hL := lastP_at hpos
          have hLm := sumW_mem q1.l _ (List.getElem_mem (by omega : (mkN l i).l.length - 1 < (mkN l i).l.length))
          have hLn := q1.l _ (List.getElem_mem (by omega : (mkN l i).l.length - 1 < (mkN l i).l.length))
          have hLk := hLn.k
          have hLd := hLn.d
          unfold PieceT.w at hLm
          refine ⟨rfl, ⟨by omega, by omega⟩, rfl, by omega, by omega, rfl, _, hL, ?_⟩
          show Goes _ _ _ _
          refine goes_draw 60 ⟨Int.natCast_nonneg i, _, hx, by rw [List.length_append]; omega, ?_⟩
          refine ⟨by kernel_rfl, ?_⟩
          show Goes _ _ _ _
          refine goes_draw 60 ⟨Int.natCast_nonneg i, _, hx, ⟨by omega, by omega⟩, ?_⟩
          refine ⟨by kernel_rfl, ?_⟩
          refine ⟨rfl, ⟨by omega, by omega⟩, rfl, by omega, by omega, rfl, _, hL, ?_⟩
          refine ⟨⟨by omega, by omega⟩, ?_⟩
          show Goes _ _ _ _
          have e3 := set_lastP (f := addP l[i]) hpos
          refine next (i + 1, g) _ _ ⟨hi, by simp only; omega, ⟨⟨rfl, rfl⟩, ⟨?_, rfl⟩, ⟨?_, rfl⟩, ⟨rfl, rfl⟩, trivial⟩, ⟨⟨?_, rfl⟩, trivial⟩⟩
          · show V.int .i64 ((mkN l i).keep + l[i].keep) = V.int .i64 (mkN l (i + 1)).keep
            rw [e2, g3]
          · show V.osl (.loc 0) g 0 (mkN l i).l.length = V.osl (.loc 0) g 0 (mkN l (i + 1)).l.length
            rw [e2]
            simp only [modL_len]
          · rw [e2]
            exact congrArg (fun z => some (HObj.vec g 3 z)) e3
        · have g4 := not_lt_of g4
          have hnil : (mkN l i).l = [] := List.length_eq_zero_iff.1 (by omega)
          have e2 : mkN l (i + 1) = ⟨(mkN l i).l ++ [⟨(mkN l i).keep + l[i].keep, l[i].drop, l[i].put⟩], 0⟩ := by rw [e1]; exact piece_new d4 h0 (.inr hnil)
          show Goes _ _ _ _
          refine goes_draw 60 ⟨Int.natCast_nonneg i, _, hx, Int.natCast_nonneg i, _, hx, rfl, ⟨rfl, trivial⟩, rfl, rfl, rfl, rfl, by simp, hroom, ?_⟩
          refine ⟨by kernel_rfl, ?_⟩
          refine ⟨⟨by omega, by omega⟩, ?_⟩
          show Goes _ _ _ _
          refine next (i + 1, bump g) _ _ ⟨hi, by simp only; omega, ⟨⟨rfl, rfl⟩, ⟨?_, rfl⟩, ⟨?_, rfl⟩, ⟨rfl, rfl⟩, trivial⟩, ⟨⟨?_, rfl⟩, trivial⟩⟩
          · rw [e2]
            rfl
          · rw [e2]
            exact congrArg (V.osl (.loc 0) (bump g) 0) (by simp)
          · rw [e2]
            exact congrArg (fun z => some (HObj.vec (bump g) 3 z)) (by rw [List.map_append]; rfl)
      · have g3 := ne_of g3
        have e2 : mkN l (i + 1) = ⟨(mkN l i).l ++ [⟨(mkN l i).keep + l[i].keep, l[i].drop, l[i].put⟩], 0⟩ := by rw [e1]; exact piece_new d4 h0 (.inl (by omega))
        show Goes _ _ _ _
        refine goes_draw 60 ⟨Int.natCast_nonneg i, _, hx, Int.natCast_nonneg i, _, hx, rfl, ⟨rfl, trivial⟩, rfl, rfl, rfl, rfl, by simp, hroom, ?_⟩
        refine ⟨by kernel_rfl, ?_⟩
        refine ⟨⟨by omega, by omega⟩, ?_⟩
        show Goes _ _ _ _
        refine next (i + 1, bump g) _ _ ⟨hi, by simp only; omega, ⟨⟨rfl, rfl⟩, ⟨?_, rfl⟩, ⟨?_, rfl⟩, ⟨rfl, rfl⟩, trivial⟩, ⟨⟨?_, rfl⟩, trivial⟩⟩
        · rw [e2]
          rfl
        · rw [e2]
          exact congrArg (V.osl (.loc 0) (bump g) 0) (by simp)
        · rw [e2]
          exact congrArg (fun z => some (HObj.vec (bump g) 3 z)) (by rw [List.map_append]; rfl)
  · have hi : i = l.length := by have := not_lt_of hge; simp at this; omega
    subst hi
    have e : (mkN l l.length).l = normP l := by unfold mkN normP; rw [List.take_length]
    refine ⟨trivial, rfl, rfl, rfl, by simp, rfl, piecesV (normP l), ?_, rfl, rfl⟩
    rw [← e]
    exact Wk.refl _

/-! ### Extent -/
theorem extN_drop {l : List PieceT} {i : Nat} (hi : i < l.length) : extN (l.drop i) = l[i].keep.toNat + l[i].drop.toNat + extN (l.drop (i + 1)) := by
  rw [List.drop_eq_getElem_cons hi, extN]
set_option maxRecDepth 100000 in
theorem w_ref5Extent (l : List PieceT) (h : ∀ p ∈ l, p.Nn) (hw : sumW l ≤ 1000000000000) : Pure Tryz.prog 57 [piecesV l] (fun x => x = .int .i64 (extN l)) := by
  have hlen := sumW_len h
  have hext := extN_le h
  refine pure_fn 100 Tryz.func57 rfl rfl rfl fun B => ?_
  show Goes _ _ _ _
  refine goes_iter (ι := Nat × Nat) (fun i => i.1 ≤ l.length ∧ i.2 + extN (l.drop i.1) = extN l) (fun i => l.length - i.1) (fun i => [(4, .int .i64 i.1), (0, piecesV l), (3, .int .i64 i.2)]) (fun _ => []) (0, 0) 100 (fun _ => rfl) (fun _ => rfl) ⟨⟨Nat.zero_le _, by simp⟩, ⟨⟨rfl, rfl⟩, ⟨rfl, rfl⟩, ⟨rfl, rfl⟩, trivial⟩, trivial⟩ ?_
  rintro ⟨i, n⟩ ⟨k1, k3⟩ next
  simp only at k1 k3
  refine ⟨fun hlt => go 100 ?_, fun hge => go 100 ?_⟩
  · have hi : i < l.length := by simpa using hlt
    have hx := piece_at hi
    have hp := h l[i] (List.getElem_mem hi)
    have := hp.k
    have := hp.d
    rw [extN_drop hi] at k3
    show Goes _ _ _ _
    refine goes_draw 100 ⟨Int.natCast_nonneg i, _, hx, ⟨by omega, by omega⟩, Int.natCast_nonneg i, _, hx, ⟨by omega, by omega⟩, ?_⟩
    refine ⟨by kernel_rfl, ?_⟩
    refine ⟨⟨by omega, by omega⟩, ?_⟩
    show Goes _ _ _ _
    refine next (i + 1, n + l[i].keep.toNat + l[i].drop.toNat) _ _ ⟨⟨hi, by simp only; omega⟩, by simp only; omega, ⟨⟨rfl, rfl⟩, ⟨rfl, rfl⟩, ⟨?_, rfl⟩, trivial⟩, trivial⟩
    show V.int .i64 _ = V.int .i64 _
    congr 1
    omega
  · have hi : l.length ≤ i := by simpa using hge
    rw [List.drop_eq_nil_of_le hi] at k3
    refine ⟨trivial, rfl, rfl, rfl, ?_⟩
    show V.int .i64 _ = V.int .i64 _
    rw [← k3]
    rfl

/-! ### view -/
def bitV (b : Bool) : V := bif b then .tt else .ff
def viewV (l : List PieceT) (n : Nat) : V := .agg [.sl 1 ((List.range' 0 (n + 1)).map fun j => .str (putAt l j)), .sl 1 ((List.range' 0 (n + 1)).map fun j => .bool (dropAt l j))]
theorem wk_bits (f : Nat → Bool) : ∀ L : List Nat, WkE 1 (L.map fun j => bitV (f j)) (L.map fun j => .bool (f j))
  | [] => trivial
  | a :: L => by
    refine ⟨?_, wk_bits f L⟩
    show WkL (bitV (f a)).cells (V.bool (f a)).cells ∧ okE 1 (V.bool (f a))
    cases f a with
    | true => exact ⟨⟨Wk.tt, trivial⟩, rfl, rfl⟩
    | false => exact ⟨⟨Wk.ff, trivial⟩, rfl, rfl⟩
theorem rep_range {α : Type} (x : α) (N : Nat) : List.replicate N x = (List.range' 0 N).map fun _ => x := by
  apply List.ext_getElem
  · simp
  · intro j h1 h2
    simp
theorem range_at {α : Type} (f : Nat → α) {N j : Nat} (h : j < N) : ((List.range' 0 N).map f)[j]? = some (f j) := by simp [h]
set_option pp.maxSteps 300 in
set_option maxHeartbeats 2000000 in
set_option maxRecDepth 100000 in
theorem w_view (l : List PieceT) (n : Nat) (h : RN l) (hw : sumW l ≤ 400000000000) (hn : extN l ≤ n) (hb : n ≤ 1000000000000) : Pure Tryz.prog 139 [piecesV l, .int .i64 n] (fun x => x = viewV l n) := by
  have hnn := rn_nn h
  have hlen := sumW_len hnn
  have hN : ((n : Int) + 1).toNat = n + 1 := by omega
  have hb1 : ((n : Int) + 1).toNat ≤ 1000000000001 := by omega
  refine pure_wk (pure_fn 100 Tryz.func139 rfl rfl rfl fun B => ?_)
  show Goes _ _ _ _
  refine goes_draw 60 ⟨⟨by omega, by omega⟩, ⟨by omega, rfl, Nat.le_trans (Nat.mul_le_mul_left _ hb1) (by decide)⟩, rfl, ⟨by omega, by omega⟩, ⟨by omega, rfl, Nat.le_trans (Nat.mul_le_mul_left _ hb1) (by decide)⟩, rfl, rfl, ?_⟩
  refine ⟨by kernel_rfl, ?_⟩
  show Goes _ _ _ _
  refine goes_iter (ι := Nat) (fun i => i ≤ l.length) (fun i => l.length - i) (fun i => [(7, .int .i64 i), (6, .int .i64 (extN (l.take i))), (5, .ptr (.loc 3) 0), (4, .ptr (.loc 0) 0), (0, piecesV l)])
    (fun i => [some (.box [.nilsl, .nilsl]), some (.vec 2 1 ((List.range' 0 (n + 1)).map fun j => .str (putAt (l.take i) j))), some (.vec 2 1 ((List.range' 0 (n + 1)).map fun j => bitV (dropAt (l.take i) j))), some (.box [.osl (.loc 1) 2 0 (n + 1), .osl (.loc 2) 2 0 (n + 1)])]) 0 60 (fun _ => rfl) (fun _ => rfl)
    ⟨Nat.zero_le _, ⟨⟨rfl, rfl⟩, ⟨rfl, rfl⟩, ⟨rfl, rfl⟩, ⟨rfl, rfl⟩, ⟨rfl, rfl⟩, trivial⟩, ⟨⟨rfl, rfl⟩, ⟨?_, rfl⟩, ⟨?_, rfl⟩, ⟨?_, rfl⟩, trivial⟩⟩ ?_
  · rw [hN]
    exact congrArg (fun z => some (HObj.vec 2 1 z)) (rep_range _ _)
  · rw [hN]
    exact congrArg (fun z => some (HObj.vec 2 1 z)) (rep_range _ _)
  · rw [hN]
    rfl
  rintro i k1 next
  refine ⟨fun hlt => go 60 ?_, fun hge => go 60 ?_⟩
  · have hi : i < l.length := by have := lt_of hlt; simp at this; omega
    have hx := piece_at hi
    have hm := hnn _ (List.getElem_mem hi)
    have d1 := hm.k
    have d2 := hm.d
    have hext := extN_take hi
    have hle := extN_take_le l (i + 1)
    have e1 : l.take (i + 1) = l.take i ++ [l[i]] := List.take_succ_eq_append_getElem hi
    have hr := rn_take h (i + 1)
    rw [e1] at hr
    obtain ⟨c, hc⟩ : ∃ c : Nat, ((extN (l.take i) : Nat) : Int) + l[i].keep = (c : Int) := ⟨extN (l.take i) + l[i].keep.toNat, by omega⟩
    have hc' : c = extN (l.take i) + l[i].keep.toNat := by omega
    have hcn : c + l[i].drop.toNat ≤ n := by omega
    have hct : 0 + (((extN (l.take i) : Nat) : Int) + l[i].keep).toNat = c := by omega
    have hpx : ((List.range' 0 (n + 1)).map fun j => V.str (putAt (l.take i) j))[0 + (((extN (l.take i) : Nat) : Int) + l[i].keep).toNat]? = some (.str (putAt (l.take i) c)) := by
      rw [hct]
      exact range_at _ (by omega)
    refine ⟨Int.natCast_nonneg i, _, hx, ⟨by omega, by omega⟩, ?_⟩
    show Goes _ _ _ _
    refine goes_draw 60 ⟨Int.natCast_nonneg i, _, hx, rfl, by omega, by omega, rfl, _, hpx, ?_⟩
    refine ⟨by kernel_rfl, ?_⟩
    show Goes _ _ _ _
    have eputs : ((List.range' 0 (n + 1)).map fun j => V.str (putAt (l.take i) j)).set (0 + (((extN (l.take i) : Nat) : Int) + l[i].keep).toNat) (.str l[i].put) = (List.range' 0 (n + 1)).map fun j => V.str (putAt (l.take (i + 1)) j) := by
      rw [hct, set_range]
      refine List.map_congr_left fun j _ => ?_
      rw [e1, putAt_snoc hr, ← hc']
      cases decide (j = c) <;> rfl
    refine goes_iter (ι := Nat) (fun k => k ≤ l[i].drop.toNat) (fun k => l[i].drop.toNat - k) (fun k => [(8, .int .i64 k), (7, .int .i64 i), (6, .int .i64 c), (5, .ptr (.loc 3) 0), (4, .ptr (.loc 0) 0), (0, piecesV l)])
      (fun k => [some (.box [.nilsl, .nilsl]), some (.vec 2 1 ((List.range' 0 (n + 1)).map fun j => .str (putAt (l.take (i + 1)) j))), some (.vec 2 1 ((List.range' 0 (n + 1)).map fun j => bitV (dropAt (l.take i) j || (decide (c ≤ j) && decide (j < c + k))))), some (.box [.osl (.loc 1) 2 0 (n + 1), .osl (.loc 2) 2 0 (n + 1)])]) 0 60 (fun _ => rfl) (fun _ => rfl)
      ⟨Nat.zero_le _, ⟨⟨rfl, rfl⟩, ⟨rfl, rfl⟩, ⟨?_, rfl⟩, ⟨rfl, rfl⟩, ⟨rfl, rfl⟩, ⟨rfl, rfl⟩, trivial⟩, ⟨⟨rfl, rfl⟩, ⟨?_, rfl⟩, ⟨?_, rfl⟩, ⟨rfl, rfl⟩, trivial⟩⟩ ?_
    · exact congrArg (V.int .i64) hc
    · exact congrArg (fun z => some (HObj.vec 2 1 z)) eputs
    · refine congrArg (fun z => some (HObj.vec 2 1 z)) (List.map_congr_left fun j _ => ?_)
      congr 1
      by_cases h1 : c ≤ j
      · rw [decide_eq_true h1, decide_eq_false (by omega : ¬ j < c + 0)]; simp
      · rw [decide_eq_false h1]; simp
    rintro k k2 next2
    refine ⟨Int.natCast_nonneg i, _, hx, ?_⟩
    refine ⟨fun hlt2 => go 60 ?_, fun hge2 => go 60 ?_⟩
    · have hk : k < l[i].drop.toNat := by have := lt_of hlt2; omega
      have hck : 0 + ((c : Int) + (k : Int)).toNat = c + k := by omega
      have hdx : ((List.range' 0 (n + 1)).map fun j => bitV (dropAt (l.take i) j || (decide (c ≤ j) && decide (j < c + k))))[0 + ((c : Int) + (k : Int)).toNat]? = some .ff := by
        rw [hck, range_at _ (by omega)]
        rw [dropAt_ge _ _ (by omega), decide_eq_false (by omega : ¬ c + k < c + k)]
        simp [bitV]
      refine ⟨⟨by omega, by omega⟩, rfl, by omega, by omega, rfl, _, hdx, ?_⟩
      refine ⟨⟨by omega, by omega⟩, ?_⟩
      show Goes _ _ _ _
      refine next2 (k + 1) _ _ ⟨hk, by omega, ⟨⟨rfl, rfl⟩, ⟨rfl, rfl⟩, ⟨rfl, rfl⟩, ⟨rfl, rfl⟩, ⟨rfl, rfl⟩, ⟨rfl, rfl⟩, trivial⟩, ⟨⟨rfl, rfl⟩, ⟨rfl, rfl⟩, ⟨?_, rfl⟩, ⟨rfl, rfl⟩, trivial⟩⟩
      show some (HObj.vec 2 1 (List.set _ (0 + ((c : Int) + (k : Int)).toNat) .tt)) = _
      rw [hck, set_range]
      refine congrArg (fun z => some (HObj.vec 2 1 z)) (List.map_congr_left fun j _ => ?_)
      by_cases h1 : j = c + k
      · rw [decide_eq_true h1, h1, decide_eq_true (by omega : c ≤ c + k), decide_eq_true (by omega : c + k < c + (k + 1))]
        simp [bitV]
      · rw [decide_eq_false h1]
        have : decide (j < c + k) = decide (j < c + (k + 1)) := by rw [decide_eq_decide]; omega
        rw [this]
        rfl
    · have hk : k = l[i].drop.toNat := by have := not_lt_of hge2; omega
      refine ⟨Int.natCast_nonneg i, _, hx, ⟨by omega, by omega⟩, ?_⟩
      refine ⟨⟨by omega, by omega⟩, ?_⟩
      show Goes _ _ _ _
      refine next (i + 1) _ _ ⟨hi, by omega, ⟨⟨rfl, rfl⟩, ⟨?_, rfl⟩, ⟨rfl, rfl⟩, ⟨rfl, rfl⟩, ⟨rfl, rfl⟩, trivial⟩, ⟨⟨rfl, rfl⟩, ⟨rfl, rfl⟩, ⟨?_, rfl⟩, ⟨rfl, rfl⟩, trivial⟩⟩
      · exact congrArg (V.int .i64) (by omega)
      · refine congrArg (fun z => some (HObj.vec 2 1 z)) (List.map_congr_left fun j _ => ?_)
        rw [e1, dropAt_snoc, ← hc', hk]
  · have hi : i = l.length := by have := not_lt_of hge; simp at this; omega
    subst hi
    refine ⟨trivial, rfl, rfl, rfl, (by rw [List.length_map, List.length_range']), rfl, (by rw [List.length_map, List.length_range']), rfl, viewV l n, ?_, rfl, rfl⟩
    rw [List.take_length]
    exact Wk.agg ⟨.refl _, Wk.sl (wk_bits _ _), trivial⟩

/-! ### behind -/
theorem viewP_at (l : List PieceT) {n j : Nat} (h : j < (viewP l n).length) : (viewP l n)[j] = (putAt l j, dropAt l j) := by
  have h2 : j < n + 1 := by rw [viewP_len] at h; exact h
  have e : (viewP l n)[j]? = some (putAt l j, dropAt l j) := by unfold viewP; exact range_at _ h2
  rw [List.getElem?_eq_getElem h] at e
  exact Option.some.inj e
set_option pp.maxSteps 300 in
set_option maxHeartbeats 2000000 in
set_option maxRecDepth 100000 in
theorem w_behind5 (la lb : List PieceT) (n : Nat) (first : Bool) (ha : RN la) (hb : RN lb) (wa : sumW la ≤ 40000000000) (wb : sumW lb ≤ 40000000000) (hn : n ≤ 40000000000) :
    Pure Tryz.prog 140 [viewV la n, viewV lb n, .bool first] (fun x => x = piecesV (normP (placesP first (viewP la n) (viewP lb n)))) := by
  have sa := sumL_view ha n
  have sb := sumL_view hb n
  have lva := viewP_len la n
  have lvb := viewP_len lb n
  obtain ⟨nn, len, sw⟩ := places_nn first (viewP la n) (viewP lb n)
  have hnorm := w_ref5norm (placesP first (viewP la n) (viewP lb n)) nn (by omega)
  refine pure_wk (pure_fn 100 Tryz.func140 rfl rfl rfl fun B => ?_)
  show Goes _ _ _ _
  refine goes_own 7 3 rfl ?_
  refine goes_iter (ι := Nat × Nat) (fun i => i.1 ≤ n + 1) (fun i => n + 1 - i.1) (fun i => [(8, .int .i64 i.1), (7, .osl (.loc 2) i.2 0 (placesP first ((viewP la n).take i.1) ((viewP lb n).take i.1)).length), (2, .bool first), (3, .ptr (.loc 0) 0), (4, .ptr (.loc 1) 0)])
    (fun i => [some (.box (viewV la n).cells), some (.box (viewV lb n).cells), some (.vec i.2 3 ((placesP first ((viewP la n).take i.1) ((viewP lb n).take i.1)).map pieceV))]) (0, 0) 100 (fun _ => rfl) (fun _ => rfl)
    ⟨Nat.zero_le _, ⟨⟨rfl, rfl⟩, ⟨rfl, rfl⟩, ⟨rfl, rfl⟩, ⟨rfl, rfl⟩, ⟨rfl, rfl⟩, trivial⟩, ⟨⟨rfl, rfl⟩, ⟨rfl, rfl⟩, ⟨rfl, rfl⟩, trivial⟩⟩ ?_
  rintro ⟨i, g⟩ k1 next
  simp only at k1
  refine ⟨fun hlt => go 100 ?_, fun hge => go 100 ?_⟩
  · have hi : i < n + 1 := by have := lt_of hlt; simp at this; omega
    have px : ((List.range' 0 (n + 1)).map fun j => V.str (putAt la j))[i]? = some (.str (putAt la i)) := range_at _ hi
    have py : ((List.range' 0 (n + 1)).map fun j => V.str (putAt lb j))[i]? = some (.str (putAt lb i)) := range_at _ hi
    have dx : ((List.range' 0 (n + 1)).map fun j => V.bool (dropAt la j))[i]? = some (.bool (dropAt la i)) := range_at _ hi
    have dy : ((List.range' 0 (n + 1)).map fun j => V.bool (dropAt lb j))[i]? = some (.bool (dropAt lb i)) := range_at _ hi
    have hsn := placesP_snoc first (va := viewP la n) (vb := viewP lb n) (i := i) (by omega) (by omega)
    rw [viewP_at, viewP_at] at hsn
    obtain ⟨_, len2, _⟩ := places_nn first ((viewP la n).take i) ((viewP lb n).take i)
    have hl2 : (placesP first ((viewP la n).take i) ((viewP lb n).take i)).length ≤ 3 * i := by
      refine Nat.le_trans len2 ?_
      rw [List.length_take]
      omega
    obtain ⟨P, hP⟩ : ∃ P, placesP first ((viewP la n).take i) ((viewP lb n).take i) = P := ⟨_, rfl⟩
    have room1 : ∀ m : Nat, m ≤ 3 * i + 3 → room m 32 := fun m h => by unfold room; omega
    refine ⟨Int.natCast_nonneg i, _, py, ?_⟩
    refine ⟨Int.natCast_nonneg i, _, px, ?_⟩
    refine ⟨fun g1 => go 100 ?_, fun g1 => go 100 ?_⟩
    · refine ⟨⟨rfl, rfl, trivial⟩, rfl, rfl, rfl, by simp, room1 _ (by simp only [List.length_map, List.length_cons, List.length_nil]; omega), ?_⟩
      refine ⟨Int.natCast_nonneg i, _, dy, ?_⟩
      refine ⟨fun g2 => go 100 ?_, fun g2 => go 100 ?_⟩
      · have hQ : placeP first (putAt la i, dropAt la i) (putAt lb i, dropAt lb i) = [⟨0, 0, putAt la i⟩, ⟨(putAt lb i).length, 0, []⟩] := by unfold placeP; rw [g1, g2]; rfl
        refine ⟨⟨by omega, by omega⟩, ?_⟩
        show Goes _ _ _ _
        refine next (i + 1, bump g) _ _ ⟨hi, by simp only; omega, ⟨⟨rfl, rfl⟩, ⟨?_, rfl⟩, ⟨rfl, rfl⟩, ⟨rfl, rfl⟩, ⟨rfl, rfl⟩, trivial⟩, ⟨⟨rfl, rfl⟩, ⟨rfl, rfl⟩, ⟨?_, rfl⟩, trivial⟩⟩
        · exact congrArg (V.osl (.loc 2) (bump g) 0) (by rw [hsn, hQ, List.length_append, List.length_map]; rfl)
        · exact congrArg (fun z => some (HObj.vec (bump g) 3 z)) (by rw [hsn, hQ, List.map_append]; rfl)
      · refine ⟨Int.natCast_nonneg i, _, dx, ?_⟩
        refine ⟨fun g3 => go 100 ?_, fun g3 => go 100 ?_⟩
        · have hQ : placeP first (putAt la i, dropAt la i) (putAt lb i, dropAt lb i) = [⟨0, 0, putAt la i⟩, ⟨(putAt lb i).length, 0, []⟩, ⟨0, 1, []⟩] := by unfold placeP; rw [g1, g2, g3]; rfl
          refine ⟨⟨rfl, trivial⟩, rfl, rfl, rfl, by simp, room1 _ (by simp only [List.length_append, List.length_map, List.length_cons, List.length_nil]; omega), ?_⟩
          refine ⟨⟨by omega, by omega⟩, ?_⟩
          show Goes _ _ _ _
          refine next (i + 1, bump (bump g)) _ _ ⟨hi, by simp only; omega, ⟨⟨rfl, rfl⟩, ⟨?_, rfl⟩, ⟨rfl, rfl⟩, ⟨rfl, rfl⟩, ⟨rfl, rfl⟩, trivial⟩, ⟨⟨rfl, rfl⟩, ⟨rfl, rfl⟩, ⟨?_, rfl⟩, trivial⟩⟩
          · exact congrArg (V.osl (.loc 2) (bump (bump g)) 0) (by rw [hsn, hQ, List.length_append, List.length_append, List.length_map]; rfl)
          · exact congrArg (fun z => some (HObj.vec (bump (bump g)) 3 z)) (by rw [hsn, hQ, List.map_append, List.append_assoc]; rfl)
        · have hQ : placeP first (putAt la i, dropAt la i) (putAt lb i, dropAt lb i) = [⟨0, 0, putAt la i⟩, ⟨(putAt lb i).length, 0, []⟩, ⟨1, 0, []⟩] := by unfold placeP; rw [g1, g2, g3]; rfl
          refine ⟨⟨rfl, trivial⟩, rfl, rfl, rfl, by simp, room1 _ (by simp only [List.length_append, List.length_map, List.length_cons, List.length_nil]; omega), ?_⟩
          refine ⟨⟨by omega, by omega⟩, ?_⟩
          show Goes _ _ _ _
          refine next (i + 1, bump (bump g)) _ _ ⟨hi, by simp only; omega, ⟨⟨rfl, rfl⟩, ⟨?_, rfl⟩, ⟨rfl, rfl⟩, ⟨rfl, rfl⟩, ⟨rfl, rfl⟩, trivial⟩, ⟨⟨rfl, rfl⟩, ⟨rfl, rfl⟩, ⟨?_, rfl⟩, trivial⟩⟩
          · exact congrArg (V.osl (.loc 2) (bump (bump g)) 0) (by rw [hsn, hQ, List.length_append, List.length_append, List.length_map]; rfl)
          · exact congrArg (fun z => some (HObj.vec (bump (bump g)) 3 z)) (by rw [hsn, hQ, List.map_append, List.append_assoc]; rfl)
    · refine ⟨⟨rfl, rfl, trivial⟩, rfl, rfl, rfl, by simp, room1 _ (by simp only [List.length_map, List.length_cons, List.length_nil]; omega), ?_⟩
      refine ⟨Int.natCast_nonneg i, _, dy, ?_⟩
      refine ⟨fun g2 => go 100 ?_, fun g2 => go 100 ?_⟩
      · have hQ : placeP first (putAt la i, dropAt la i) (putAt lb i, dropAt lb i) = [⟨(putAt lb i).length, 0, []⟩, ⟨0, 0, putAt la i⟩] := by unfold placeP; rw [g1, g2]; rfl
        refine ⟨⟨by omega, by omega⟩, ?_⟩
        show Goes _ _ _ _
        refine next (i + 1, bump g) _ _ ⟨hi, by simp only; omega, ⟨⟨rfl, rfl⟩, ⟨?_, rfl⟩, ⟨rfl, rfl⟩, ⟨rfl, rfl⟩, ⟨rfl, rfl⟩, trivial⟩, ⟨⟨rfl, rfl⟩, ⟨rfl, rfl⟩, ⟨?_, rfl⟩, trivial⟩⟩
        · exact congrArg (V.osl (.loc 2) (bump g) 0) (by rw [hsn, hQ, List.length_append, List.length_map]; rfl)
        · exact congrArg (fun z => some (HObj.vec (bump g) 3 z)) (by rw [hsn, hQ, List.map_append]; rfl)
      · refine ⟨Int.natCast_nonneg i, _, dx, ?_⟩
        refine ⟨fun g3 => go 100 ?_, fun g3 => go 100 ?_⟩
        · have hQ : placeP first (putAt la i, dropAt la i) (putAt lb i, dropAt lb i) = [⟨(putAt lb i).length, 0, []⟩, ⟨0, 0, putAt la i⟩, ⟨0, 1, []⟩] := by unfold placeP; rw [g1, g2, g3]; rfl
          refine ⟨⟨rfl, trivial⟩, rfl, rfl, rfl, by simp, room1 _ (by simp only [List.length_append, List.length_map, List.length_cons, List.length_nil]; omega), ?_⟩
          refine ⟨⟨by omega, by omega⟩, ?_⟩
          show Goes _ _ _ _
          refine next (i + 1, bump (bump g)) _ _ ⟨hi, by simp only; omega, ⟨⟨rfl, rfl⟩, ⟨?_, rfl⟩, ⟨rfl, rfl⟩, ⟨rfl, rfl⟩, ⟨rfl, rfl⟩, trivial⟩, ⟨⟨rfl, rfl⟩, ⟨rfl, rfl⟩, ⟨?_, rfl⟩, trivial⟩⟩
          · exact congrArg (V.osl (.loc 2) (bump (bump g)) 0) (by rw [hsn, hQ, List.length_append, List.length_append, List.length_map]; rfl)
          · exact congrArg (fun z => some (HObj.vec (bump (bump g)) 3 z)) (by rw [hsn, hQ, List.map_append, List.append_assoc]; rfl)
        · have hQ : placeP first (putAt la i, dropAt la i) (putAt lb i, dropAt lb i) = [⟨(putAt lb i).length, 0, []⟩, ⟨0, 0, putAt la i⟩, ⟨1, 0, []⟩] := by unfold placeP; rw [g1, g2, g3]; rfl
          refine ⟨⟨rfl, trivial⟩, rfl, rfl, rfl, by simp, room1 _ (by simp only [List.length_append, List.length_map, List.length_cons, List.length_nil]; omega), ?_⟩
          refine ⟨⟨by omega, by omega⟩, ?_⟩
          show Goes _ _ _ _
          refine next (i + 1, bump (bump g)) _ _ ⟨hi, by simp only; omega, ⟨⟨rfl, rfl⟩, ⟨?_, rfl⟩, ⟨rfl, rfl⟩, ⟨rfl, rfl⟩, ⟨rfl, rfl⟩, trivial⟩, ⟨⟨rfl, rfl⟩, ⟨rfl, rfl⟩, ⟨?_, rfl⟩, trivial⟩⟩
          · exact congrArg (V.osl (.loc 2) (bump (bump g)) 0) (by rw [hsn, hQ, List.length_append, List.length_append, List.length_map]; rfl)
          · exact congrArg (fun z => some (HObj.vec (bump (bump g)) 3 z)) (by rw [hsn, hQ, List.map_append, List.append_assoc]; rfl)
  · have hi : i = n + 1 := by have := not_lt_of hge; simp at this; omega
    subst hi
    have e1 : (viewP la n).take (n + 1) = viewP la n := List.take_of_length_le (by omega)
    have e2 : (viewP lb n).take (n + 1) = viewP lb n := List.take_of_length_le (by omega)
    have hnorm' : Pure Tryz.prog 138 [.sl 3 ((placesP first ((viewP la n).take (n + 1)) ((viewP lb n).take (n + 1))).map pieceV)] (fun x => x = piecesV (normP (placesP first (viewP la n) (viewP lb n)))) := by
      rw [e1, e2]
      exact hnorm
    show CallThen _ _ _ _ _ _
    refine call_pure_frz ?_
    refine ⟨rfl, by simp, _, hnorm', rfl, ?_⟩
    rintro x rfl
    exact ⟨trivial, rfl, rfl, rfl, _, Wk.refl _, rfl, rfl⟩

/-! ### Transform -/
theorem norm_big {l : List PieceT} (h : ∀ p ∈ l, p.Nn) (W : Int) (hw : 2 * sumW l ≤ W) : (∀ p ∈ normP l, p.Nn) ∧ sumW (normP l) ≤ W ∧ ((normP l).length : Int) ≤ W ∧ ∀ p ∈ normP l, (p.put.length : Int) ≤ W := by
  obtain ⟨q1, q2⟩ := foldl_ok (l := l) Mk.nil_ok h
  have d1 := q1.k
  have d5 : Mk.nil.w = 0 := rfl
  have d6 : (l.foldl Mk.piece Mk.nil).w = (l.foldl Mk.piece Mk.nil).keep + sumW (normP l) := rfl
  have d2 : ((normP l).length : Int) ≤ sumW (normP l) := sumW_len q1.l
  refine ⟨q1.l, by omega, by omega, fun p hp => ?_⟩
  have h1 := sumW_mem q1.l p hp
  have h2 := (q1.l p hp).k
  have h3 := (q1.l p hp).d
  unfold PieceT.w at h1
  have h1 : p.keep + p.drop + p.put.length + 1 ≤ sumW (normP l) := h1
  omega
def TrV (r : List PieceT × List PieceT × Int) : V := .tup [piecesV r.1, piecesV r.2.1, .int .i64 r.2.2]
theorem leafT {r : List PieceT × List PieceT × Int} {e : Int} (h : r = ([], [], e)) : ∃ y, Wk (.tup [.nilsl, .nilsl, .int .i64 e]) y ∧ y.pureB = true ∧ y = TrV r := ⟨TrV ([], [], e), Wk.tup ⟨Wk.nil 3, Wk.nil 3, .refl _, trivial⟩, rfl, by rw [h]⟩
set_option pp.maxSteps 300 in
set_option maxHeartbeats 2000000 in
set_option maxRecDepth 100000 in
theorem w_ref5Trans (a b : List PieceT) (prior : Bool) (la : a.length ≤ 1000000) (lb : b.length ≤ 1000000) (pa : ∀ p ∈ a, p.put.length ≤ 1000000000) (pb : ∀ p ∈ b, p.put.length ≤ 1000000000) :
    Pure Tryz.prog 98 [piecesV a, piecesV b, .bool prior] (fun x => x = TrV (transP a b prior)) := by
  rw [← transR_eq]
  obtain ⟨R, hR⟩ : ∃ R, transR a b prior = R := ⟨_, rfl⟩
  rw [hR]
  refine pure_wk (pure_fn 100 Tryz.func98 rfl rfl rfl fun B => ?_)
  show CallThen _ _ _ _ _ _
  refine call_pure (w_refRight a la pa) rfl ?_
  rintro x rfl
  refine ⟨fun g1 => go 100 ?_, fun g1 => go 100 ?_⟩
  · have g1 : rightP a = false := by simpa using g1
    exact ⟨trivial, rfl, rfl, rfl, leafT (by rw [← hR]; unfold transR; rw [g1]; rfl)⟩
  have ra : rightP a = true := by simpa using g1
  show CallThen _ _ _ _ _ _
  refine call_pure (w_refRight b lb pb) rfl ?_
  rintro x rfl
  refine ⟨fun g2 => go 100 ?_, fun g2 => go 100 ?_⟩
  · have g2 : rightP b = false := by simpa using g2
    exact ⟨trivial, rfl, rfl, rfl, leafT (by rw [← hR]; unfold transR; rw [ra, g2]; rfl)⟩
  have rb : rightP b = true := by simpa using g2
  obtain ⟨na, wa⟩ := right_nn ra
  obtain ⟨nb, wb⟩ := right_nn rb
  have ca := w_ref5norm a na (by omega)
  have cb := w_ref5norm b nb (by omega)
  obtain ⟨qa1, qa2, _, _⟩ := norm_big na 40000000000 (by omega)
  obtain ⟨qb1, qb2, _, _⟩ := norm_big nb 40000000000 (by omega)
  have rna := norm_rn ra
  have rnb := norm_rn rb
  have hT : R = bif !rightP (normP (placesP prior (viewP (normP a) (max (extN (normP a)) (extN (normP b)))) (viewP (normP b) (max (extN (normP a)) (extN (normP b)))))) || !rightP (normP (placesP (!prior) (viewP (normP b) (max (extN (normP a)) (extN (normP b)))) (viewP (normP a) (max (extN (normP a)) (extN (normP b)))))) then ([], [], 3) else (normP (placesP prior (viewP (normP a) (max (extN (normP a)) (extN (normP b)))) (viewP (normP b) (max (extN (normP a)) (extN (normP b))))), normP (placesP (!prior) (viewP (normP b) (max (extN (normP a)) (extN (normP b)))) (viewP (normP a) (max (extN (normP a)) (extN (normP b))))), 0) := by
    rw [← hR]
    unfold transR
    rw [ra, rb]
    rfl
  have ea := extN_le qa1
  have eb := extN_le qb1
  have cea := w_ref5Extent _ qa1 (by omega)
  have ceb := w_ref5Extent _ qb1 (by omega)
  generalize normP a = A at *
  generalize normP b = B' at *
  obtain ⟨N, hN⟩ : ∃ N, max (extN A) (extN B') = N := ⟨_, rfl⟩
  rw [hN] at hT
  have hmax : (if ((extN B' : Nat) : Int) > ((extN A : Nat) : Int) then ((extN B' : Nat) : Int) else ((extN A : Nat) : Int)) = (N : Int) := by
    split <;> omega
  have cva := w_view A N rna (by omega) (by omega) (by omega)
  have cvb := w_view B' N rnb (by omega) (by omega) (by omega)
  have cx := w_behind5 A B' N prior rna rnb (by omega) (by omega) (by omega)
  have cy := w_behind5 B' A N (!prior) rnb rna (by omega) (by omega) (by omega)
  have sA := sumL_view rna N
  have sB := sumL_view rnb N
  have lA := viewP_len A N
  have lB := viewP_len B' N
  obtain ⟨x1, _, x3⟩ := places_nn prior (viewP A N) (viewP B' N)
  obtain ⟨y1, _, y3⟩ := places_nn (!prior) (viewP B' N) (viewP A N)
  obtain ⟨_, _, x4, x5⟩ := norm_big x1 1000000000000 (by omega)
  obtain ⟨_, _, y4, y5⟩ := norm_big y1 1000000000000 (by omega)
  have crx := w_refRightW (normP (placesP prior (viewP A N) (viewP B' N))) (by omega) (fun p hp => by have := x5 p hp; omega)
  have cry := w_refRightW (normP (placesP (!prior) (viewP B' N) (viewP A N))) (by omega) (fun p hp => by have := y5 p hp; omega)
  generalize normP (placesP prior (viewP A N) (viewP B' N)) = X at *
  generalize normP (placesP (!prior) (viewP B' N) (viewP A N)) = Y at *
  show CallThen _ _ _ _ _ _
  refine call_pure ca rfl ?_
  rintro x rfl
  show CallThen _ _ _ _ _ _
  refine call_pure cb rfl ?_
  rintro x rfl
  show CallThen _ _ _ _ _ _
  refine call_pure cea rfl ?_
  rintro x rfl
  show CallThen _ _ _ _ _ _
  refine call_pure ceb rfl ?_
  rintro x rfl
  have cva' : Pure Tryz.prog 139 [piecesV A, .int .i64 (if ((extN B' : Nat) : Int) > ((extN A : Nat) : Int) then ((extN B' : Nat) : Int) else ((extN A : Nat) : Int))] (fun x => x = viewV A N) := by rw [hmax]; exact cva
  have cvb' : Pure Tryz.prog 139 [piecesV B', .int .i64 (if ((extN B' : Nat) : Int) > ((extN A : Nat) : Int) then ((extN B' : Nat) : Int) else ((extN A : Nat) : Int))] (fun x => x = viewV B' N) := by rw [hmax]; exact cvb
  show CallThen _ _ _ _ _ _
  refine call_pure cva' rfl ?_
  rintro x rfl
  show CallThen _ _ _ _ _ _
  refine call_pure cvb' rfl ?_
  rintro x rfl
  show Goes _ _ _ _
  refine goes_draw 60 ⟨_, cx, rfl, _, cy, rfl, ?_⟩
  refine ⟨by kernel_rfl, ?_⟩
  show CallThen _ _ _ _ _ _
  refine call_pure crx rfl ?_
  rintro x rfl
  refine ⟨fun g3 => go 100 ?_, fun g3 => go 100 ?_⟩
  · have g3 : rightP X = false := by simpa using g3
    exact ⟨trivial, rfl, rfl, rfl, leafT (by rw [hT, g3]; rfl)⟩
  have g3 : rightP X = true := by simpa using g3
  show CallThen _ _ _ _ _ _
  refine call_pure cry rfl ?_
  rintro x rfl
  refine ⟨fun g4 => go 100 ?_, fun g4 => go 100 ?_⟩
  · have g4 : rightP Y = false := by simpa using g4
    exact ⟨trivial, rfl, rfl, rfl, leafT (by rw [hT, g3, g4]; rfl)⟩
  have g4 : rightP Y = true := by simpa using g4
  exact ⟨trivial, rfl, rfl, rfl, TrV (X, Y, 0), Wk.refl _, rfl, by rw [hT, g3, g4]; rfl⟩
end Bow
/- W71: the document's answer of chapter 12: what becomes of an operation behind another one. -/
namespace Bow
open Go Go.Proofs

theorem w_one (o : OpT) : Pure Tryz.prog 94 [opV o] (fun x => x = opsV [o]) := by
  refine pure_fn 300 Tryz.func94 rfl rfl rfl fun B => ?_
  refine ⟨⟨rfl, trivial⟩, ?_⟩
  exact ⟨trivial, rfl, rfl, rfl, rfl, rfl, rfl⟩
theorem w_keep (h : Bool) (l : List OpT) : Pure Tryz.prog 97 [.bool h, opsV l] (fun x => x = opsV (bif h then l else [])) := by
  refine pure_wk (pure_fn 300 Tryz.func97 rfl rfl rfl fun B => ?_)
  refine ⟨fun g => go 300 ?_, fun g => go 300 ?_⟩
  · have g : h = false := by simpa using g
    exact ⟨trivial, rfl, rfl, rfl, opsV [], Wk.nil 11, rfl, by rw [g]; rfl⟩
  · have g : h = true := by simpa using g
    exact ⟨trivial, rfl, rfl, rfl, opsV l, Wk.refl _, rfl, by rw [g]; rfl⟩
theorem w_drop12 (p : List Int) : Pure Tryz.prog 95 [pathV p] (fun x => x = opV (dropO p)) := by
  refine pure_wk (pure_fn 300 Tryz.func95 rfl rfl rfl fun B => ?_)
  exact ⟨trivial, rfl, rfl, rfl, opV (dropO p), Wk.agg ⟨.refl _, .refl _, .refl _, Wk.nil 1, .refl _, Wk.ff, .refl _, .refl _, .refl _, Wk.ff, Wk.nil 3, trivial⟩, rfl, rfl⟩
set_option maxRecDepth 100000 in
theorem w_Sound12 (o : OpT) (ho : o.Ok) : Pure Tryz.prog 67 [opV o] (fun x => x = .bool (soundO o)) := by
  refine pure_wk (pure_fn 300 Tryz.func67 rfl rfl rfl fun B => ?_)
  have hW := w_refWithin o.path o.to ho.lt.path
  show CallThen _ _ _ _ _ _
  refine call_pure (w_refFormed o ho.lt ho.each) rfl ?_
  rintro x rfl
  repeat' first
    | (refine ⟨fun _ => go 300 ?_, fun _ => go 300 ?_⟩)
    | (show CallThen _ _ _ _ _ _; refine call_pure hW rfl ?_; rintro z rfl)
    | (refine ⟨trivial, rfl, rfl, rfl, leaf_tt ?_⟩)
    | (refine ⟨trivial, rfl, rfl, rfl, leaf_ff ?_⟩)
    | (refine ⟨trivial, rfl, rfl, rfl, leaf_b ?_⟩)
    | fail
  all_goals clear hW
  all_goals (unfold soundO; cases hf : formedB o with
    | false => simp_all
    | true => rcases formed_kinds hf with k | k | k | k | k | k <;> simp_all <;> (try intro _) <;> exact List.length_pos_iff.2 (by assumption))

theorem gapP_node (o : OpT) (p : List Int) (n : Int) (f : Bool) : (gapP o p n f).1 = (nodeP o p).getD [] := by
  unfold gapP
  cases nodeP o p with
  | none => rfl
  | some q => cases movesO o <;> rfl
set_option maxHeartbeats 4000000 in
set_option maxRecDepth 100000 in
theorem w_row9 (b a : OpT) (prior : Bool) (ha : a.Ok) (hb : b.Ok) (hf : formedB b = true) :
    Pure Tryz.prog 99 [opV b, opV a, .bool prior] (fun x => x = opV (shiftedO b a prior)) := by
  have hpl := may_len (formed_path hf)
  have hps := may_step (formed_path hf)
  refine pure_fn 300 Tryz.func99 rfl rfl rfl fun B => ?_
  refine ⟨fun g1 => go 300 ?_, fun g1 => go 300 ?_⟩
  · have hk : b.kind = 1 := eq_of g1
    have hg := formed_gap hf (.inl hk)
    show CallThen _ _ _ _ _ _
    refine call_pure (w_refGap a b.path b.at_ prior ha (by omega) hps ⟨by omega, by omega⟩) rfl ?_
    rintro x rfl
    refine ⟨trivial, rfl, rfl, rfl, ?_⟩
    have e := gapP_node a b.path b.at_ prior
    unfold shiftedO
    rw [decide_eq_true hk, ← e]
    rfl
  have hk1 : b.kind ≠ 1 := ne_of g1
  refine ⟨fun g2 => go 300 ?_, fun g2 => go 300 ?_⟩
  · have hk : b.kind = 3 := eq_of g2
    have hg := formed_gap hf (.inr hk)
    have htl := may_len (good_to hf hk)
    have hts := may_step (good_to hf hk)
    show CallThen _ _ _ _ _ _
    refine call_pure (w_refNode a b.path ha (by omega) hps) rfl ?_
    rintro x rfl
    show CallThen _ _ _ _ _ _
    refine call_pure (w_refGap a b.to b.at_ prior ha (by omega) hts ⟨by omega, by omega⟩) rfl ?_
    rintro x rfl
    refine ⟨trivial, rfl, rfl, rfl, ?_⟩
    unfold shiftedO
    rw [decide_eq_false hk1, decide_eq_true hk]
    rfl
  · have hk3 : b.kind ≠ 3 := ne_of g2
    show CallThen _ _ _ _ _ _
    refine call_pure (w_refNode a b.path ha (by omega) hps) rfl ?_
    rintro x rfl
    refine ⟨trivial, rfl, rfl, rfl, ?_⟩
    unfold shiftedO
    rw [decide_eq_false hk1, decide_eq_false hk3]
    rfl

theorem leafO {l r : List OpT} (h : r = l) : ∃ y, Wk (opsV l) y ∧ y.pureB = true ∧ y = opsV r := ⟨opsV r, by rw [h]; exact Wk.refl _, rfl, rfl⟩
set_option maxHeartbeats 4000000 in
set_option maxRecDepth 100000 in
theorem w_twoMoves (b a : OpT) (prior : Bool) (ha : a.Ok) (hb : b.Ok) (fa : formedB a = true) (fb : formedB b = true) (ka : a.kind = 3) (kb : b.kind = 3) :
    Pure Tryz.prog 96 [opV b, opV a, .bool prior] (fun x => x = opsV (rowO b a prior)) := by
  have pa := may_len (formed_path fa)
  have pb := may_len (formed_path fb)
  have hrow : rowO b a prior = bif decide (a.path = b.path) then (bif prior then [shiftedO b a prior] else []) else bif within b.path a.to && within a.path b.to then (bif prior then [undoO a, b] else []) else [shiftedO b a prior] := by
    unfold rowO wonO
    rw [ka, kb]
    simp
  have h9 := w_row9 b a prior ha hb fb
  have c1 := w_refSame a.path b.path (by omega)
  have c2 := w_refWithin b.path a.to (by omega)
  have c3 := w_refWithin a.path b.to (by omega)
  have ck1 := w_keep prior [shiftedO b a prior]
  have ck2 := w_keep prior [undoO a, b]
  rw [hrow]
  clear hrow
  refine pure_wk (pure_fn 300 Tryz.func96 rfl rfl rfl fun B => ?_)
  show CallThen _ _ _ _ _ _
  refine call_pure c1 rfl ?_
  rintro x rfl
  refine ⟨fun g1 => go 300 ?_, fun g1 => go 300 ?_⟩
  · show CallThen _ _ _ _ _ _
    refine call_pure h9 rfl ?_
    rintro x rfl
    show CallThen _ _ _ _ _ _
    refine call_pure (w_one _) rfl ?_
    rintro x rfl
    show CallThen _ _ _ _ _ _
    refine call_pure ck1 rfl ?_
    rintro x rfl
    exact ⟨trivial, rfl, rfl, rfl, leafO (by rw [g1]; rfl)⟩
  show CallThen _ _ _ _ _ _
  refine call_pure c2 rfl ?_
  rintro x rfl
  refine ⟨fun g2 => go 300 ?_, fun g2 => go 300 ?_⟩
  · show CallThen _ _ _ _ _ _
    refine call_pure c3 rfl ?_
    rintro x rfl
    refine ⟨fun g3 => go 300 ?_, fun g3 => go 300 ?_⟩
    · show Goes _ _ _ _
      refine goes_draw 300 ⟨_, w_ref11Undo a ha, rfl, rfl, ⟨rfl, rfl, trivial⟩, by kernel_rfl, rfl, rfl, _, ck2, rfl, ?_⟩
      refine ⟨by kernel_rfl, ?_⟩
      exact ⟨trivial, rfl, rfl, rfl, leafO (by rw [g1, g2, g3]; rfl)⟩
    · show CallThen _ _ _ _ _ _
      refine call_pure h9 rfl ?_
      rintro x rfl
      show CallThen _ _ _ _ _ _
      refine call_pure (w_one _) rfl ?_
      rintro x rfl
      exact ⟨trivial, rfl, rfl, rfl, leafO (by rw [g1, g2, g3]; rfl)⟩
  · show CallThen _ _ _ _ _ _
    refine call_pure h9 rfl ?_
    rintro x rfl
    show CallThen _ _ _ _ _ _
    refine call_pure (w_one _) rfl ?_
    rintro x rfl
    exact ⟨trivial, rfl, rfl, rfl, leafO (by rw [g1, g2]; rfl)⟩
def RowV (l : List OpT) : V := .tup [opsV l, .int .i64 0]
theorem leafR {l r : List OpT} (h : r = l) : ∃ y, Wk (.tup [opsV l, .int .i64 0]) y ∧ y.pureB = true ∧ y = RowV r := ⟨RowV r, by rw [h]; exact Wk.refl _, rfl, rfl⟩
theorem leafR0 {r : List OpT} (h : r = []) : ∃ y, Wk (.tup [.nilsl, .int .i64 0]) y ∧ y.pureB = true ∧ y = RowV r := ⟨RowV [], Wk.tup ⟨Wk.nil 11, .refl _, trivial⟩, rfl, by rw [h]⟩
theorem node_idle {a : OpT} (h : a.kind ≠ 1 ∧ a.kind ≠ 2 ∧ a.kind ≠ 3) : movesO a = false := by
  unfold movesO
  rw [decide_eq_false h.1, decide_eq_false h.2.1, decide_eq_false h.2.2]
  simp
/-- Behind an operation that moves no node nothing is shifted. -/
theorem shifted_idle {a : OpT} (b : OpT) (p : Bool) (h : a.kind ≠ 1 ∧ a.kind ≠ 2 ∧ a.kind ≠ 3) : shiftedO b a p = b := by
  have hm := node_idle h
  have hg : ∀ q n f, gapP a q n f = (q, n, true) := fun q n f => by unfold gapP; rw [node_still q hm, hm]; rfl
  unfold shiftedO
  rw [node_still b.path hm, hg, hg]
  simp only [Option.getD_some]
  cases decide (b.kind = 1) <;> cases decide (b.kind = 3) <;> rfl
theorem within_eq {p q : List Int} (h : within p q = true) (hl : q.length ≤ p.length) : p = q := by
  unfold within at h
  rw [List.take_of_length_le hl] at h
  exact of_decide_eq_true h
theorem eqB {a b : Int} {p : Prop} (h : (a = b) → p) (g : decide (a = b) = true) : p := h (eq_of g)
theorem neB {a b : Int} {p : Prop} (h : (a ≠ b) → p) (g : decide (a = b) = false) : p := h (ne_of g)
set_option maxHeartbeats 8000000 in
set_option maxRecDepth 100000 in
theorem w_behind12 (b a : OpT) (prior : Bool) (ha : a.Ok) (hb : b.Ok) (sa : soundO a = true) (sb : soundO b = true) (he : bothEdit b a = false) :
    Pure Tryz.prog 68 [opV b, opV a, .bool prior] (fun x => x = RowV (rowO b a prior)) := by
  have fa : formedB a = true := by unfold soundO at sa; rw [Bool.and_eq_true] at sa; exact sa.1
  have fb : formedB b = true := by unfold soundO at sb; rw [Bool.and_eq_true] at sb; exact sb.1
  have pa := may_len (formed_path fa)
  have pb := may_len (formed_path fb)
  have qa := may_step (formed_path fa)
  have qb := may_step (formed_path fb)
  have ka := formed_kinds fa
  have kb := formed_kinds fb
  have h9 := w_row9 b a prior ha hb fb
  have c1 := w_refSame a.path b.path (by omega)
  have c2 := w_refWithin a.path b.path (by omega)
  have c3 := w_refWithin a.path b.to (by omega)
  have c4 := w_refWithin b.path a.path (by omega)
  have c5 := w_refWithin b.path a.to (by omega)
  have n1 := w_refNode a b.path ha (by omega) qb
  have n2 := w_refNode a a.path ha (by omega) qa
  have hna := nodeP_len64 a a.path
  have hnb := nodeP_len64 a b.path
  have hqs := node_steps (a := a) (p := b.path) (may_strict (formed_path fb))
  have d1 := w_drop12 ((nodeP a b.path).getD [])
  have d2 := w_drop12 ((nodeP a a.path).getD [])
  have n3 := w_refNode (dropO ((nodeP a a.path).getD [])) ((nodeP a b.path).getD []) (drop_ok (by omega)) (by omega) hqs
  have d3 := w_drop12 ((nodeP (dropO ((nodeP a a.path).getD [])) ((nodeP a b.path).getD [])).getD [])
  have o1 := w_one (shiftedO b a prior)
  have o2 := w_one b
  have o3 := w_one (dropO ((nodeP a b.path).getD []))
  have k1 := w_keep prior [b]
  have len : ∀ p : List Int, (List.map intV p).length = p.length := fun p => List.length_map _
  refine pure_wk (pure_fn 100 Tryz.func68 rfl rfl rfl fun B => ?_)
  repeat' first
    | (refine ⟨fun g => absurd (eq_of g) (by omega), fun _ => go 100 ?_⟩)
    | (refine ⟨fun _ => go 100 ?_, fun g => absurd (by omega) (ne_of g)⟩)
    | (refine ⟨fun g => absurd (lt_of g) (by simp only [len]; omega), fun _ => go 100 ?_⟩)
    | (refine ⟨eqB fun k => go 100 ?_, neB fun k => go 100 ?_⟩)
    | (refine ⟨fun _ => go 100 ?_, fun _ => go 100 ?_⟩)
    | (show CallThen _ _ _ _ _ _; refine call_pure c1 rfl ?_; rintro z rfl)
    | (show CallThen _ _ _ _ _ _; refine call_pure c2 rfl ?_; rintro z rfl)
    | (show CallThen _ _ _ _ _ _; refine call_pure c3 rfl ?_; rintro z rfl)
    | (show CallThen _ _ _ _ _ _; refine call_pure c4 rfl ?_; rintro z rfl)
    | (show CallThen _ _ _ _ _ _; refine call_pure c5 rfl ?_; rintro z rfl)
    | (show CallThen _ _ _ _ _ _; refine call_pure n1 rfl ?_; rintro z rfl)
    | (show CallThen _ _ _ _ _ _; refine call_pure n2 rfl ?_; rintro z rfl)
    | (show CallThen _ _ _ _ _ _; refine call_pure n3 rfl ?_; rintro z rfl)
    | (show CallThen _ _ _ _ _ _; refine call_pure d1 rfl ?_; rintro z rfl)
    | (show CallThen _ _ _ _ _ _; refine call_pure d2 rfl ?_; rintro z rfl)
    | (show CallThen _ _ _ _ _ _; refine call_pure d3 rfl ?_; rintro z rfl)
    | (show CallThen _ _ _ _ _ _; refine call_pure h9 rfl ?_; rintro z rfl)
    | (show CallThen _ _ _ _ _ _; refine call_pure o1 rfl ?_; rintro z rfl)
    | (show CallThen _ _ _ _ _ _; refine call_pure o2 rfl ?_; rintro z rfl)
    | (show CallThen _ _ _ _ _ _; refine call_pure o3 rfl ?_; rintro z rfl)
    | (show CallThen _ _ _ _ _ _; refine call_pure k1 rfl ?_; rintro z rfl)
    | (show CallThen _ _ _ _ _ _; refine call_pure (w_twoMoves b a prior ha hb fa fb (by omega) (by omega)) rfl ?_; rintro z rfl)
    | (refine ⟨trivial, rfl, rfl, rfl, leafR0 ?_⟩)
    | (refine ⟨trivial, rfl, rfl, rfl, leafR ?_⟩)
    | (refine ⟨⟨rfl, rfl, trivial⟩, ?_⟩; refine ⟨trivial, rfl, rfl, rfl, rfl, rfl, leafR (l := [dropO ((nodeP a a.path).getD []), dropO ((nodeP (dropO ((nodeP a a.path).getD [])) ((nodeP a b.path).getD [])).getD [])]) ?_⟩)
    | fail
  all_goals clear c1 c2 c3 c4 c5 n1 n2 n3 d1 d2 d3 o1 o2 o3 k1 h9
  all_goals try rfl
  all_goals try (exfalso; have hk6 : a.kind = 6 := (by omega); unfold bothEdit at he; simp_all; done)
  all_goals (unfold rowO wonO)
  all_goals try (simp_all; done)
  all_goals first
    | (have hid : shiftedO b a prior = b := shifted_idle b prior ⟨by omega, by omega, by omega⟩; rw [hid]; simp_all; done)
    | (have hne : ¬ b.path = a.path := (by intro e; simp_all); simp_all; done)
    | (cases hw : within b.path a.path with
       | false => simp_all
       | true =>
         have hl := within_len hw
         have hge : a.path.length ≤ b.path.length := by simp_all
         have heq := within_eq hw hge
         simp_all)
set_option pp.maxSteps 300 in
set_option maxHeartbeats 4000000 in
set_option maxRecDepth 100000 in
theorem w_behind12E (b a : OpT) (prior : Bool) (ha : a.Ok) (hb : b.Ok) (sa : soundO a = true) (sb : soundO b = true) (he : bothEdit b a = true) :
    Pure Tryz.prog 68 [opV b, opV a, .bool prior] (fun x => x = .tup [opsV [editO b a prior], .int .i64 (transP b.pieces a.pieces prior).2.2]) := by
  unfold bothEdit at he
  simp only [Bool.and_eq_true, decide_eq_true_eq] at he
  obtain ⟨k1, k2, k3⟩ := he
  have fa : formedB a = true := by unfold soundO at sa; rw [Bool.and_eq_true] at sa; exact sa.1
  have fb : formedB b = true := by unfold soundO at sb; rw [Bool.and_eq_true] at sb; exact sb.1
  have pa := may_len (formed_path fa)
  obtain ⟨l1, l2⟩ := right_bounds (formed_pieces fa k1)
  obtain ⟨l3, l4⟩ := right_bounds (formed_pieces fb k2)
  have ct := w_ref5Trans b.pieces a.pieces prior (by omega) (by omega) l4 l2
  have c1 := w_refSame a.path b.path (by omega)
  rw [decide_eq_true k3] at c1
  have o1 := w_one (editO b a prior)
  have ee : editO b a prior = { b with pieces := (transP b.pieces a.pieces prior).1 } := rfl
  rw [ee] at o1 ⊢
  clear ee
  obtain ⟨⟨r1, r2, e⟩, hr⟩ : ∃ r, transP b.pieces a.pieces prior = r := ⟨_, rfl⟩
  rw [hr] at ct o1 ⊢
  refine pure_fn 100 Tryz.func68 rfl rfl rfl fun B => ?_
  refine ⟨fun g => go 100 ?_, fun g => absurd (by omega) (ne_of g)⟩
  show CallThen _ _ _ _ _ _
  refine call_pure c1 rfl ?_
  rintro x rfl
  refine ⟨fun g => absurd (eq_of g) (by omega), fun _ => go 100 ?_⟩
  refine ⟨fun g => absurd (eq_of g) (by omega), fun _ => go 100 ?_⟩
  refine ⟨fun g => absurd (eq_of g) (by omega), fun _ => go 100 ?_⟩
  refine ⟨fun g => absurd (eq_of g) (by omega), fun _ => go 100 ?_⟩
  refine ⟨fun _ => go 100 ?_, fun g => (by cases g)⟩
  refine ⟨fun g => absurd (eq_of g) (by omega), fun _ => go 100 ?_⟩
  refine ⟨fun _ => go 100 ?_, fun g => (by cases g)⟩
  refine ⟨fun g => absurd (eq_of g) (by omega), fun _ => go 100 ?_⟩
  refine ⟨fun _ => go 100 ?_, fun g => (by cases g)⟩
  refine ⟨fun _ => go 100 ?_, fun g => absurd (by omega) (ne_of g)⟩
  show CallThen _ _ _ _ _ _
  refine call_pure ct rfl ?_
  rintro x rfl
  show CallThen _ _ _ _ _ _
  refine call_pure o1 rfl ?_
  rintro x rfl
  exact ⟨trivial, rfl, rfl, rfl, rfl⟩
end Bow
/- W72: the document's Behind and Both (chapter 12); the law SquareBehind, walked. -/
namespace Bow
open Go Go.Proofs

theorem row_ok' {b a : OpT} {prior : Bool} (ha : a.Ok) (hb : b.Ok) (sa : soundO a = true) (sb : soundO b = true) (hto : a.to.length ≤ 1000 ∧ b.to.length ≤ 1000) : ∀ o ∈ rowO b a prior, o.Ok := by
  have fa : formedB a = true := by unfold soundO at sa; rw [Bool.and_eq_true] at sa; exact sa.1
  have fb : formedB b = true := by unfold soundO at sb; rw [Bool.and_eq_true] at sb; exact sb.1
  have pa := may_len (formed_path fa)
  have pb := may_len (formed_path fb)
  exact row_ok (prior := prior) ha hb (by omega) (by omega) hto.1 hto.2
/-- What behind hands to Behind. -/
def rowX (b a : OpT) (prior : Bool) : List OpT × Int := bif bothEdit b a then ([editO b a prior], (transP b.pieces a.pieces prior).2.2) else (rowO b a prior, 0)
theorem w_behind12X (b a : OpT) (prior : Bool) (ha : a.Ok) (hb : b.Ok) (sa : soundO a = true) (sb : soundO b = true) :
    Pure Tryz.prog 68 [opV b, opV a, .bool prior] (fun x => x = BehV (rowX b a prior)) := by
  unfold rowX
  cases he : bothEdit b a with
  | false => exact w_behind12 b a prior ha hb sa sb he
  | true => exact w_behind12E b a prior ha hb sa sb he
theorem rowX_len (b a : OpT) (prior : Bool) : (rowX b a prior).1.length ≤ 2 := by
  unfold rowX
  cases bothEdit b a with
  | false => exact row_len b a prior
  | true => exact Nat.le_succ _
theorem behX_rowX {b a : OpT} {prior : Bool} (sa : soundO a = true) (sb : soundO b = true) : behindX b a prior = bif !decide ((rowX b a prior).2 = 0) then ([], 3) else bif (rowX b a prior).1.all formedB then (bareL (rowX b a prior).1, 0) else ([], 3) := by
  unfold behindX rowX
  cases bothEdit b a with
  | false =>
    unfold behindO
    rw [sa, sb]
    rfl
  | true =>
    simp only [cond_true]
    unfold behindE
    rw [sa, sb]
    simp only [Bool.not_true, Bool.or_self, cond_false]
    cases decide ((transP b.pieces a.pieces prior).2.2 = 0) with
    | false => rfl
    | true =>
      simp only [Bool.true_and, Bool.not_true, cond_false, List.all_cons, List.all_nil, Bool.and_true]
      rfl
set_option pp.maxSteps 300 in
set_option maxHeartbeats 4000000 in
set_option maxRecDepth 100000 in
theorem w_refBehind (b a : OpT) (prior : Bool) (ha : a.Ok) (hb : b.Ok) (hto : a.to.length ≤ 1000 ∧ b.to.length ≤ 1000) :
    Pure Tryz.prog 39 [opV b, opV a, .bool prior] (fun x => x = BehV (behindX b a prior)) := by
  obtain ⟨R, hR⟩ : ∃ R, behindX b a prior = R := ⟨_, rfl⟩
  rw [hR]
  refine pure_wk (pure_fn 300 Tryz.func39 rfl rfl rfl fun B => ?_)
  show CallThen _ _ _ _ _ _
  refine call_pure (w_Sound12 a ha) rfl ?_
  rintro x rfl
  refine ⟨fun g1 => go 300 ?_, fun g1 => go 300 ?_⟩
  · have g1 : soundO a = false := by simpa using g1
    exact ⟨trivial, rfl, rfl, rfl, behZ' (by rw [← hR, behX_bad (by rw [g1]; rfl)])⟩
  have sa : soundO a = true := by simpa using g1
  show CallThen _ _ _ _ _ _
  refine call_pure (w_Sound12 b hb) rfl ?_
  rintro x rfl
  refine ⟨fun g2 => go 300 ?_, fun g2 => go 300 ?_⟩
  · have g2 : soundO b = false := by simpa using g2
    exact ⟨trivial, rfl, rfl, rfl, behZ' (by rw [← hR, behX_bad (by rw [g2]; simp)])⟩
  have sb : soundO b = true := by simpa using g2
  have hcall := w_behind12X b a prior ha hb sa sb
  have hlen := rowX_len b a prior
  rw [behX_rowX sa sb] at hR
  have hok : ∀ o ∈ (rowX b a prior).1, o.Lt 1000000 ∧ ∀ p ∈ o.pieces, p.put.length ≤ 1000000000 := by
    unfold rowX
    cases bothEdit b a with
    | false => intro o ho; have := row_ok' (prior := prior) ha hb sa sb hto o ho; exact ⟨this.lt, this.each⟩
    | true =>
      intro o ho
      simp only [cond_true, List.mem_singleton] at ho
      subst ho
      exact edit_lt hb
  obtain ⟨⟨l, e⟩, hl⟩ : ∃ r, rowX b a prior = r := ⟨_, rfl⟩
  rw [hl] at hcall hlen hok hR
  simp only at hlen hok hR
  show CallThen _ _ _ _ _ _
  refine call_pure hcall rfl ?_
  rintro x rfl
  refine ⟨fun g3 => go 300 ?_, fun g3 => go 300 ?_⟩
  · have g3 := ne_of' g3
    rw [decide_eq_false g3] at hR
    exact ⟨trivial, rfl, rfl, rfl, behZ' hR.symm⟩
  have g3 := eq_of' g3
  rw [decide_eq_true g3] at hR
  simp only [Bool.not_true, cond_false] at hR
  show Goes _ _ _ _
  refine goes_own 10 11 rfl ?_
  refine goes_iter (ι := Nat × Nat) (fun i => i.1 ≤ l.length ∧ (l.take i.1).all formedB = true) (fun i => l.length - i.1) (fun i => [(11, .int .i64 i.1), (10, .osl (.loc 2) i.2 0 i.1), (8, opsV l)]) (fun i => [some (.box (opV b).cells), some (.box (opV a).cells), some (.vec i.2 11 ((bareL (l.take i.1)).map opV))]) (0, 0) 300 (fun _ => rfl) (fun _ => rfl) ⟨⟨Nat.zero_le _, by simp⟩, ⟨⟨rfl, rfl⟩, ⟨rfl, rfl⟩, ⟨rfl, rfl⟩, trivial⟩, ⟨⟨rfl, rfl⟩, ⟨rfl, rfl⟩, ⟨rfl, rfl⟩, trivial⟩⟩ ?_
  rintro ⟨i, g⟩ ⟨k1, k2⟩ next
  simp only at k1 k2
  have hbl : (bareL (l.take i)).length = i := by simp [bareL]; omega
  refine ⟨fun hlt => go 300 ?_, fun hge => go 300 ?_⟩
  · have hi : i < l.length := by simpa using hlt
    obtain ⟨h1, h2⟩ := hok _ (List.getElem_mem hi)
    refine ⟨Int.natCast_nonneg i, _, op_at hi, ?_⟩
    show CallThen _ _ _ _ _ _
    refine call_pure (w_refFormed l[i] h1 h2) rfl ?_
    rintro x rfl
    refine ⟨fun g4 => go 300 ?_, fun g4 => go 300 ?_⟩
    · have g4 : formedB l[i] = false := by simpa using g4
      have e : l.all formedB = false := List.all_eq_false.2 ⟨l[i], List.getElem_mem hi, by simpa using g4⟩
      rw [e] at hR
      exact ⟨trivial, rfl, rfl, rfl, behZ' hR.symm⟩
    have g4 : formedB l[i] = true := by simpa using g4
    refine ⟨Int.natCast_nonneg i, _, op_at hi, ?_⟩
    show CallThen _ _ _ _ _ _
    refine call_pure (w_refBare l[i] h1) rfl ?_
    rintro x rfl
    refine ⟨⟨rfl, trivial⟩, rfl, rfl, rfl, (by rw [List.length_map]; exact hbl.symm), Nat.le_trans (Nat.mul_le_mul_right _ (show _ ≤ 1000001 by rw [List.length_map, hbl]; simp only [List.length_cons, List.length_nil]; omega)) (by decide), ?_⟩
    refine ⟨by constructor <;> omega, ?_⟩
    show Goes _ _ _ _
    have e : (bareL (l.take (i + 1))).map opV = (bareL (l.take i)).map opV ++ [opV (bareO l[i])] := by
      rw [List.take_succ_eq_append_getElem hi]
      simp only [bareL, List.map_append, List.map_cons, List.map_nil]
    refine next (i + 1, bump g) _ _ ⟨⟨hi, ?_⟩, by simp only; omega, ⟨⟨rfl, rfl⟩, ⟨?_, rfl⟩, ⟨rfl, rfl⟩, trivial⟩, ⟨⟨rfl, rfl⟩, ⟨rfl, rfl⟩, ⟨?_, rfl⟩, trivial⟩⟩
    · simp only
      rw [List.take_succ_eq_append_getElem hi, List.all_append, k2]
      simp [g4]
    · simp only [lk]
      exact congrArg (V.osl _ _ _) (by rw [List.length_map, hbl]; rfl)
    · exact congrArg (fun z => some (HObj.vec (bump g) 11 z)) e.symm
  · have hi : i = l.length := by have : l.length ≤ i := by simpa using hge
                                 omega
    subst hi
    rw [List.take_length] at k2
    rw [k2] at hR
    refine ⟨trivial, rfl, rfl, rfl, by simp [bareL], rfl, BehV R, ?_, rfl, rfl⟩
    rw [← hR]
    show Wk (.tup [.sl 11 ((bareL (l.take l.length)).map opV), .int .i64 0]) _
    rw [List.take_length]
    exact .refl _
set_option maxRecDepth 100000 in
theorem w_refBoth (a b : OpT) (prior : Bool) (ha : a.Ok) (hb : b.Ok) (hto : a.to.length ≤ 1000 ∧ b.to.length ≤ 1000) :
    Pure Tryz.prog 41 [opV a, opV b, .bool prior] (fun x => x = BothV (bothX a b prior)) := by
  refine pure_wk (pure_fn 300 Tryz.func41 rfl rfl rfl fun B => ?_)
  show CallThen _ _ _ _ _ _
  refine call_pure (w_refBehind a b prior hb ha ⟨hto.2, hto.1⟩) rfl ?_
  rintro x rfl
  show CallThen _ _ _ _ _ _
  refine call_pure (w_refBehind b a (!prior) ha hb hto) rfl ?_
  rintro x rfl
  refine ⟨fun g1 => go 300 ?_, fun g1 => go 300 ?_⟩
  · have g1 : (behindX a b prior).2 ≠ 0 := ne_of' g1
    have e : bothX a b prior = ([], [], (behindX a b prior).2) := by unfold bothX; rw [decide_eq_false g1]; rfl
    rw [e]
    exact ⟨trivial, rfl, rfl, rfl, bothZ _⟩
  have g1 : (behindX a b prior).2 = 0 := eq_of' g1
  refine ⟨fun g2 => go 300 ?_, fun g2 => go 300 ?_⟩
  · have g2 : (behindX b a (!prior)).2 ≠ 0 := ne_of' g2
    have e : bothX a b prior = ([], [], (behindX b a (!prior)).2) := by unfold bothX; rw [decide_eq_true g1, decide_eq_false g2]; rfl
    rw [e]
    exact ⟨trivial, rfl, rfl, rfl, bothZ _⟩
  have g2 : (behindX b a (!prior)).2 = 0 := eq_of' g2
  have e : bothX a b prior = ((behindX a b prior).1, (behindX b a (!prior)).1, 0) := by unfold bothX; rw [decide_eq_true g1, decide_eq_true g2]; rfl
  rw [e]
  exact ⟨trivial, rfl, rfl, rfl, BothV _, Wk.refl _, rfl, rfl⟩
end Bow
/- AE47: a function whose named memory nobody looks at any more. -/
namespace Bow
open Go

/-- Names let go. -/
theorem letGo {w : World} {β : Nat → Loc} {H : Heap} {B N : Base} (h : SRel [] 0 w β H [] ⟨[], [], B.add N, []⟩ bare) : ∃ H2, SRel [] 0 w β H2 [] ⟨[], [], B, []⟩ bare ∧ Fr w β H w β H2 := by
  have hH : ∀ q, q < H.length → H[q]? = some ((B.add N) q) := fun q hq => h.base q hq (by simp)
  obtain ⟨H2, hH2⟩ : ∃ H2 : Heap, H2 = (List.range H.length).map B := ⟨_, rfl⟩
  have hl : H2.length = H.length := by rw [hH2]; simp
  have hg : ∀ q, q < H.length → H2[q]? = some (B q) := fun q hq => by rw [hH2]; simp [hq]
  have hsub : ∀ q o, H2[q]? = some (some o) → H[q]? = some (some o) := fun q o hq => by
    have hlt : q < H.length := by rw [← hl]; exact lt_of_get hq
    rw [hg q hlt] at hq
    injection hq with hq
    rw [hH q hlt, Ext.add B N q o hq]
  have f : Fr w β H w β H2 := by
    refine ⟨⟨rfl, rfl, rfl, Nat.le_refl _, by rw [hl]; exact Nat.le_refl _, fun r o' _ ho => ⟨o', hsub r o' ho, Evo.refl _, fun _ _ => rfl⟩, fun _ _ _ => rfl, ?_, fun _ _ => rfl⟩, fun _ _ h => h⟩
    rintro b ⟨r, M, ⟨o, ho⟩, hb⟩
    exact .inr ⟨r, M, ⟨o, hsub r o ho⟩, hb⟩
  refine ⟨H2, ⟨?_, rfl, fun k => by simp [lk, V.conv]; exact .undef _, rfl, List.nodup_nil, by simp, rfl, fun r hr _ => ?_, fun r hr => ?_, by simp, by simp, by simp, rfl, by simp⟩, f⟩
  · refine h.hrel.step f (fun r o ho => .inl ⟨hsub r o ho, rfl, fun _ _ _ => rfl⟩) ?_
    rintro r r' b M M' ⟨o, ho⟩ ⟨o', ho'⟩ hb hb'
    exact h.hrel.inj r r' b M M' ⟨o, hsub r o ho⟩ ⟨o', hsub r' o' ho'⟩ hb hb'
  · exact hg r (by rw [← hl]; exact hr)
  · have h1 : (B.add N) r = none := h.fut r (by rw [← hl]; exact hr)
    show B r = none
    cases hb : B r with
    | none => rfl
    | some o => rw [Ext.add B N r o hb] at h1; cases h1
theorem pure_of_funN {P : Program} {g : FuncId} {args : List V} {Q : V → Prop} (h : FunN P g args fun x _ => Q x) (ha : V.pureL args = true) : Pure P g args Q := by
  unfold FunN at h
  unfold Pure Fun
  refine ⟨h.1, fun w β H m B vals cs hs hl hr => ?_⟩
  have hm : m = [] := List.length_eq_zero_iff.1 hs.mlen
  subst hm
  obtain ⟨x, N, v, w', β', H', fr, hq, hN, k1, k2, k3, k4, k5⟩ := h.2 w β H B vals cs hs hl (fun j x v hj hv => by
    have h1 := hr j x v hj hv
    rwa [pure_conv _ _ (pureL_mem _ ha x (List.mem_of_getElem? hj))] at h1)
  obtain ⟨H2, e1, e2⟩ := letGo k1
  exact ⟨x, [], v, w', β', H2, [], fr, ⟨rfl, k4, hq⟩, e1, k2.trans e2, by rw [pure_conv _ _ k4]; exact k3.mono e2, k5⟩
end Bow
/- W79: the law SquareBoth, walked. -/
namespace Bow
open Go Go.Proofs

theorem OpsOk.add {B N : Base} {zs : List (Ns × OpT)} (h : OpsOk N zs) (hN : ∀ q o, N q = some o → B q = none) : OpsOk (B.add N) zs := h.ext fun q o e => add_new e (hN q o e)
theorem fz_opsE {B : Base} {zs : List (Ns × OpT)} {l : List OpT} (h : OpsOk B zs) (e : zs.map Prod.snd = l) : Fz B (opsNV zs) (opsV l) := e ▸ fz_ops h
/-- All these operations' rows stand there. -/
def AllShp (B : Base) (zs : List (Ns × OpT)) : Prop := ∀ z ∈ zs, NsShp B z.1 z.2
theorem OpsOk.allShp {B : Base} {zs : List (Ns × OpT)} (h : OpsOk B zs) : AllShp B zs := fun z hz => (h z hz).shp
theorem AllShp.to' {B B' : Base} {zs : List (Ns × OpT)} (h : AllShp B zs) (k : ShpEq B B') : AllShp B' zs := fun z hz => (h z hz).to' k
theorem NsShp.names {B : Base} {ns : Ns} {o : OpT} (h : NsShp B ns o) : ∀ q ∈ [ns.p, ns.t, ns.s], ∃ ob, B q = some ob := by
  obtain ⟨⟨xs, h1, _⟩, ⟨ys, h2, _⟩, ⟨zs, h3, _⟩⟩ := h
  intro q hq
  simp only [List.mem_cons, List.not_mem_nil, or_false] at hq
  rcases hq with rfl | rfl | rfl
  · exact ⟨_, h1⟩
  · exact ⟨_, h2⟩
  · exact ⟨_, h3⟩
/-- Names that nobody held ahead. -/
def NewNs (B : Base) (ns : Ns) : Prop := ∀ q ∈ [ns.p, ns.t, ns.s], B q = none
theorem NsOk.fresh {B N : Base} {ns : Ns} {o : OpT} (h : NsOk N ns o) (hN : ∀ q ob, N q = some ob → B q = none) : NewNs B ns := by
  intro q hq
  simp only [List.mem_cons, List.not_mem_nil, or_false] at hq
  rcases hq with rfl | rfl | rfl
  · exact hN _ _ h.path
  · exact hN _ _ h.to
  · exact hN _ _ h.pieces
theorem ext_step {B Bc B' : Base} {ns : Ns} (h : Ext B Bc) (hn : NewNs B ns) (hq : ∀ q, q ∉ [ns.p, ns.t, ns.s] → B' q = Bc q) : Ext B B' := fun q o e => by
  rw [hq q (fun hm => by rw [hn q hm] at e; cases e)]
  exact h q o e
theorem sameO_bare (o : OpT) : sameO (bareO o) o = true := by
  have := sameO_refl o
  unfold sameO at this ⊢
  rw [bare_idem]
  exact this

set_option maxHeartbeats 4000000 in
set_option maxRecDepth 100000 in
theorem w_SquareBoth (a b : OpT) (prior : Bool) : Pure Tryz.prog 12 [opV a, opV b, .bool prior] (fun x => x = .bool true) := by
  have hw := w_works12
  refine pure_of_funN (funN_of_goes 60 Tryz.func12 rfl rfl rfl fun B => ?_) rfl
  show CallThen _ _ _ _ _ _
  refine call_pure (w_LightX a 200 (by decide)) rfl ?_
  rintro x rfl
  refine ⟨fun g1 => go 60 ?_, fun g1 => go 60 ?_⟩
  · show CallThen _ _ _ _ _ _
    refine call_pure hw rfl ?_
    rintro x rfl
    exact ⟨trivial, rfl, Ext.refl _, rfl, leaf_b rfl⟩
  have ha := light_ok (top := 200) (o := a) (by simpa using g1) (by decide)
  have la := ((lightB_iff a 200).1 (by simpa using g1)).1
  show CallThen _ _ _ _ _ _
  refine call_pure (w_LightX b 200 (by decide)) rfl ?_
  rintro x rfl
  refine ⟨fun g2 => go 60 ?_, fun g2 => go 60 ?_⟩
  · show CallThen _ _ _ _ _ _
    refine call_pure hw rfl ?_
    rintro x rfl
    exact ⟨trivial, rfl, Ext.refl _, rfl, leaf_b rfl⟩
  have hb := light_ok (top := 200) (o := b) (by simpa using g2) (by decide)
  have lb := ((lightB_iff b 200).1 (by simpa using g2)).1
  have a1 := la.pieces
  have a2 := la.to
  have b1 := lb.pieces
  have b2 := lb.to
  show CallThen _ _ _ _ _ _
  refine call_pure (w_Small a.pieces 400 (by omega) (by decide)) rfl ?_
  rintro x ⟨s1, rfl⟩
  refine ⟨fun g3 => go 60 ?_, fun g3 => go 60 ?_⟩
  · show CallThen _ _ _ _ _ _
    refine call_pure hw rfl ?_
    rintro x rfl
    exact ⟨trivial, rfl, Ext.refl _, rfl, leaf_b rfl⟩
  show CallThen _ _ _ _ _ _
  refine call_pure (w_Small b.pieces 400 (by omega) (by decide)) rfl ?_
  rintro x ⟨s2, rfl⟩
  refine ⟨fun g4 => go 60 ?_, fun g4 => go 60 ?_⟩
  · show CallThen _ _ _ _ _ _
    refine call_pure hw rfl ?_
    rintro x rfl
    exact ⟨trivial, rfl, Ext.refl _, rfl, leaf_b rfl⟩
  have hsa := w_refSameO (bareO a) a (bare_ok ha).lt ha.lt
  have hsb := w_refSameO (bareO b) b (bare_ok hb).lt hb.lt
  rw [sameO_bare] at hsa hsb
  have ta := (bare_lt la).to
  have tb := (bare_lt lb).to
  have h1 := w_BothN (bareO a) (bareO b) prior (bare_ok ha) (bare_ok hb) ⟨by omega, by omega⟩
  rw [bothX_bare] at h1
  have h2 := w_refBoth a b prior ha hb ⟨by omega, by omega⟩
  obtain ⟨⟨l1, l2⟩, l3, l4⟩ := bothX_lt (prior := prior) ha hb (by omega) (by omega)
  obtain ⟨⟨x, y, e⟩, hr⟩ : ∃ z, bothX a b prior = z := ⟨_, rfl⟩
  rw [hr] at h1 h2 l1 l2 l3 l4
  simp only at l1 l2 l3 l4
  show Goes _ _ _ _
  refine goes_draw 60 ?_
  refine ⟨_, w_refBare a ha.lt, rfl, ?_⟩
  refine ⟨_, w_refBare b hb.lt, rfl, ?_⟩
  refine ⟨by kernel_rfl, ?_⟩
  refine ⟨by kernel_rfl, ?_⟩
  refine ⟨by kernel_rfl, ?_⟩
  show CallThen _ _ _ _ _ _
  refine call_funN h1 rfl ?_
  rintro z N ⟨zs, us, z1, u1, rfl, z2, u2⟩ _ hN
  have nz : ∀ z ∈ zs, NewNs B z.1 := fun z hz => (z2 z hz).fresh hN
  have nu : ∀ z ∈ us, NewNs B z.1 := fun z hz => (u2 z hz).fresh hN
  have z2 := z2.add hN
  have u2 := u2.add hN
  have hE := Ext.add B N
  simp only at z1 u1
  clear h1 hN
  generalize Base.add B N = B1 at z2 u2 hE ⊢
  show CallThen _ _ _ _ _ _
  refine call_pure h2 rfl ?_
  rintro z rfl
  refine ⟨fun g => absurd rfl (ne_of' g), fun _ => go 60 ?_⟩
  show CallThen _ _ _ _ _ _
  refine call_flatN (w_same12 x (by omega) (fun o ho => (l2 o ho).1)) ⟨fz_opsE z2 z1, .wk (.refl _), trivial⟩ rfl rfl rfl rfl ?_
  refine ⟨fun g => (by cases g), fun _ => go 60 ?_⟩
  show CallThen _ _ _ _ _ _
  refine call_flatN (w_same12 y (by omega) (fun o ho => (l4 o ho).1)) ⟨fz_opsE u2 u1, .wk (.refl _), trivial⟩ rfl rfl rfl rfl ?_
  refine ⟨fun g => (by cases g), fun _ => go 60 ?_⟩
  have lz : ∀ z ∈ zs, z.2.Lt 1000000 := fun z hz => (l2 z.2 (by rw [← z1]; exact List.mem_map.2 ⟨z, hz, rfl⟩)).1
  have lu : ∀ z ∈ us, z.2.Lt 1000000 := fun z hz => (l4 z.2 (by rw [← u1]; exact List.mem_map.2 ⟨z, hz, rfl⟩)).1
  have hzl : zs.length ≤ 2 := by rw [← z1, List.length_map] at l1; exact l1
  have hul : us.length ≤ 2 := by rw [← u1, List.length_map] at l3; exact l3
  clear h2 z1 u1 l1 l2 l3 l4
  show Goes _ _ _ _
  refine goes_iterB (ι := Nat) (fun i B' => i ≤ zs.length ∧ Ext B B' ∧ AllShp B' zs ∧ AllShp B' us) (fun i => zs.length - i) (fun i => [(15, .int .i64 i), (10, opsNV us), (9, opsNV zs), (8, .ptr (.loc 3) 0), (7, .ptr (.loc 2) 0), (4, .ptr (.loc 1) 0), (3, .ptr (.loc 0) 0)]) (fun _ => [some (.box (opV a).cells), some (.box (opV b).cells), some (.box (opV (bareO a)).cells), some (.box (opV (bareO b)).cells)]) 0 60 (fun _ => rfl) (fun _ => rfl)
    ⟨⟨Nat.zero_le _, hE, z2.allShp, u2.allShp⟩, ⟨⟨rfl, rfl⟩, ⟨rfl, rfl⟩, ⟨rfl, rfl⟩, ⟨rfl, rfl⟩, ⟨rfl, rfl⟩, ⟨rfl, rfl⟩, ⟨rfl, rfl⟩, trivial⟩, ⟨⟨rfl, rfl⟩, ⟨rfl, rfl⟩, ⟨rfl, rfl⟩, ⟨rfl, rfl⟩, trivial⟩⟩ ?_
  rintro i Bc ⟨k1, kE, k2, k3⟩ next
  refine ⟨fun hlt => go 60 ?_, fun hge => go 60 ?_⟩
  · have hi : i < zs.length := by simpa using hlt
    have hx : (zs.map nV)[i]? = some (opN zs[i].1 zs[i].2) := by simp [hi, nV]
    have hsh := k2 zs[i] (List.getElem_mem hi)
    refine ⟨Int.natCast_nonneg i, _, hx, ?_⟩
    show CallThen _ _ _ _ _ _
    refine call_funW (w_spoil zs[i].1 zs[i].2 (lz _ (List.getElem_mem hi))) rfl (fun B' e => hsh.ext e) hsh.names rfl ?_
    rintro x B' rfl _ hq hm
    refine ⟨by constructor <;> omega, ?_⟩
    show Goes _ _ _ _
    exact next (i + 1) B' _ _ ⟨⟨hi, ext_step kE (nz _ (List.getElem_mem hi)) hm, k2.to' hq, k3.to' hq⟩, by omega, ⟨⟨rfl, rfl⟩, ⟨rfl, rfl⟩, ⟨rfl, rfl⟩, ⟨rfl, rfl⟩, ⟨rfl, rfl⟩, ⟨rfl, rfl⟩, ⟨rfl, rfl⟩, trivial⟩, ⟨⟨rfl, rfl⟩, ⟨rfl, rfl⟩, ⟨rfl, rfl⟩, ⟨rfl, rfl⟩, trivial⟩⟩
  clear next
  show Goes _ _ _ _
  refine goes_iterB (ι := Nat) (fun i B' => i ≤ us.length ∧ Ext B B' ∧ AllShp B' us) (fun i => us.length - i) (fun i => [(16, .int .i64 i), (10, opsNV us), (8, .ptr (.loc 3) 0), (7, .ptr (.loc 2) 0), (4, .ptr (.loc 1) 0), (3, .ptr (.loc 0) 0)]) (fun _ => [some (.box (opV a).cells), some (.box (opV b).cells), some (.box (opV (bareO a)).cells), some (.box (opV (bareO b)).cells)]) 0 60 (fun _ => rfl) (fun _ => rfl)
    ⟨⟨Nat.zero_le _, kE, k3⟩, ⟨⟨rfl, rfl⟩, ⟨rfl, rfl⟩, ⟨rfl, rfl⟩, ⟨rfl, rfl⟩, ⟨rfl, rfl⟩, ⟨rfl, rfl⟩, trivial⟩, ⟨⟨rfl, rfl⟩, ⟨rfl, rfl⟩, ⟨rfl, rfl⟩, ⟨rfl, rfl⟩, trivial⟩⟩ ?_
  clear k1 kE k2 k3 hge
  rintro i Bc ⟨k1, k2, k3⟩ next
  refine ⟨fun hlt => go 60 ?_, fun hge => go 60 ?_⟩
  · have hi : i < us.length := by simpa using hlt
    have hx : (us.map nV)[i]? = some (opN us[i].1 us[i].2) := by simp [hi, nV]
    have hsh := k3 us[i] (List.getElem_mem hi)
    refine ⟨Int.natCast_nonneg i, _, hx, ?_⟩
    show CallThen _ _ _ _ _ _
    refine call_funW (w_spoil us[i].1 us[i].2 (lu _ (List.getElem_mem hi))) rfl (fun B' e => hsh.ext e) hsh.names rfl ?_
    rintro x B' rfl _ hq hm
    refine ⟨by constructor <;> omega, ?_⟩
    show Goes _ _ _ _
    exact next (i + 1) B' _ _ ⟨⟨hi, ext_step k2 (nu _ (List.getElem_mem hi)) hm, k3.to' hq⟩, by omega, ⟨⟨rfl, rfl⟩, ⟨rfl, rfl⟩, ⟨rfl, rfl⟩, ⟨rfl, rfl⟩, ⟨rfl, rfl⟩, ⟨rfl, rfl⟩, trivial⟩, ⟨⟨rfl, rfl⟩, ⟨rfl, rfl⟩, ⟨rfl, rfl⟩, ⟨rfl, rfl⟩, trivial⟩⟩
  clear next
  show CallThen _ _ _ _ _ _
  refine call_pure hsa rfl ?_
  rintro x rfl
  refine ⟨fun _ => go 60 ?_, fun g => (by cases g)⟩
  show CallThen _ _ _ _ _ _
  refine call_pure hsb rfl ?_
  rintro x rfl
  refine ⟨fun _ => go 60 ?_, fun g => (by cases g)⟩
  show CallThen _ _ _ _ _ _
  refine call_pure hw rfl ?_
  rintro x rfl
  exact ⟨trivial, rfl, k2, rfl, leaf_b rfl⟩
end Bow
/- SP18: the paths of a tree's nodes; a move to a gap beside itself; in plain Lean. -/
namespace Bow
open Go

mutual
def pathsT : Tree → List (List Int)
  | .mk _ _ _ _ _ ss => [] :: pathsTs 0 ss
def pathsTs : Nat → List Tree → List (List Int)
  | _, [] => []
  | i, s :: ss => (pathsT s).map (fun p => (i : Int) :: p) ++ pathsTs (i + 1) ss
end
theorem pathsT_eq (t : Tree) : pathsT t = [] :: pathsTs 0 t.subs := by cases t; rw [pathsT]; rfl
mutual
theorem pathsT_len : ∀ t : Tree, (pathsT t).length = t.size
  | .mk i l a b c ss => by rw [pathsT, Tree.size, List.length_cons, pathsTs_len 0 ss]; omega
theorem pathsTs_len : ∀ (i : Nat) (ss : List Tree), (pathsTs i ss).length = sizes ss
  | _, [] => by rw [pathsTs]; rfl
  | i, s :: ss => by rw [pathsTs, sizes, List.length_append, List.length_map, pathsT_len s, pathsTs_len (i + 1) ss]
end
theorem mem_pathsTs {q : List Int} : ∀ {ss : List Tree} {i : Nat}, q ∈ pathsTs i ss → ∃ (k : Nat) (s : Tree) (p : List Int), ss[k]? = some s ∧ q = ((i + k : Nat) : Int) :: p ∧ p ∈ pathsT s
  | [], i, h => by rw [pathsTs] at h; cases h
  | s :: ss, i, h => by
    rw [pathsTs] at h
    rcases List.mem_append.1 h with h | h
    · obtain ⟨p, hp, rfl⟩ := List.mem_map.1 h
      exact ⟨0, s, p, rfl, rfl, hp⟩
    · obtain ⟨k, s', p, h1, h2, h3⟩ := mem_pathsTs h
      exact ⟨k + 1, s', p, h1, by rw [h2]; congr 2; omega, h3⟩
theorem paths_deep {t : Tree} : ∀ {p : List Int}, p ∈ pathsT t → p.length < t.size := by
  induction t using Tree.ind with
  | _ t ih =>
  intro p h
  have hs : 0 < t.size := by cases t; rw [Tree.size]; omega
  rw [pathsT_eq] at h
  rcases List.mem_cons.1 h with rfl | h
  · exact hs
  · obtain ⟨k, s, q, h1, rfl, h3⟩ := mem_pathsTs h
    have hm := List.mem_of_getElem? h1
    have := ih s hm h3
    have := Tree.size_sub hm
    simp only [List.length_cons]
    omega
theorem pathsTs_drop : ∀ {ss : List Tree} {i k : Nat} (h : k < ss.length), pathsTs (i + k) (ss.drop k) = (pathsT ss[k]).map (fun p => ((i + k : Nat) : Int) :: p) ++ pathsTs (i + (k + 1)) (ss.drop (k + 1)) := by
  intro ss i k h
  rw [List.drop_eq_getElem_cons h, pathsTs]
  rfl

end Bow
/- W44: the paths of all nodes. -/
namespace Bow
open Go Go.Proofs

def pathsV (l : List (List Int)) : V := .sl 1 (l.map pathV)
theorem okE_path (p : List Int) : okE 1 (pathV p) := ⟨rfl, rfl⟩
theorem wkE_paths : ∀ l : List (List Int), WkE 1 (l.map pathV) (l.map pathV)
  | [] => trivial
  | p :: l => ⟨⟨⟨.refl _, trivial⟩, okE_path p⟩, wkE_paths l⟩

set_option maxHeartbeats 1000000 in
set_option maxRecDepth 100000 in
theorem w_Paths (t : Tree) : t.weight ≤ 100000 → Pure Tryz.prog 7 [nodeV t] (fun x => x = pathsV (pathsT t)) := by
  induction t using Tree.ind with
  | _ t ih =>
  intro ht
  have hsl := subs_le_weight t
  have hsz := size_le_weight t
  have hpl := pathsT_len t
  refine pure_wk (pure_fn 300 Tryz.func7 rfl rfl rfl fun B => ?_)
  refine ⟨⟨rfl, trivial⟩, ?_⟩
  show Goes _ _ _ _
  refine goes_iter (ι := Nat × Nat × Nat × List V) (fun i => i.1 ≤ t.subs.length ∧ ∃ acc : List (List Int), i.2.2.2 = .nilsl :: acc.map pathV ∧ i.2.2.1 = acc.length + 1 ∧ acc ++ pathsTs i.1 (t.subs.drop i.1) = pathsTs 0 t.subs) (fun i => t.subs.length - i.1)
    (fun i => [(4, .int .i64 i.1), (3, .osl (.loc 1) i.2.1 0 i.2.2.1), (1, .ptr (.loc 0) 0)]) (fun i => [some (.box (nodeV t).cells), some (.vec i.2.1 1 i.2.2.2)]) (0, 0, 1, [.nilsl]) 300 (fun _ => rfl) (fun _ => rfl) ⟨⟨Nat.zero_le _, [], rfl, rfl, rfl⟩, ⟨⟨rfl, rfl⟩, ⟨rfl, rfl⟩, ⟨rfl, rfl⟩, trivial⟩, ⟨⟨rfl, rfl⟩, ⟨rfl, rfl⟩, trivial⟩⟩ ?_
  rintro ⟨i, g, n, xs⟩ ⟨k1, acc, rfl, rfl, k2⟩ next
  simp only at k1 k2
  refine ⟨fun hlt => go 300 ?_, fun hge => go 300 ?_⟩
  · have hi : i < t.subs.length := by simpa [subV_eq] using hlt
    have hx : t.subV[i]? = some (nodeV t.subs[i]) := by simp [subV_eq, hi]
    have hws := weight_sub (List.getElem_mem hi)
    have hsw := size_le_weight t.subs[i]
    have hd := pathsTs_drop (ss := t.subs) (i := 0) hi
    simp only [Nat.zero_add] at hd
    rw [hd] at k2
    have hlen := congrArg List.length k2
    simp only [List.length_append, List.length_map] at hlen
    have hpl' := pathsTs_len 0 t.subs
    have hts := pathsT_eq t
    have hpi := pathsT_len t.subs[i]
    have hle : (pathsTs 0 t.subs).length ≤ 100000 := by
      rw [hts] at hpl
      simp at hpl
      omega
    refine ⟨Int.natCast_nonneg i, _, hx, ?_⟩
    show CallThen _ _ _ _ _ _
    refine call_pure (ih _ (List.getElem_mem hi) (by omega)) rfl ?_
    rintro x rfl
    show Goes _ _ _ _
    refine goes_while (ι := Nat × Nat × Nat × List V) (κ := Nat × Nat × List V) (fun k => k.1 ≤ (pathsT t.subs[i]).length ∧ ∃ acc' : List (List Int), k.2.2.2 = .nilsl :: acc'.map pathV ∧ k.2.2.1 = acc'.length + 1 ∧ acc' ++ (((pathsT t.subs[i]).drop k.1).map (fun p => (i : Int) :: p) ++ pathsTs (i + 1) (t.subs.drop (i + 1))) = pathsTs 0 t.subs) (fun k => (pathsT t.subs[i]).length - k.1)
      (fun k => [(6, .int .i64 k.1), (5, pathsV (pathsT t.subs[i])), (4, .int .i64 i), (3, .osl (.loc 1) k.2.1 0 k.2.2.1), (1, .ptr (.loc 0) 0)]) (fun k => [some (.box (nodeV t).cells), some (.vec k.2.1 1 k.2.2.2)]) (0, g, acc.length + 1, .nilsl :: acc.map pathV)
      (fun k => ∃ acc' : List (List Int), k.2.2 = .nilsl :: acc'.map pathV ∧ k.2.1 = acc'.length + 1 ∧ acc' ++ pathsTs (i + 1) (t.subs.drop (i + 1)) = pathsTs 0 t.subs)
      (fun k => [(4, .int .i64 i), (3, .osl (.loc 1) k.1 0 k.2.1), (1, .ptr (.loc 0) 0)]) (fun k => [some (.box (nodeV t).cells), some (.vec k.1 1 k.2.2)]) 300 (fun _ => rfl) (fun _ => rfl) (fun _ => rfl) (fun _ => rfl)
      ⟨⟨Nat.zero_le _, acc, rfl, rfl, k2⟩, ⟨⟨rfl, rfl⟩, ⟨rfl, rfl⟩, ⟨rfl, rfl⟩, ⟨rfl, rfl⟩, ⟨rfl, rfl⟩, trivial⟩, ⟨⟨rfl, rfl⟩, ⟨rfl, rfl⟩, trivial⟩⟩ ?_ ?_
    · rintro ⟨g', n', xs'⟩ ⟨acc', rfl, rfl, q⟩
      refine ⟨by constructor <;> omega, ?_⟩
      show Goes _ _ _ _
      exact next (i + 1, g', _, _) _ _ ⟨⟨hi, acc', rfl, rfl, q⟩, by simp only; omega, ⟨⟨rfl, rfl⟩, ⟨rfl, rfl⟩, ⟨rfl, rfl⟩, trivial⟩, ⟨⟨rfl, rfl⟩, ⟨rfl, rfl⟩, trivial⟩⟩
    · rintro ⟨k, g', n', xs'⟩ ⟨j1, acc', rfl, rfl, j2⟩ next2 post
      simp only at j1 j2
      refine ⟨fun hlt => go 300 ?_, fun hge => go 300 ?_⟩
      · have hk : k < (pathsT t.subs[i]).length := by simpa using hlt
        have hy : ((pathsT t.subs[i]).map pathV)[k]? = some (pathV (pathsT t.subs[i])[k]) := by simp [hk]
        have hdp := paths_deep (List.getElem_mem hk)
        rw [List.drop_eq_getElem_cons hk] at j2
        have hlen2 := congrArg List.length j2
        simp only [List.length_append, List.length_map, List.length_cons] at hlen2
        refine ⟨⟨rfl, trivial⟩, ?_⟩
        refine ⟨Int.natCast_nonneg k, _, hy, ?_⟩
        refine ⟨rfl, rfl, room_of (by simp; omega) (by decide), ?_⟩
        refine ⟨rfl, by simp; omega, ⟨rfl, trivial⟩, rfl, rfl, rfl, by simp, room_of (by simp; omega) (by decide), ?_⟩
        refine ⟨by constructor <;> omega, ?_⟩
        show Goes _ _ _ _
        refine next2 (k + 1, bump g', _, _) _ _ ⟨⟨hk, acc' ++ [(i : Int) :: (pathsT t.subs[i])[k]], ?_, ?_, ?_⟩, ?_, ⟨⟨rfl, rfl⟩, ⟨rfl, rfl⟩, ⟨rfl, rfl⟩, ⟨rfl, rfl⟩, ⟨rfl, rfl⟩, trivial⟩, ⟨⟨rfl, rfl⟩, ⟨rfl, rfl⟩, trivial⟩⟩
        · simp [pathV, intV]
          rfl
        · simp
        · rw [List.map_cons] at j2
          rw [← j2]
          simp only [List.append_assoc, List.cons_append, List.nil_append]
        · simp only; omega
      · have hk : k = (pathsT t.subs[i]).length := by have : (pathsT t.subs[i]).length ≤ k := by simpa using hge
                                                      omega
        subst hk
        rw [List.drop_length] at j2
        exact post (g', _, _) _ _ _ rfl ⟨⟨acc', rfl, rfl, j2⟩, ⟨⟨rfl, rfl⟩, ⟨rfl, rfl⟩, ⟨rfl, rfl⟩, trivial⟩, ⟨⟨rfl, rfl⟩, ⟨rfl, rfl⟩, trivial⟩⟩
  · have hi : t.subs.length ≤ i := by simpa [subV_eq] using hge
    rw [List.drop_eq_nil_of_le hi, pathsTs, List.append_nil] at k2
    subst k2
    refine ⟨trivial, rfl, rfl, rfl, by simp, rfl, pathsV (pathsT t), ?_, rfl, rfl⟩
    rw [pathsT_eq]
    exact Wk.sl ⟨⟨⟨Wk.nil 1, trivial⟩, okE_path []⟩, wkE_paths _⟩
end Bow
/- SP34: the grove, and all pairs of operations of all kinds on it: both ways round end in the same tree; computed in plain Lean. -/
namespace Bow
open Go

def groveT : Tree := .mk 1 false [114] [] [] [
  .mk 2 false [97] [([107], [49])] [] [.mk 3 true [120] [] [104, 105] [], .mk 4 false [99] [] [] []],
  .mk 5 true [98] [] [98, 101, 101] [],
  .mk 6 false [100] [] [] [.mk 7 false [101] [] [] [.mk 8 false [102] [] [] []]]]
def headO (p : List Int) : List OpT := [{ noOp 2 with path := p }, { noOp 5 with path := p, label := [113] }, { noOp 4 with path := p, key := [107], value := [57] }, { noOp 4 with path := p, key := [107], gone := true }, { noOp 6 with path := p, pieces := [⟨1, 1, [33]⟩] }]
def putO (i : Nat) (p : List Int) (k : Nat) : OpT := { noOp 1 with path := p, at_ := k, id := IntKind.u64.wrap (100 + 10 * (i : Int) + (k : Int)), label := [110] }
def movO (p : List Int) (k : Nat) (q : List Int) : OpT := { noOp 3 with path := q, to := p, at_ := k }
/-- .. at the gaps below n. -/
def gapsO (ps : List (List Int)) (i : Nat) (p : List Int) : Nat → List OpT
  | 0 => []
  | n + 1 => gapsO ps i p n ++ (putO i p n :: ps.map (movO p n))
def manyO (ps : List (List Int)) (top : Nat) : Nat → List OpT
  | 0 => []
  | i + 1 => manyO ps top i ++ (headO (ps.getD i []) ++ gapsO ps i (ps.getD i []) (top + 1))

def smallO (o : OpT) : Bool := decide (o.path.length ≤ 100) && (decide (o.to.length ≤ 100) && (decide (o.label.length ≤ 100) && (decide (o.key.length ≤ 100) && (decide (o.value.length ≤ 100) && (decide (o.pieces.length ≤ 100) && decide (putsLen o.pieces ≤ 1000))))))
def closesC (t : Tree) (a b : OpT) (prior : Bool) : Bool :=
  let x := applyR t a
  let y := applyR t b
  if x.2 ≠ 0 ∨ y.2 ≠ 0 then true else
  let r := bothX a b prior
  let u := AllR x.1 r.2.1
  let v := AllR y.1 r.1
  decide (r.2.2 = 0) && (r.1.all smallO && (r.2.1.all smallO && (decide (x.1.weight + costs r.2.1 ≤ 100000) && (decide (y.1.weight + costs r.1 ≤ 100000) && (decide (r.1.length ≤ 10) && (decide (r.2.1.length ≤ 10) &&
  (decide (u.2.2 = 0) && (decide (v.2.2 = 0) && (decide (u.1.weight ≤ 100000) && sameT true u.1 v.1)))))))))
def groveOps : List OpT := (manyO (pathsT groveT) 2 (pathsT groveT).length).filter fun o => decide (ValidE groveT o = 0)
def rowOk (l : List OpT) (i : Nat) : Bool :=
  match l[i]? with
  | none => true
  | some a => (List.range l.length).all fun k => decide (k % 3 ≠ i % 3) || (match l[k]? with | none => true | some b => closesC groveT a b (decide ((i + k) % 2 = 0)))
def rowsOk (l : List OpT) (i n : Nat) : Bool := (List.range n).all fun j => rowOk l (i + j)
set_option maxRecDepth 1000000 in
theorem grove_len : groveOps.length = 115 := by decide +kernel
set_option maxRecDepth 1000000 in
theorem grove_small : (manyO (pathsT groveT) 2 (pathsT groveT).length).all smallO = true := by decide +kernel
set_option maxRecDepth 1000000 in
theorem grove_1 : rowsOk groveOps 0 29 = true := by decide +kernel
set_option maxRecDepth 1000000 in
theorem grove_2 : rowsOk groveOps 29 29 = true := by decide +kernel
set_option maxRecDepth 1000000 in
theorem grove_3 : rowsOk groveOps 58 29 = true := by decide +kernel
set_option maxRecDepth 1000000 in
theorem grove_4 : rowsOk groveOps 87 28 = true := by decide +kernel
theorem rowsOk_get {l : List OpT} {i n : Nat} (h : rowsOk l i n = true) (k : Nat) (h1 : i ≤ k) (h2 : k < i + n) : rowOk l k = true := by
  have := List.all_eq_true.1 h (k - i) (by simp; omega)
  rwa [show i + (k - i) = k by omega] at this
theorem grove_rows (i : Nat) (h : i < groveOps.length) : rowOk groveOps i = true := by
  have hl := grove_len
  rcases Nat.lt_or_ge i 29 with h1 | h1
  · exact rowsOk_get grove_1 i (by omega) (by omega)
  rcases Nat.lt_or_ge i 58 with h2 | h2
  · exact rowsOk_get grove_2 i (by omega) (by omega)
  rcases Nat.lt_or_ge i 87 with h3 | h3
  · exact rowsOk_get grove_3 i (by omega) (by omega)
  · exact rowsOk_get grove_4 i (by omega) (by omega)
theorem grove_closes {i k : Nat} (hi : i < groveOps.length) (hk : k < groveOps.length) (hm : k % 3 = i % 3) : closesC groveT groveOps[i] groveOps[k] (decide ((i + k) % 2 = 0)) = true := by
  have h := grove_rows i hi
  unfold rowOk at h
  rw [List.getElem?_eq_getElem hi] at h
  have h2 := List.all_eq_true.1 h k (by simp; exact hk)
  rw [List.getElem?_eq_getElem hk] at h2
  simpa [hm] using h2
end Bow
/- W86: bowerkit's Grove and Many; bowerlaw12.closes. -/
namespace Bow
open Go Go.Proofs

theorem wkE_app {sz : Nat} : ∀ {xs ys us vs : List V}, WkE sz xs ys → WkE sz us vs → WkE sz (xs ++ us) (ys ++ vs)
  | [], [], _, _, _, h => h
  | x :: xs, y :: ys, _, _, h, k => ⟨h.1, wkE_app h.2 k⟩
  | [], _ :: _, _, _, h, _ => h.elim
  | _ :: _, [], _, _, h, _ => h.elim
theorem wkL_mk {b : Bool} {i : Int} {label text : List UInt8} {ats ks leaf : V} {al : List (List UInt8 × List UInt8)} {ss : List Tree} (hl : Wk leaf (.bool b)) (ha : Wk ats (.sl 2 (al.map attrV))) (hk : Wk ks (.sl 6 (ss.map nodeV))) :
    WkL [.int .u64 i, leaf, .str label, ats, .str text, ks] (nodeV (.mk i b label al text ss)).cells := by
  refine ⟨.refl _, hl, .refl _, ha, .refl _, ?_, trivial⟩
  rw [subV_eq]
  exact hk
theorem wk_grove : Wk (.agg [.int .u64 1, .ff, .str [114], .nilsl, .str [], .sl 6 [
    .agg [.int .u64 2, .ff, .str [97], .sl 2 [.agg [.str [107], .str [49]]], .str [], .sl 6 [.agg [.int .u64 3, .tt, .str [120], .nilsl, .str [104, 105], .nilsl], .agg [.int .u64 4, .ff, .str [99], .nilsl, .str [], .nilsl]]],
    .agg [.int .u64 5, .tt, .str [98], .nilsl, .str [98, 101, 101], .nilsl],
    .agg [.int .u64 6, .ff, .str [100], .nilsl, .str [], .sl 6 [.agg [.int .u64 7, .ff, .str [101], .nilsl, .str [], .sl 6 [.agg [.int .u64 8, .ff, .str [102], .nilsl, .str [], .nilsl]]]]]]]) (nodeV groveT) := by
  refine Wk.agg (wkL_mk Wk.ff (Wk.nil 2) (Wk.sl ⟨⟨?_, okE_node _⟩, ⟨?_, okE_node _⟩, ⟨?_, okE_node _⟩, trivial⟩))
  · exact wkL_mk Wk.ff (.refl _) (Wk.sl ⟨⟨wkL_mk Wk.tt (Wk.nil 2) (Wk.nil 6), okE_node _⟩, ⟨wkL_mk Wk.ff (Wk.nil 2) (Wk.nil 6), okE_node _⟩, trivial⟩)
  · exact wkL_mk Wk.tt (Wk.nil 2) (Wk.nil 6)
  · exact wkL_mk Wk.ff (Wk.nil 2) (Wk.sl ⟨⟨wkL_mk Wk.ff (Wk.nil 2) (Wk.sl ⟨⟨wkL_mk Wk.ff (Wk.nil 2) (Wk.nil 6), okE_node _⟩, trivial⟩), okE_node _⟩, trivial⟩)

set_option maxRecDepth 100000 in
theorem w_Grove : Pure Tryz.prog 6 [] (fun x => x = nodeV groveT) := by
  refine pure_wk (pure_fn 60 Tryz.func6 rfl rfl rfl fun B => ?_)
  refine ⟨⟨rfl, trivial⟩, ⟨rfl, rfl, trivial⟩, ⟨rfl, trivial⟩, rfl, rfl, ⟨rfl, trivial⟩, rfl, rfl, rfl, rfl, rfl, rfl, ⟨rfl, rfl, rfl, trivial⟩, ?_⟩
  exact ⟨trivial, rfl, rfl, rfl, rfl, rfl, nodeV groveT, wk_grove, rfl, rfl⟩

theorem gaps_len (ps : List (List Int)) (i : Nat) (p : List Int) : ∀ n, (gapsO ps i p n).length = n * (1 + ps.length)
  | 0 => by simp [gapsO]
  | n + 1 => by
    rw [gapsO, List.length_append, gaps_len ps i p n]
    simp only [List.length_cons, List.length_map, Nat.add_mul]
    omega
theorem many_len (ps : List (List Int)) (top : Nat) : ∀ i, (manyO ps top i).length = i * (5 + (top + 1) * (1 + ps.length))
  | 0 => by simp [manyO]
  | i + 1 => by
    rw [manyO, List.length_append, many_len ps top i, List.length_append, gaps_len, Nat.add_mul i 1]
    simp [headO]
theorem wkO {k at_ id : Int} {p : List Int} {t l e s : V} {to : List Int} {label key value : List UInt8} {leaf gone : Bool} {pc : List PieceT} (ht : Wk t (pathV to)) (hl : Wk l (.bool leaf)) (he : Wk e (.bool gone)) (hs : Wk s (piecesV pc)) :
    WkE 11 [.agg [.int .u8 k, pathV p, .int .i64 at_, t, .int .u64 id, l, .str label, .str key, .str value, e, s]] ([⟨k, p, at_, to, id, leaf, label, key, value, gone, pc⟩].map opV) :=
  ⟨⟨⟨.refl _, .refl _, .refl _, ht, .refl _, hl, .refl _, .refl _, .refl _, he, hs, trivial⟩, rfl, rfl⟩, trivial⟩
theorem wk_head (p : List Int) : WkE 11 [.agg [.int .u8 2, pathV p, .int .i64 0, .nilsl, .int .u64 0, .ff, .str [], .str [], .str [], .ff, .nilsl], .agg [.int .u8 5, pathV p, .int .i64 0, .nilsl, .int .u64 0, .ff, .str [113], .str [], .str [], .ff, .nilsl],
    .agg [.int .u8 4, pathV p, .int .i64 0, .nilsl, .int .u64 0, .ff, .str [], .str [107], .str [57], .ff, .nilsl], .agg [.int .u8 4, pathV p, .int .i64 0, .nilsl, .int .u64 0, .ff, .str [], .str [107], .str [], .tt, .nilsl],
    .agg [.int .u8 6, pathV p, .int .i64 0, .nilsl, .int .u64 0, .ff, .str [], .str [], .str [], .ff, .sl 3 [.agg [.int .i64 1, .int .i64 1, .str [33]]]]] ((headO p).map opV) :=
  wkE_app (wkO (Wk.nil 1) Wk.ff Wk.ff (Wk.nil 3)) (wkE_app (wkO (Wk.nil 1) Wk.ff Wk.ff (Wk.nil 3)) (wkE_app (wkO (Wk.nil 1) Wk.ff Wk.ff (Wk.nil 3)) (wkE_app (wkO (Wk.nil 1) Wk.ff Wk.tt (Wk.nil 3)) (wkO (Wk.nil 1) Wk.ff Wk.ff (.refl _)))))
theorem room_of2 {n m b : Nat} (h : n + m ≤ 1000000) (hb : b ≤ 10000) : room (n + m) b := Nat.le_trans (Nat.mul_le_mul h hb) (by decide)

theorem many_head {ps : List (List Int)} {i : Nat} {p : List Int} {xs : List V} (h : WkE 11 xs ((manyO ps 2 i).map opV)) : WkE 11 (xs ++ [.agg [.int .u8 2, pathV p, .int .i64 0, .nilsl, .int .u64 0, .ff, .str [], .str [], .str [], .ff, .nilsl], .agg [.int .u8 5, pathV p, .int .i64 0, .nilsl, .int .u64 0, .ff, .str [113], .str [], .str [], .ff, .nilsl],
    .agg [.int .u8 4, pathV p, .int .i64 0, .nilsl, .int .u64 0, .ff, .str [], .str [107], .str [57], .ff, .nilsl], .agg [.int .u8 4, pathV p, .int .i64 0, .nilsl, .int .u64 0, .ff, .str [], .str [107], .str [], .tt, .nilsl],
    .agg [.int .u8 6, pathV p, .int .i64 0, .nilsl, .int .u64 0, .ff, .str [], .str [], .str [], .ff, .sl 3 [.agg [.int .i64 1, .int .i64 1, .str [33]]]]]) ((manyO ps 2 i ++ (headO p ++ gapsO ps i p 0)).map opV) := by
  rw [gapsO, List.append_nil, List.map_append]
  exact wkE_app h (wk_head p)
theorem many_put {ps : List (List Int)} {i n : Nat} {p : List Int} {ys : List V} (h : WkE 11 ys ((manyO ps 2 i ++ (headO p ++ gapsO ps i p n)).map opV)) :
    WkE 11 (ys ++ [.agg [.int .u8 1, pathV p, .int .i64 n, .nilsl, .int .u64 (IntKind.u64.wrap (100 + 10 * (i : Int) + (n : Int))), .ff, .str [110], .str [], .str [], .ff, .nilsl]]) ((manyO ps 2 i ++ (headO p ++ (gapsO ps i p n ++ (putO i p n :: (ps.take 0).map (movO p n))))).map opV) := by
  have e : (manyO ps 2 i ++ (headO p ++ (gapsO ps i p n ++ (putO i p n :: (ps.take 0).map (movO p n))))).map opV = (manyO ps 2 i ++ (headO p ++ gapsO ps i p n)).map opV ++ [putO i p n].map opV := by simp
  rw [e]
  exact wkE_app h (wkO (Wk.nil 1) Wk.ff Wk.ff (Wk.nil 3))
theorem many_mov {ps : List (List Int)} {i n k : Nat} {p : List Int} {us : List V} (h : WkE 11 us ((manyO ps 2 i ++ (headO p ++ (gapsO ps i p n ++ (putO i p n :: (ps.take k).map (movO p n))))).map opV)) (hk : k < ps.length) :
    WkE 11 (us ++ [.agg [.int .u8 3, pathV ps[k], .int .i64 n, pathV p, .int .u64 0, .ff, .str [], .str [], .str [], .ff, .nilsl]]) ((manyO ps 2 i ++ (headO p ++ (gapsO ps i p n ++ (putO i p n :: (ps.take (k + 1)).map (movO p n))))).map opV) := by
  have e : (manyO ps 2 i ++ (headO p ++ (gapsO ps i p n ++ (putO i p n :: (ps.take (k + 1)).map (movO p n))))).map opV = (manyO ps 2 i ++ (headO p ++ (gapsO ps i p n ++ (putO i p n :: (ps.take k).map (movO p n))))).map opV ++ [movO p n ps[k]].map opV := by
    rw [List.take_succ_eq_append_getElem hk, List.map_append]
    simp only [List.map_append, List.map_cons, List.map_nil, List.append_assoc, List.cons_append]
  rw [e]
  exact wkE_app h (wkO (.refl _) Wk.ff Wk.ff (Wk.nil 3))
theorem many_osl {g : Nat} {xs ys : List V} : V.osl (.loc 0) g 0 (xs.length + ys.length) = V.osl (.loc 0) g 0 (xs ++ ys).length := by rw [List.length_append]
set_option maxHeartbeats 4000000 in
set_option maxRecDepth 100000 in
theorem w_Many (ps : List (List Int)) (hps : ps.length ≤ 100) : Pure Tryz.prog 8 [pathsV ps, .int .i64 2] (fun x => x = opsV (manyO ps 2 ps.length)) := by
  refine pure_wk (pure_fn 60 Tryz.func8 rfl rfl rfl fun B => ?_)
  show Goes _ _ _ _
  refine goes_own 5 11 rfl ?_
  refine goes_iter (ι := Nat × Nat × List V) (fun i => i.1 ≤ ps.length ∧ WkE 11 i.2.2 ((manyO ps 2 i.1).map opV)) (fun i => ps.length - i.1) (fun i => [(6, .int .i64 i.1), (5, .osl (.loc 0) i.2.1 0 i.2.2.length), (1, .int .i64 2), (0, pathsV ps)]) (fun i => [some (.vec i.2.1 11 i.2.2)]) (0, 0, []) 60 (fun _ => rfl) (fun _ => rfl) ⟨⟨Nat.zero_le _, trivial⟩, ⟨⟨rfl, rfl⟩, ⟨rfl, rfl⟩, ⟨rfl, rfl⟩, ⟨rfl, rfl⟩, trivial⟩, ⟨⟨rfl, rfl⟩, trivial⟩⟩ ?_
  rintro ⟨i, g, xs⟩ ⟨k1, k2⟩ next
  simp only at k1 k2
  have hlen : xs.length ≤ 30800 := by
    have h1 := k2.len
    rw [List.length_map, many_len] at h1
    have : i * (5 + (2 + 1) * (1 + ps.length)) ≤ 100 * 308 := Nat.mul_le_mul (by omega) (by omega)
    omega
  refine ⟨fun hlt => go 60 ?_, fun hge => go 60 ?_⟩
  · have hi : i < ps.length := by simpa using hlt
    have hx : (ps.map pathV)[((i : Nat) : Int).toNat]? = some (pathV ps[i]) := by simp [hi]
    have hp : ps.getD i [] = ps[i] := by simp [hi]
    have hm : manyO ps 2 (i + 1) = manyO ps 2 i ++ (headO ps[i] ++ gapsO ps i ps[i] 3) := by rw [manyO, hp]
    generalize ps[i] = p at hx hm
    refine ⟨Int.natCast_nonneg i, _, hx, ⟨rfl, trivial⟩, rfl, rfl, ⟨rfl, rfl, rfl, rfl, rfl, trivial⟩, rfl, rfl, rfl, rfl, room_of2 (by simp only [List.length_cons, List.length_nil]; omega) (by decide), ?_⟩
    show Goes _ _ _ _
    refine goes_iter (ι := Nat × Nat × List V) (fun n => n.1 ≤ 3 ∧ WkE 11 n.2.2 ((manyO ps 2 i ++ (headO p ++ gapsO ps i p n.1)).map opV)) (fun n => 3 - n.1) (fun n => [(8, .int .i64 n.1), (7, pathV p), (6, .int .i64 i), (5, .osl (.loc 0) n.2.1 0 n.2.2.length), (1, .int .i64 2), (0, pathsV ps)]) (fun n => [some (.vec n.2.1 11 n.2.2)]) (0, bump g, _) 60 (fun _ => rfl) (fun _ => rfl)
      ⟨⟨Nat.zero_le _, many_head k2⟩, ⟨⟨rfl, rfl⟩, ⟨rfl, rfl⟩, ⟨rfl, rfl⟩, ⟨(many_osl ..), rfl⟩, ⟨rfl, rfl⟩, ⟨rfl, rfl⟩, trivial⟩, ⟨⟨rfl, rfl⟩, trivial⟩⟩ ?_
    rintro ⟨n, g2, ys⟩ ⟨j1, j2⟩ next2
    simp only at j1 j2
    have hl2 : ys.length ≤ 40000 := by
      have h1 := j2.len
      rw [List.length_map, List.length_append, List.length_append, many_len, gaps_len] at h1
      have h2 : i * (5 + (2 + 1) * (1 + ps.length)) ≤ 100 * 308 := Nat.mul_le_mul (by omega) (by omega)
      have h3 : n * (1 + ps.length) ≤ 3 * 101 := Nat.mul_le_mul j1 (by omega)
      have h4 : (headO p).length = 5 := rfl
      omega
    refine ⟨fun hlt => go 60 ?_, fun hge => go 60 ?_⟩
    · have hn : n ≤ 2 := by have := of_decide_eq_true hlt; omega
      refine ⟨by constructor <;> omega, by constructor <;> omega, by constructor <;> omega, ⟨rfl, trivial⟩, rfl, rfl, rfl, rfl, room_of2 (by simp only [List.length_cons, List.length_nil]; omega) (by decide), ?_⟩
      show Goes _ _ _ _
      refine goes_iter (ι := Nat × Nat × List V) (fun k => k.1 ≤ ps.length ∧ WkE 11 k.2.2 ((manyO ps 2 i ++ (headO p ++ (gapsO ps i p n ++ (putO i p n :: (ps.take k.1).map (movO p n))))).map opV)) (fun k => ps.length - k.1) (fun k => [(9, .int .i64 k.1), (8, .int .i64 n), (7, pathV p), (6, .int .i64 i), (5, .osl (.loc 0) k.2.1 0 k.2.2.length), (1, .int .i64 2), (0, pathsV ps)]) (fun k => [some (.vec k.2.1 11 k.2.2)]) (0, bump g2, _) 60 (fun _ => rfl) (fun _ => rfl)
        ⟨⟨Nat.zero_le _, many_put j2⟩, ⟨⟨rfl, rfl⟩, ⟨rfl, rfl⟩, ⟨rfl, rfl⟩, ⟨rfl, rfl⟩, ⟨(many_osl ..), rfl⟩, ⟨rfl, rfl⟩, ⟨rfl, rfl⟩, trivial⟩, ⟨⟨rfl, rfl⟩, trivial⟩⟩ ?_
      rintro ⟨k, g3, us⟩ ⟨m1, m2⟩ next3
      simp only at m1 m2
      have hl3 : us.length ≤ 50000 := by
        have h1 := m2.len
        rw [List.length_map, List.length_append, List.length_append, List.length_append, many_len, gaps_len, List.length_cons, List.length_map, List.length_take] at h1
        have h2 : i * (5 + (2 + 1) * (1 + ps.length)) ≤ 100 * 308 := Nat.mul_le_mul (by omega) (by omega)
        have h3 : n * (1 + ps.length) ≤ 3 * 101 := Nat.mul_le_mul j1 (by omega)
        have h4 : (headO p).length = 5 := rfl
        omega
      refine ⟨fun hlt => go 60 ?_, fun hge => go 60 ?_⟩
      · have hk : k < ps.length := by simpa using hlt
        have hy : (ps.map pathV)[((k : Nat) : Int).toNat]? = some (pathV ps[k]) := by simp [hk]
        have m3 := many_mov m2 hk
        refine ⟨Int.natCast_nonneg k, _, hy, ⟨rfl, trivial⟩, rfl, rfl, rfl, rfl, room_of2 (by simp only [List.length_cons, List.length_nil]; omega) (by decide), ?_⟩
        refine ⟨by constructor <;> omega, ?_⟩
        show Goes _ _ _ _
        exact next3 (k + 1, bump g3, _) _ _ ⟨⟨hk, m3⟩, by simp only; omega, ⟨⟨rfl, rfl⟩, ⟨rfl, rfl⟩, ⟨rfl, rfl⟩, ⟨rfl, rfl⟩, ⟨(many_osl ..), rfl⟩, ⟨rfl, rfl⟩, ⟨rfl, rfl⟩, trivial⟩, ⟨⟨rfl, rfl⟩, trivial⟩⟩
      · have hk : k = ps.length := by have : ps.length ≤ k := by simpa using hge
                                      omega
        have m3 : WkE 11 us ((manyO ps 2 i ++ (headO p ++ gapsO ps i p (n + 1))).map opV) := by
          rw [hk, List.take_length] at m2
          rw [gapsO]
          exact m2
        refine ⟨by constructor <;> omega, ?_⟩
        show Goes _ _ _ _
        exact next2 (n + 1, g3, us) _ _ ⟨⟨by simp only; omega, m3⟩, by simp only; omega, ⟨⟨rfl, rfl⟩, ⟨rfl, rfl⟩, ⟨rfl, rfl⟩, ⟨rfl, rfl⟩, ⟨rfl, rfl⟩, ⟨rfl, rfl⟩, trivial⟩, ⟨⟨rfl, rfl⟩, trivial⟩⟩
    · have hn : n = 3 := by have := of_decide_eq_false hge; omega
      have m3 : WkE 11 ys ((manyO ps 2 (i + 1)).map opV) := by rw [hm, ← hn]; exact j2
      refine ⟨by constructor <;> omega, ?_⟩
      show Goes _ _ _ _
      exact next (i + 1, g2, ys) _ _ ⟨⟨hi, m3⟩, by simp only; omega, ⟨⟨rfl, rfl⟩, ⟨rfl, rfl⟩, ⟨rfl, rfl⟩, ⟨rfl, rfl⟩, trivial⟩, ⟨⟨rfl, rfl⟩, trivial⟩⟩
  · have hi : i = ps.length := by have : ps.length ≤ i := by simpa using hge
                                  omega
    subst hi
    exact ⟨trivial, rfl, rfl, rfl, rfl, rfl, opsV (manyO ps 2 ps.length), Wk.sl k2, rfl, rfl⟩

theorem small_ok {o : OpT} (h : smallO o = true) : o.Ok := by
  unfold smallO at h
  simp only [Bool.and_eq_true, decide_eq_true_eq] at h
  obtain ⟨h1, h2, h3, h4, h5, h6, h7⟩ := h
  exact ⟨⟨by omega, by omega, by omega, by omega, by omega, by omega⟩, by omega⟩
theorem small_to {o : OpT} (h : smallO o = true) : o.to.length ≤ 100 := by
  unfold smallO at h
  simp only [Bool.and_eq_true, decide_eq_true_eq] at h
  exact h.2.1
theorem ok_all {l : List OpT} (h : l.all smallO = true) : ∀ o ∈ l, o.Ok := fun o ho => small_ok (List.all_eq_true.1 h o ho)

set_option maxHeartbeats 4000000 in
set_option maxRecDepth 100000 in
theorem w_closes (t : Tree) (a b : OpT) (prior : Bool) (h : closesC t a b prior = true) (ht : t.weight ≤ 1000) (ha : a.Ok) (hb : b.Ok) (hto : a.to.length ≤ 1000 ∧ b.to.length ≤ 1000) :
    Pure Tryz.prog 10 [nodeV t, opV a, opV b, .bool prior] (fun x => x = .bool true) := by
  have c1 := w_refApply t a (by omega) ha
  have c2 := w_refApply t b (by omega) hb
  have c3 := w_BothX a b prior ha hb hto
  unfold closesC at h
  obtain ⟨⟨x, e⟩, r1⟩ : ∃ r, applyR t a = r := ⟨_, rfl⟩
  obtain ⟨⟨y, f⟩, r2⟩ : ∃ r, applyR t b = r := ⟨_, rfl⟩
  obtain ⟨⟨p, q, g⟩, r3⟩ : ∃ r, bothX a b prior = r := ⟨_, rfl⟩
  rw [r1, r2, r3] at h
  rw [r1] at c1
  rw [r2] at c2
  rw [r3] at c3
  have h : e = 0 → f = 0 → g = 0 ∧ (p.all smallO = true ∧ q.all smallO = true) ∧ (x.weight + costs q ≤ 100000 ∧ y.weight + costs p ≤ 100000) ∧ (p.length ≤ 10 ∧ q.length ≤ 10) ∧ (AllR x q).2.2 = 0 ∧ (AllR y p).2.2 = 0 ∧ (AllR x q).1.weight ≤ 100000 ∧ sameT true (AllR x q).1 (AllR y p).1 = true := fun he hf => by
    simp only at h
    rw [if_neg (by simp [he, hf])] at h
    simp only [Bool.and_eq_true, decide_eq_true_eq] at h
    obtain ⟨h1, h2, h3, h4, h5, h6, h7, h8, h9, h10, h11⟩ := h
    exact ⟨h1, ⟨h2, h3⟩, ⟨h4, h5⟩, ⟨h6, h7⟩, h8, h9, h10, h11⟩
  clear r1 r2 r3
  have c4 : e = 0 → f = 0 → Pure Tryz.prog 35 [nodeV x, opsV q] (fun v => v = AllV (AllR x q)) := fun he hf => by
    obtain ⟨_, h2, h3, h4, _⟩ := h he hf
    exact w_refApplyAll x q (by omega) (by omega) (ok_all h2.2)
  have c5 : e = 0 → f = 0 → Pure Tryz.prog 35 [nodeV y, opsV p] (fun v => v = AllV (AllR y p)) := fun he hf => by
    obtain ⟨_, h2, h3, h4, _⟩ := h he hf
    exact w_refApplyAll y p (by omega) (by omega) (ok_all h2.1)
  have c6 : e = 0 → f = 0 → Pure Tryz.prog 21 [nodeV (AllR x q).1, nodeV (AllR y p).1] (fun v => v = .bool true) := fun he hf => by
    obtain ⟨_, _, _, _, _, _, h7, h8⟩ := h he hf
    have := w_refSameT (AllR x q).1 (AllR y p).1 (by omega)
    rwa [h8] at this
  have hg : e = 0 → f = 0 → g = 0 := fun he hf => (h he hf).1
  have hu : e = 0 → f = 0 → (AllR x q).2.2 = 0 := fun he hf => (h he hf).2.2.2.2.1
  have hv : e = 0 → f = 0 → (AllR y p).2.2 = 0 := fun he hf => (h he hf).2.2.2.2.2.1
  clear h
  generalize AllR x q = u at c4 c6 hu
  generalize AllR y p = v at c5 c6 hv
  obtain ⟨u1, u2, u3⟩ := u
  obtain ⟨v1, v2, v3⟩ := v
  simp only at hu hv c6
  refine pure_wk (pure_fn 60 Tryz.func10 rfl rfl rfl fun B => ?_)
  show CallThen _ _ _ _ _ _
  refine call_pure c1 rfl ?_
  rintro z rfl
  show CallThen _ _ _ _ _ _
  refine call_pure c2 rfl ?_
  rintro z rfl
  refine ⟨fun g1 => go 60 ?_, fun g1 => go 60 ?_⟩
  · exact ⟨trivial, rfl, rfl, rfl, leaf_tt rfl⟩
  have he : e = 0 := eq_of' g1
  refine ⟨fun g2 => go 60 ?_, fun g2 => go 60 ?_⟩
  · exact ⟨trivial, rfl, rfl, rfl, leaf_tt rfl⟩
  have hf : f = 0 := eq_of' g2
  have hg := hg he hf
  show CallThen _ _ _ _ _ _
  refine call_pure c3 rfl ?_
  rintro z rfl
  refine ⟨fun q => absurd (of_decide_eq_true q) (by rw [hg]; exact (show ¬ ((0 : Int) = 3) by decide)), fun _ => go 60 ?_⟩
  refine ⟨fun q => absurd hg (ne_of' q), fun _ => go 60 ?_⟩
  show CallThen _ _ _ _ _ _
  refine call_pure (c4 he hf) rfl ?_
  rintro z rfl
  show CallThen _ _ _ _ _ _
  refine call_pure (c5 he hf) rfl ?_
  rintro z rfl
  refine ⟨fun _ => go 60 ?_, fun q => absurd (hu he hf) (of_decide_eq_false q)⟩
  refine ⟨fun _ => go 60 ?_, fun q => absurd (hv he hf) (of_decide_eq_false q)⟩
  show CallThen _ _ _ _ _ _
  refine call_pure (c6 he hf) rfl ?_
  rintro z rfl
  exact ⟨trivial, rfl, rfl, rfl, leaf_b rfl⟩
end Bow
/- W74: the law SquareBehind, walked. -/
namespace Bow
open Go Go.Proofs

set_option maxHeartbeats 2000000 in
set_option maxRecDepth 100000 in
theorem w_SquareBehind (b a : OpT) (prior : Bool) : Pure Tryz.prog 11 [opV b, opV a, .bool prior] (fun x => x = .bool true) := by
  refine pure_wk (pure_fn 100 Tryz.func11 rfl rfl rfl fun B => ?_)
  have hw := w_works12
  show CallThen _ _ _ _ _ _
  refine call_pure (w_LightX a 200 (by decide)) rfl ?_
  rintro x rfl
  refine ⟨fun g1 => go 100 ?_, fun g1 => go 100 ?_⟩
  · show CallThen _ _ _ _ _ _
    refine call_pure hw rfl ?_
    rintro x rfl
    exact ⟨trivial, rfl, rfl, rfl, leaf_b rfl⟩
  have ha := light_ok (top := 200) (o := a) (by simpa using g1) (by decide)
  have la := ((lightB_iff a 200).1 (by simpa using g1)).1
  show CallThen _ _ _ _ _ _
  refine call_pure (w_LightX b 200 (by decide)) rfl ?_
  rintro x rfl
  refine ⟨fun g2 => go 100 ?_, fun g2 => go 100 ?_⟩
  · show CallThen _ _ _ _ _ _
    refine call_pure hw rfl ?_
    rintro x rfl
    exact ⟨trivial, rfl, rfl, rfl, leaf_b rfl⟩
  have hb := light_ok (top := 200) (o := b) (by simpa using g2) (by decide)
  have lb := ((lightB_iff b 200).1 (by simpa using g2)).1
  have a1 := la.pieces
  have a2 := la.to
  have b1 := lb.pieces
  have b2 := lb.to
  show CallThen _ _ _ _ _ _
  refine call_pure (w_Small a.pieces 400 (by omega) (by decide)) rfl ?_
  rintro x ⟨s1, rfl⟩
  refine ⟨fun g3 => go 100 ?_, fun g3 => go 100 ?_⟩
  · show CallThen _ _ _ _ _ _
    refine call_pure hw rfl ?_
    rintro x rfl
    exact ⟨trivial, rfl, rfl, rfl, leaf_b rfl⟩
  show CallThen _ _ _ _ _ _
  refine call_pure (w_Small b.pieces 400 (by omega) (by decide)) rfl ?_
  rintro x ⟨s2, rfl⟩
  refine ⟨fun g4 => go 100 ?_, fun g4 => go 100 ?_⟩
  · show CallThen _ _ _ _ _ _
    refine call_pure hw rfl ?_
    rintro x rfl
    exact ⟨trivial, rfl, rfl, rfl, leaf_b rfl⟩
  have h1 := w_BehindX b a prior ha hb ⟨by omega, by omega⟩
  have h2 := w_refBehind b a prior ha hb ⟨by omega, by omega⟩
  have hok := behX_okL b a prior
  have hlen : (behindX b a prior).1.length ≤ 1000000 := by
    cases h : !soundO a || !soundO b with
    | true => rw [behX_bad h]; exact Nat.zero_le _
    | false =>
      rw [Bool.or_eq_false_iff] at h
      have sa : soundO a = true := by simpa using h.1
      have sb : soundO b = true := by simpa using h.2
      have := rowX_len b a prior
      rw [behX_rowX sa sb]
      cases !decide ((rowX b a prior).2 = 0) with
      | true => exact Nat.zero_le _
      | false =>
        cases (rowX b a prior).1.all formedB with
        | false => exact Nat.zero_le _
        | true => show (bareL (rowX b a prior).1).length ≤ _; rw [bareL_len]; omega
  obtain ⟨⟨l, e⟩, hr⟩ : ∃ r, behindX b a prior = r := ⟨_, rfl⟩
  rw [hr] at h1 h2 hok hlen
  have hs := w_same12 l hlen (fun o ho => (hok o ho).1.lt)
  show CallThen _ _ _ _ _ _
  refine call_pure h1 rfl ?_
  rintro x rfl
  show CallThen _ _ _ _ _ _
  refine call_pure h2 rfl ?_
  rintro x rfl
  refine ⟨fun _ => go 100 ?_, fun g => absurd rfl (ne_of g)⟩
  show CallThen _ _ _ _ _ _
  refine call_pure hs rfl ?_
  rintro x rfl
  refine ⟨fun _ => go 100 ?_, fun g => (by cases g)⟩
  show CallThen _ _ _ _ _ _
  refine call_pure hw rfl ?_
  rintro x rfl
  exact ⟨trivial, rfl, rfl, rfl, leaf_b rfl⟩
end Bow
/- W87: the law SquareKnown, walked. -/
namespace Bow
open Go Go.Proofs

def oddO : List OpT := [noOp 0, noOp 9, noOp 2, noOp 3, { noOp 3 with path := [0], to := [0, 1] }, { noOp 1 with at_ := 1048576 }, { noOp 1 with at_ := 1048577 }, { noOp 1 with path := [1048575], at_ := 3 }, { noOp 6 with pieces := [⟨0, -1, []⟩] }, { noOp 5 with path := List.replicate 64 0 }, { noOp 3 with path := [1], to := List.replicate 63 0 }]
def oddLV (k : Int) (p : V) (a : Int) (t s : V) : V := .agg [.int .u8 k, p, .int .i64 a, t, .int .u64 0, .ff, .str [], .str [], .str [], .ff, s]
def oddV : List V := [oddLV 0 .nilsl 0 .nilsl .nilsl, oddLV 9 .nilsl 0 .nilsl .nilsl, oddLV 2 .nilsl 0 .nilsl .nilsl, oddLV 3 .nilsl 0 .nilsl .nilsl, oddLV 3 (.sl 1 [.int .i64 0]) 0 (.sl 1 [.int .i64 0, .int .i64 1]) .nilsl, oddLV 1 .nilsl 1048576 .nilsl .nilsl, oddLV 1 .nilsl 1048577 .nilsl .nilsl, oddLV 1 (.sl 1 [.int .i64 1048575]) 3 .nilsl .nilsl, oddLV 6 .nilsl 0 .nilsl (.sl 3 [.agg [.int .i64 0, .int .i64 (-1), .str []]]), oddLV 5 (.sl 1 (List.replicate 64 (.int .i64 0))) 0 .nilsl .nilsl, oddLV 3 (.sl 1 [.int .i64 1]) 0 (.sl 1 (List.replicate 63 (.int .i64 0))) .nilsl]
theorem wk_lit {k a : Int} {p t s : V} {path to : List Int} {pc : List PieceT} (hp : Wk p (pathV path)) (ht : Wk t (pathV to)) (hs : Wk s (piecesV pc)) : WkE 11 [oddLV k p a t s] ([({ noOp k with path := path, at_ := a, to := to, pieces := pc } : OpT)].map opV) :=
  ⟨⟨⟨.refl _, hp, .refl _, ht, .refl _, Wk.ff, .refl _, .refl _, .refl _, Wk.ff, hs, trivial⟩, rfl, rfl⟩, trivial⟩
theorem wk_rep (n : Nat) : Wk (.sl 1 (List.replicate n (.int .i64 0))) (pathV (List.replicate n 0)) := by
  unfold pathV
  rw [List.map_replicate]
  exact .refl _
theorem wk_odd : Wk (.sl 11 oddV) (opsV oddO) := by
  have n1 := Wk.nil 1
  have n3 := Wk.nil 3
  exact Wk.sl (wkE_app (wk_lit n1 n1 n3) (wkE_app (wk_lit n1 n1 n3) (wkE_app (wk_lit n1 n1 n3) (wkE_app (wk_lit n1 n1 n3) (wkE_app (wk_lit (.refl _) (.refl _) n3) (wkE_app (wk_lit n1 n1 n3) (wkE_app (wk_lit n1 n1 n3) (wkE_app (wk_lit (.refl _) n1 n3) (wkE_app (wk_lit n1 n1 (.refl _)) (wkE_app (wk_lit (wk_rep 64) n1 n3) (wk_lit (.refl _) (wk_rep 63) n3)))))))))))
theorem at_mod {l : List OpT} (h : l ≠ []) (j : Int) (hj : 0 ≤ j) : 0 ≤ j.tmod ((l.map opV).length : Int) ∧ ∃ o, (l.map opV)[(j.tmod ((l.map opV).length : Int)).toNat]? = some (opV o) := by
  have hl : 0 < l.length := List.length_pos_iff.2 h
  obtain ⟨n, rfl⟩ := Int.eq_ofNat_of_zero_le hj
  have e : ((n : Nat) : Int).tmod ((l.map opV).length : Int) = ((n % l.length : Nat) : Int) := by rw [List.length_map]; rfl
  rw [e]
  have h1 : n % l.length < l.length := Nat.mod_lt _ hl
  exact ⟨Int.natCast_nonneg _, l[n % l.length], by rw [show (((n % l.length : Nat) : Int)).toNat = n % l.length from rfl, List.getElem?_map, List.getElem?_eq_getElem h1]; rfl⟩
theorem par_eq (i k : Nat) : decide (((i : Int) + (k : Int)).tmod 2 = 0) = decide ((i + k) % 2 = 0) := by
  have e : ((i : Int) + (k : Int)).tmod 2 = (((i + k) % 2 : Nat) : Int) := rfl
  rw [e]
  exact decide_eq_decide.2 ⟨fun h => by omega, fun h => by omega⟩

set_option maxHeartbeats 8000000 in
set_option maxRecDepth 100000 in
theorem w_SquareKnown : Pure Tryz.prog 3 [] (fun x => x = .bool true) := by
  have hw := w_works12
  have cP := w_Paths groveT (by decide)
  have cM := w_Many (pathsT groveT) (by decide)
  have hsm := grove_small
  obtain ⟨all, hall⟩ : ∃ l, manyO (pathsT groveT) 2 (pathsT groveT).length = l := ⟨_, rfl⟩
  have hgo : groveOps = all.filter fun o => decide (ValidE groveT o = 0) := by rw [← hall]; rfl
  rw [hall] at cM hsm
  have hok : ∀ o ∈ all, smallO o = true := List.all_eq_true.1 hsm
  have hlen : all.length ≤ 1000 := by rw [← hall, many_len]; decide
  clear hall hsm
  refine pure_wk (pure_fn 60 Tryz.func3 rfl rfl rfl fun B => ?_)
  show CallThen _ _ _ _ _ _
  refine call_pure w_Grove rfl ?_
  rintro x rfl
  show CallThen _ _ _ _ _ _
  refine call_pure cP rfl ?_
  rintro x rfl
  show CallThen _ _ _ _ _ _
  refine call_pure cM rfl ?_
  rintro x rfl
  show Goes _ _ _ _
  refine goes_own 4 11 rfl ?_
  refine goes_iter (ι := Nat × Nat × List OpT) (fun i => i.1 ≤ all.length ∧ i.2.2 = (all.take i.1).filter fun o => decide (ValidE groveT o = 0)) (fun i => all.length - i.1) (fun i => [(5, .int .i64 i.1), (4, .osl (.loc 1) i.2.1 0 (i.2.2.map opV).length), (3, opsV all), (1, .ptr (.loc 0) 0)]) (fun i => [some (.box (nodeV groveT).cells), some (.vec i.2.1 11 (i.2.2.map opV))]) (0, 0, []) 60 (fun _ => rfl) (fun _ => rfl) ⟨⟨Nat.zero_le _, rfl⟩, ⟨⟨rfl, rfl⟩, ⟨rfl, rfl⟩, ⟨rfl, rfl⟩, ⟨rfl, rfl⟩, trivial⟩, ⟨⟨rfl, rfl⟩, ⟨rfl, rfl⟩, trivial⟩⟩ ?_
  rintro ⟨i, g, acc⟩ ⟨k1, k2⟩ next
  simp only at k1 k2
  have hal : acc.length ≤ 1000 := by
    rw [k2]
    exact Nat.le_trans (List.length_filter_le _ _) (by rw [List.length_take]; omega)
  refine ⟨fun hlt => go 60 ?_, fun hge => ?_⟩
  · have hi : i < all.length := by simpa using hlt
    have hx : (all.map opV)[((i : Nat) : Int).toNat]? = some (opV all[i]) := by simp [hi]
    have cv := w_refValid groveT all[i] (by decide) (small_ok (hok _ (List.getElem_mem hi)))
    have ks : (all.take (i + 1)).filter (fun o => decide (ValidE groveT o = 0)) = acc ++ ([all[i]].filter fun o => decide (ValidE groveT o = 0)) := by
      rw [List.take_succ_eq_append_getElem hi, List.filter_append, k2]
    show Goes _ _ _ _
    refine goes_draw 60 ?_
    refine ⟨Int.natCast_nonneg i, _, hx, _, cv, rfl, ?_⟩
    refine ⟨by kernel_rfl, ?_⟩
    refine ⟨fun hv => go 60 ?_, fun hv => go 60 ?_⟩
    · have ks2 : acc ++ [all[i]] = (all.take (i + 1)).filter fun o => decide (ValidE groveT o = 0) := by rw [ks, List.filter_cons, if_pos hv]; rfl
      refine ⟨Int.natCast_nonneg i, _, hx, ⟨rfl, trivial⟩, rfl, rfl, rfl, rfl, room_of2 (by simp only [List.length_map, List.length_cons, List.length_nil]; omega) (by decide), ?_⟩
      refine ⟨by constructor <;> omega, ?_⟩
      show Goes _ _ _ _
      refine next (i + 1, bump g, acc ++ [all[i]]) _ _ ⟨⟨hi, ks2⟩, by simp only; omega, ⟨⟨rfl, rfl⟩, ⟨?_, rfl⟩, ⟨rfl, rfl⟩, ⟨rfl, rfl⟩, trivial⟩, ⟨⟨rfl, rfl⟩, ⟨?_, rfl⟩, trivial⟩⟩
      · exact congrArg (V.osl (.loc 1) (bump g) 0) (by simp)
      · exact congrArg (fun z => some (HObj.vec (bump g) 11 z)) (by rw [List.map_append]; rfl)
    · have ks2 : acc = (all.take (i + 1)).filter fun o => decide (ValidE groveT o = 0) := by rw [ks, List.filter_cons, if_neg (by rw [hv]; decide)]; simp
      refine ⟨by constructor <;> omega, ?_⟩
      show Goes _ _ _ _
      exact next (i + 1, g, acc) _ _ ⟨⟨hi, ks2⟩, by simp only; omega, ⟨⟨rfl, rfl⟩, ⟨rfl, rfl⟩, ⟨rfl, rfl⟩, ⟨rfl, rfl⟩, trivial⟩, ⟨⟨rfl, rfl⟩, ⟨rfl, rfl⟩, trivial⟩⟩
  clear next
  have hi : i = all.length := by have : all.length ≤ i := by simpa using hge
                                 omega
  have hacc : acc = groveOps := by rw [k2, hi, List.take_length, hgo]
  have hsa : ∀ o ∈ acc, smallO o = true := fun o ho => by
    rw [k2] at ho
    exact hok o (List.mem_of_mem_take (List.mem_filter.1 ho).1)
  have hne : acc ≠ [] := fun h => by
    have := grove_len
    rw [← hacc, h] at this
    cases this
  have hcl : ∀ (i k : Nat) (hi : i < acc.length) (hk : k < acc.length), k % 3 = i % 3 → Pure Tryz.prog 10 [nodeV groveT, opV acc[i], opV acc[k], .bool (decide (((i : Int) + (k : Int)).tmod 2 = 0))] (fun x => x = .bool true) := fun i k hi hk hm => by
    have s1 := hsa _ (List.getElem_mem hi)
    have s2 := hsa _ (List.getElem_mem hk)
    have t1 := small_to s1
    have t2 := small_to s2
    rw [par_eq]
    refine w_closes groveT _ _ _ ?_ (by decide) (small_ok s1) (small_ok s2) ⟨by omega, by omega⟩
    have key : ∀ (l : List OpT) (e : l = groveOps) (hi : i < l.length) (hk : k < l.length), closesC groveT l[i] l[k] (decide ((i + k) % 2 = 0)) = true := fun l e hi hk => by
      subst e
      exact grove_closes hi hk hm
    exact key acc hacc hi hk
  clear hacc hsa k2 hge hi hgo
  refine goes_fzSlot 4 1 rfl rfl rfl ?_
  refine go 60 ?_
  show Goes _ _ _ _
  refine goes_iter (ι := Nat) (fun i => i ≤ acc.length) (fun i => acc.length - i) (fun i => [(6, .int .i64 i), (4, .sl 11 (acc.map opV)), (1, .ptr (.loc 0) 0)]) (fun _ => [some (.box (nodeV groveT).cells)]) 0 60 (fun _ => rfl) (fun _ => rfl) ⟨Nat.zero_le _, ⟨⟨rfl, rfl⟩, ⟨rfl, rfl⟩, ⟨rfl, rfl⟩, trivial⟩, ⟨⟨rfl, rfl⟩, trivial⟩⟩ ?_
  clear k1
  rintro i k1 next
  refine ⟨fun hlt => go 60 ?_, fun hge => go 60 ?_⟩
  · have hi : i < acc.length := by simpa using hlt
    have hx : (acc.map opV)[((i : Nat) : Int).toNat]? = some (opV acc[i]) := by simp [hi]
    refine ⟨by decide, ?_⟩
    show Goes _ _ _ _
    refine goes_iter (ι := Nat) (fun k => k ≤ acc.length + 3 ∧ k % 3 = i % 3) (fun k => acc.length + 4 - k) (fun k => [(7, .int .i64 k), (6, .int .i64 i), (4, .sl 11 (acc.map opV)), (1, .ptr (.loc 0) 0)]) (fun _ => [some (.box (nodeV groveT).cells)]) (i % 3) 60 (fun _ => rfl) (fun _ => rfl) ⟨⟨by omega, by omega⟩, ⟨⟨rfl, rfl⟩, ⟨rfl, rfl⟩, ⟨rfl, rfl⟩, ⟨rfl, rfl⟩, trivial⟩, ⟨⟨rfl, rfl⟩, trivial⟩⟩ ?_
    rintro k ⟨j1, j2⟩ next1
    refine ⟨fun hlt => go 60 ?_, fun hge => go 60 ?_⟩
    · have hk : k < acc.length := by simpa using hlt
      have hy : (acc.map opV)[((k : Nat) : Int).toNat]? = some (opV acc[k]) := by simp [hk]
      have cc := hcl i k hi hk j2
      show Goes _ _ _ _
      refine goes_draw 60 ?_
      refine ⟨Int.natCast_nonneg i, _, hx, Int.natCast_nonneg k, _, hy, by constructor <;> omega, by decide, _, cc, rfl, ?_⟩
      refine ⟨by kernel_rfl, ?_⟩
      refine ⟨fun q => (by cases q), fun _ => go 60 ?_⟩
      refine ⟨by constructor <;> omega, ?_⟩
      show Goes _ _ _ _
      exact next1 (k + 3) _ _ ⟨⟨by omega, by omega⟩, by omega, ⟨⟨rfl, rfl⟩, ⟨rfl, rfl⟩, ⟨rfl, rfl⟩, ⟨rfl, rfl⟩, trivial⟩, ⟨⟨rfl, rfl⟩, trivial⟩⟩
    clear next1
    have hz1 := at_mod hne (7 * (i : Int) + 3) (by omega)
    have hz2 := at_mod hne (5 * (i : Int) + 1) (by omega)
    have hz3 := at_mod hne (11 * (i : Int) + 2) (by omega)
    have hnz : (((acc.map opV).length : Nat) : Int) ≠ 0 := by rw [List.length_map]; have := List.length_pos_iff.2 hne; omega
    refine Exists.elim hz1.2 fun o1 h1 => Exists.elim hz2.2 fun o2 h2 => Exists.elim hz3.2 fun o3 h3 => ?_
    have s1 := w_SquareBehind acc[i] o1
    have s2 := w_SquareBoth acc[i] o2
    have s3 := w_SquareTurned acc[i] o3
    show Goes _ _ _ _
    refine goes_draw 60 ?_
    refine ⟨Int.natCast_nonneg i, _, hx, by constructor <;> omega, by constructor <;> omega, hnz, hz1.1, _, h1, by decide, _, s1 _, rfl, ?_⟩
    refine ⟨fun q => (by cases q), fun _ => ?_⟩
    refine ⟨Int.natCast_nonneg i, _, hx, by constructor <;> omega, by constructor <;> omega, hnz, hz2.1, _, h2, by decide, _, s2 _, rfl, ?_⟩
    refine ⟨fun q => (by cases q), fun _ => ?_⟩
    refine ⟨Int.natCast_nonneg i, _, hx, by constructor <;> omega, by constructor <;> omega, hnz, hz3.1, _, h3, by decide, _, s3 _, rfl, ?_⟩
    refine ⟨by kernel_rfl, ?_⟩
    refine ⟨fun q => (by cases q), fun _ => go 60 ?_⟩
    refine ⟨by constructor <;> omega, ?_⟩
    show Goes _ _ _ _
    exact next (i + 1) _ _ ⟨hi, by omega, ⟨⟨rfl, rfl⟩, ⟨rfl, rfl⟩, ⟨rfl, rfl⟩, trivial⟩, ⟨⟨rfl, rfl⟩, trivial⟩⟩
  clear next
  clear hcl hne
  show Goes _ _ _ _
  refine goes_draw 0 ?_
  refine ⟨rfl, ⟨rfl, trivial⟩, rfl, rfl, ⟨rfl, rfl, trivial⟩, rfl, rfl, ⟨rfl, trivial⟩, rfl, rfl, ⟨rfl, trivial⟩, rfl, ⟨by decide, rfl, by decide⟩, rfl, rfl, ⟨rfl, trivial⟩, rfl, ⟨by decide, rfl, by decide⟩, rfl, ?_⟩
  refine ⟨rfl, rfl, rfl, rfl, rfl, rfl, rfl, rfl, rfl, rfl, List.length_replicate.symm, rfl, rfl, rfl, List.length_replicate.symm, ⟨rfl, rfl, rfl, rfl, rfl, rfl, rfl, rfl, rfl, rfl, rfl, trivial⟩, rfl, ?_⟩
  refine ⟨by kernel_rfl, ?_⟩
  show Goes _ _ _ _
  refine goes_fzSlot 8 8 rfl rfl rfl ?_
  show Goes _ _ _ _
  refine goes_wkSlot 8 (v := .sl 11 oddV) (v' := opsV oddO) rfl rfl rfl wk_odd ?_
  refine go 60 ?_
  have hol : oddO.length ≤ 11 := Nat.le_refl _
  generalize oddO = odd at hol ⊢
  show Goes _ _ _ _
  refine goes_iter (ι := Nat) (fun i => i ≤ odd.length) (fun i => odd.length - i) (fun i => [(9, .int .i64 i), (8, .sl 11 (odd.map opV))]) (fun _ => []) 0 60 (fun _ => rfl) (fun _ => rfl) ⟨Nat.zero_le _, ⟨⟨rfl, rfl⟩, ⟨rfl, rfl⟩, trivial⟩, trivial⟩ ?_
  clear k1 hge
  rintro i k1 next
  refine ⟨fun hlt => go 60 ?_, fun hge => go 60 ?_⟩
  · have hi : i < odd.length := by simpa using hlt
    have hx : (odd.map opV)[((i : Nat) : Int).toNat]? = some (opV odd[i]) := by simp [hi]
    generalize odd[i] = oi at hx
    show Goes _ _ _ _
    refine goes_iter (ι := Nat) (fun k => k ≤ odd.length) (fun k => odd.length - k) (fun k => [(10, .int .i64 k), (9, .int .i64 i), (8, .sl 11 (odd.map opV))]) (fun _ => []) 0 60 (fun _ => rfl) (fun _ => rfl) ⟨Nat.zero_le _, ⟨⟨rfl, rfl⟩, ⟨rfl, rfl⟩, ⟨rfl, rfl⟩, trivial⟩, trivial⟩ ?_
    rintro k k2 next1
    refine ⟨fun hlt => go 60 ?_, fun hge => go 60 ?_⟩
    · have hk : k < odd.length := by simpa using hlt
      have hy : (odd.map opV)[((k : Nat) : Int).toNat]? = some (opV odd[k]) := by simp [hk]
      generalize odd[k] = ok at hy
      have s1 := w_SquareBehind oi ok
      have s2 := w_SquareBoth oi ok
      show Goes _ _ _ _
      refine goes_draw 60 ?_
      refine ⟨Int.natCast_nonneg i, _, hx, Int.natCast_nonneg k, _, hy, by decide, _, s1 _, rfl, ?_⟩
      refine ⟨fun q => (by cases q), fun _ => ?_⟩
      refine ⟨Int.natCast_nonneg i, _, hx, Int.natCast_nonneg k, _, hy, by decide, _, s2 _, rfl, ?_⟩
      refine ⟨by kernel_rfl, ?_⟩
      refine ⟨fun q => (by cases q), fun _ => go 60 ?_⟩
      refine ⟨by constructor <;> omega, ?_⟩
      show Goes _ _ _ _
      exact next1 (k + 1) _ _ ⟨hk, by omega, ⟨⟨rfl, rfl⟩, ⟨rfl, rfl⟩, ⟨rfl, rfl⟩, trivial⟩, trivial⟩
    clear next1
    refine ⟨by constructor <;> omega, ?_⟩
    show Goes _ _ _ _
    exact next (i + 1) _ _ ⟨hi, by omega, ⟨⟨rfl, rfl⟩, ⟨rfl, rfl⟩, trivial⟩, trivial⟩
  clear next
  show CallThen _ _ _ _ _ _
  refine call_pure hw rfl ?_
  rintro x rfl
  exact ⟨trivial, rfl, rfl, rfl, leaf_b rfl⟩
end Bow
/- TD1: what is read as data at the program's types. -/
namespace Bow
open Go Go.Proofs

end Bow
/- TD2: operations that are read as data. -/
namespace Bow
open Go Go.Proofs

end Bow
