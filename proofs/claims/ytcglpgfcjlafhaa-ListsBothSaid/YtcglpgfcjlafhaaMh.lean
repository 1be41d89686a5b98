/- The library, part 8: W70, W71, W72, AE47, W79, SP32, W73, SP33, W80, TD1, TD2. -/
import Derived.Test.YtcglpgfcjlafhaaMe
import Derived.Test.YtcglpgfcjlafhaaMg
import Derived.Test.YtcglpgfcjlafhaaMd
import Derived.Test.YtcglpgfcjlafhaaMf
import Derived.Test.YtcglpgfcjlafhaaMc
import Derived.Test.YtcglpgfcjlafhaaRows
import Derived.ChangeShapes
/- W70: the document's answer of chapter 5: norm, Extent, view, behind, Transform. -/
namespace Bow
open Go Go.Proofs

set_option maxRecDepth 100000 in
theorem w_refRightW (l : List PieceT) (hl : l.length ≤ 1000000000000) (hpl : ∀ p ∈ l, p.put.length ≤ 1000000000000) : Pure Try.prog 85 [piecesV l] (fun x => x = .bool (rightP l)) := by
  refine pure_wk (pure_fn 100 Try.func85 rfl rfl rfl fun B => ?_)
  refine ⟨fun g0 => go 200 ?_, fun g0 => go 200 ?_⟩
  · have g0 : 4096 < l.length := by have := lt_of g0; simp at this; omega
    exact ⟨trivial, rfl, rfl, rfl, leaf_ff (by unfold rightP; rw [decide_eq_false (by omega)]; rfl)⟩
  have g0 : l.length ≤ 4096 := by have := not_lt_of g0; simp at this; omega
  show Goes _ _ _ _
  refine goes_iter (ι := Nat × Nat) (fun i => i.1 ≤ l.length ∧ i.2 ≤ 1048576 ∧ rightP l = rightGo i.2 (l.drop i.1)) (fun i => l.length - i.1) (fun i => [(4, .int .i64 i.1), (0, piecesV l), (3, .int .i64 i.2)]) (fun _ => []) (0, 0) 200 (fun _ => rfl) (fun _ => rfl) ⟨⟨Nat.zero_le _, Nat.zero_le _, ?_⟩, ?_, ?_⟩ ?_
  · unfold rightP
    rw [decide_eq_true g0]
    rfl
  · exact ⟨⟨rfl, rfl⟩, ⟨rfl, rfl⟩, ⟨rfl, rfl⟩, trivial⟩
  · trivial
  · rintro ⟨i, n⟩ ⟨h1, h3, h2⟩ next
    simp only at h1 h2 h3
    refine ⟨fun hlt => go 200 ?_, fun hge => go 200 ?_⟩
    · have hi : i < l.length := by simpa using hlt
      have hx : (l.map pieceV)[i]? = some (pieceV l[i]) := by simp [hi]
      have hput := hpl l[i] (List.getElem_mem hi)
      rw [drop_cons hi] at h2
      refine ⟨Int.natCast_nonneg i, _, hx, ?_⟩
      refine ⟨fun g1 => go 200 ?_, fun g1 => go 200 ?_⟩
      · have g1 := lt_of g1
        exact ⟨trivial, rfl, rfl, rfl, leaf_ff (by rw [h2]; exact rightGo_bad (by omega))⟩
      have g1 := not_lt_of g1
      refine ⟨Int.natCast_nonneg i, _, hx, ?_⟩
      refine ⟨fun g2 => go 200 ?_, fun g2 => go 200 ?_⟩
      · have g2 := lt_of g2
        exact ⟨trivial, rfl, rfl, rfl, leaf_ff (by rw [h2]; exact rightGo_bad (by omega))⟩
      have g2 := not_lt_of g2
      refine ⟨Int.natCast_nonneg i, _, hx, ?_⟩
      refine ⟨fun g3 => go 200 ?_, fun g3 => go 200 ?_⟩
      · have g3 := lt_of g3
        exact ⟨trivial, rfl, rfl, rfl, leaf_ff (by rw [h2]; exact rightGo_bad (by omega))⟩
      have g3 := not_lt_of g3
      refine ⟨Int.natCast_nonneg i, _, hx, ?_⟩
      refine ⟨fun g4 => go 200 ?_, fun g4 => go 200 ?_⟩
      · have g4 := lt_of g4
        exact ⟨trivial, rfl, rfl, rfl, leaf_ff (by rw [h2]; exact rightGo_bad (by omega))⟩
      have g4 := not_lt_of g4
      refine ⟨Int.natCast_nonneg i, _, hx, ?_⟩
      refine ⟨by constructor <;> omega, ?_⟩
      refine ⟨fun g5 => go 200 ?_, fun g5 => go 200 ?_⟩
      · have g5 := lt_of g5
        exact ⟨trivial, rfl, rfl, rfl, leaf_ff (by rw [h2]; exact rightGo_bad (by omega))⟩
      have g5 := not_lt_of g5
      refine ⟨Int.natCast_nonneg i, _, hx, ?_⟩
      refine ⟨by constructor <;> omega, ?_⟩
      refine ⟨by constructor <;> omega, ?_⟩
      show Goes _ _ _ _
      refine next (i + 1, n + (l[i]).put.length) _ _ ⟨⟨hi, by simp only; omega, ?_⟩, ?_, ⟨⟨rfl, rfl⟩, ⟨rfl, rfl⟩, ⟨rfl, rfl⟩, trivial⟩, trivial⟩
      · rw [h2]
        exact rightGo_good (by omega) (by omega) (by omega) (by omega) (by omega)
      · simp only; omega
    · have hi : l.length ≤ i := by simpa using hge
      rw [List.drop_eq_nil_of_le hi] at h2
      exact ⟨trivial, rfl, rfl, rfl, leaf_tt h2⟩
/-! ### norm -/
def mkN (l : List PieceT) (i : Nat) : Mk := (l.take i).foldl Mk.piece Mk.nil
theorem mkN_succ {l : List PieceT} {i : Nat} (hi : i < l.length) : mkN l (i + 1) = (mkN l i).piece l[i] := by
  unfold mkN
  rw [List.take_succ_eq_append_getElem hi, List.foldl_append]
  rfl
theorem sumW_take' (l : List PieceT) (i : Nat) (h : ∀ p ∈ l, p.Nn) : sumW (l.take i) ≤ sumW l := by
  have e := sumW_append (l.take i) (l.drop i)
  rw [List.take_append_drop] at e
  have := sumW_len (l := l.drop i) fun p hp => h p (List.mem_of_mem_drop hp)
  omega
theorem piece_at {l : List PieceT} {i : Nat} (h : i < l.length) : (l.map pieceV)[i]? = some (pieceV l[i]) := by simp [h]
theorem lastP_at {l : List PieceT} (h : 0 < l.length) : (l.map pieceV)[0 + ((l.length : Int) - 1).toNat]? = some (pieceV (l[l.length - 1]'(by omega))) := by
  have : 0 + ((l.length : Int) - 1).toNat = l.length - 1 := by omega
  rw [this]
  simp [show l.length - 1 < l.length by omega]
theorem set_lastP {f : PieceT → PieceT} {l : List PieceT} (h : 0 < l.length) : (l.map pieceV).set (0 + ((l.length : Int) - 1).toNat) (pieceV (f (l[l.length - 1]'(by omega)))) = (modL f l).map pieceV := by
  have : 0 + ((l.length : Int) - 1).toNat = l.length - 1 := by omega
  rw [this, modL_set f l (by omega), List.map_set]
set_option pp.maxSteps 300 in
set_option maxHeartbeats 2000000 in
set_option maxRecDepth 100000 in
theorem w_ref5norm (l : List PieceT) (h : ∀ p ∈ l, p.Nn) (hw : sumW l ≤ 400000000000) : Pure Try.prog 114 [piecesV l] (fun x => x = piecesV (normP l)) := by
  have hlen := sumW_len h
  refine pure_wk (pure_fn 100 Try.func114 rfl rfl rfl fun B => ?_)
  show Goes _ _ _ _
  refine goes_own 3 3 rfl ?_
  refine goes_iter (ι := Nat × Nat) (fun i => i.1 ≤ l.length) (fun i => l.length - i.1) (fun i => [(5, .int .i64 i.1), (4, .int .i64 (mkN l i.1).keep), (3, .osl (.loc 0) i.2 0 (mkN l i.1).l.length), (0, piecesV l)]) (fun i => [some (.vec i.2 3 ((mkN l i.1).l.map pieceV))]) (0, 0) 100 (fun _ => rfl) (fun _ => rfl) ⟨Nat.zero_le _, ⟨⟨rfl, rfl⟩, ⟨rfl, rfl⟩, ⟨rfl, rfl⟩, ⟨rfl, rfl⟩, trivial⟩, ⟨⟨rfl, rfl⟩, trivial⟩⟩ ?_
  rintro ⟨i, g⟩ k1 next
  simp only at k1
  refine ⟨fun hlt => go 100 ?_, fun hge => go 100 ?_⟩
  · have hi : i < l.length := by have := lt_of hlt; simp at this; omega
    have hm : l[i] ∈ l := List.getElem_mem hi
    have hn := h _ hm
    obtain ⟨q1, q2⟩ := foldl_ok (l := l.take i) Mk.nil_ok fun p hp => h p (List.mem_of_mem_take hp)
    have q1 : (mkN l i).Ok := q1
    have q2 : (mkN l i).w ≤ Mk.nil.w + 2 * sumW (l.take i) := q2
    have s1 : (mkN l (i, g).fst).keep = (mkN l i).keep := rfl
    have s2 : (((mkN l (i, g).fst).l.length : Nat) : Int) = ((mkN l i).l.length : Nat) := rfl
    have q3 := sumW_take' l i h
    have q4 := sumW_mem h _ hm
    have e1 := mkN_succ hi
    have d1 := q1.k
    have d2 := sumW_len q1.l
    have d3 := hn.k
    have d4 := hn.d
    have d5 : Mk.nil.w = 0 := rfl
    have d6 : (mkN l i).w = (mkN l i).keep + sumW (mkN l i).l := rfl
    have d7 : l[i].w = l[i].keep + l[i].drop + l[i].put.length + 1 := rfl
    have hx := piece_at hi
    have hroom : room (((mkN l i).l.map pieceV).length + 1) 32 := by
      unfold room
      simp only [List.length_map]
      omega
    refine ⟨Int.natCast_nonneg i, _, hx, ?_⟩
    refine ⟨by constructor <;> omega, ?_⟩
    refine ⟨Int.natCast_nonneg i, _, hx, ?_⟩
    refine ⟨fun g1 => go 60 ?_, fun g1 => go 60 ?_⟩
    · have p0 : l[i].put = [] := of_decide_eq_true g1
      refine ⟨Int.natCast_nonneg i, _, hx, ?_⟩
      refine ⟨fun g2 => go 60 ?_, fun g2 => go 60 ?_⟩
      · have p1 : l[i].drop = 0 := eq_of g2
        have e2 : mkN l (i + 1) = ⟨(mkN l i).l, (mkN l i).keep + l[i].keep⟩ := by rw [e1]; exact piece_skip p0 p1
        refine ⟨by constructor <;> omega, ?_⟩
        show Goes _ _ _ _
        refine next (i + 1, g) _ _ ⟨hi, by simp only; omega, ?_, ?_⟩
        · rw [e2]
          exact ⟨⟨rfl, rfl⟩, ⟨rfl, rfl⟩, ⟨rfl, rfl⟩, ⟨rfl, rfl⟩, trivial⟩
        · rw [e2]
          exact ⟨⟨rfl, rfl⟩, trivial⟩
      · have p1 : l[i].drop ≠ 0 := ne_of g2
        have h0 : ¬ (l[i].put = [] ∧ l[i].drop = 0) := fun e => p1 e.2
        refine ⟨fun g3 => go 60 ?_, fun g3 => go 60 ?_⟩
        · have g3 := eq_of g3
          refine ⟨rfl, ?_⟩
          refine ⟨fun g4 => go 60 ?_, fun g4 => go 60 ?_⟩
          · have g4 := lt_of g4
            have hne : (mkN l i).l ≠ [] := fun e => by rw [e] at g4; simp at g4
            have e2 : mkN l (i + 1) = ⟨modL (addP l[i]) (mkN l i).l, 0⟩ := by rw [e1]; exact piece_merge d4 h0 g3 hne
            have hpos : 0 < (mkN l i).l.length := List.length_pos_iff.2 hne
            have hL := lastP_at hpos
            have hLm := sumW_mem q1.l _ (List.getElem_mem (by omega : (mkN l i).l.length - 1 < (mkN l i).l.length))
            have hLn := q1.l _ (List.getElem_mem (by omega : (mkN l i).l.length - 1 < (mkN l i).l.length))
            have hLk := hLn.k
            have hLd := hLn.d
            unfold PieceT.w at hLm
            refine ⟨rfl, ⟨by omega, by omega⟩, rfl, by omega, by omega, rfl, _, hL, ?_⟩
            show Goes _ _ _ _
            refine goes_draw 60 ⟨Int.natCast_nonneg i, _, hx, by rw [List.length_append]; omega, ?_⟩
            refine ⟨by kernel_rfl, ?_⟩
            show Goes _ _ _ _
            refine goes_draw 60 ⟨Int.natCast_nonneg i, _, hx, ⟨by omega, by omega⟩, ?_⟩
            refine ⟨by kernel_rfl, ?_⟩
            refine ⟨rfl, ⟨by omega, by omega⟩, rfl, by omega, by omega, rfl, _, hL, ?_⟩
            refine ⟨⟨by omega, by omega⟩, ?_⟩
            show Goes _ _ _ _
            have e3 := set_lastP (f := addP l[i]) hpos
            refine next (i + 1, g) _ _ ⟨hi, by simp only; omega, ⟨⟨rfl, rfl⟩, ⟨?_, rfl⟩, ⟨?_, rfl⟩, ⟨rfl, rfl⟩, trivial⟩, ⟨⟨?_, rfl⟩, trivial⟩⟩
            · show V.int .i64 ((mkN l i).keep + l[i].keep) = V.int .i64 (mkN l (i + 1)).keep
              rw [e2, g3]
            · show V.osl (.loc 0) g 0 (mkN l i).l.length = V.osl (.loc 0) g 0 (mkN l (i + 1)).l.length
              rw [e2]
              simp only [modL_len]
            · rw [e2]
              exact congrArg (fun z => some (HObj.vec g 3 z)) e3
          · have g4 := not_lt_of g4
            have hnil : (mkN l i).l = [] := List.length_eq_zero_iff.1 (by omega)
            have e2 : mkN l (i + 1) = ⟨(mkN l i).l ++ [⟨(mkN l i).keep + l[i].keep, l[i].drop, l[i].put⟩], 0⟩ := by rw [e1]; exact piece_new d4 h0 (.inr hnil)
            show Goes _ _ _ _
            refine goes_draw 60 ⟨Int.natCast_nonneg i, _, hx, Int.natCast_nonneg i, _, hx, rfl, ⟨rfl, trivial⟩, rfl, rfl, rfl, rfl, by simp, hroom, ?_⟩
            refine ⟨by kernel_rfl, ?_⟩
            refine ⟨⟨by omega, by omega⟩, ?_⟩
            show Goes _ _ _ _
            refine next (i + 1, bump g) _ _ ⟨hi, by simp only; omega, ⟨⟨rfl, rfl⟩, ⟨?_, rfl⟩, ⟨?_, rfl⟩, ⟨rfl, rfl⟩, trivial⟩, ⟨⟨?_, rfl⟩, trivial⟩⟩
            · rw [e2]
              rfl
            · rw [e2]
              exact congrArg (V.osl (.loc 0) (bump g) 0) (by simp)
            · rw [e2]
              exact congrArg (fun z => some (HObj.vec (bump g) 3 z)) (by rw [List.map_append]; rfl)
        · have g3 := ne_of g3
          have e2 : mkN l (i + 1) = ⟨(mkN l i).l ++ [⟨(mkN l i).keep + l[i].keep, l[i].drop, l[i].put⟩], 0⟩ := by rw [e1]; exact piece_new d4 h0 (.inl (by omega))
          show Goes _ _ _ _
          refine goes_draw 60 ⟨Int.natCast_nonneg i, _, hx, Int.natCast_nonneg i, _, hx, rfl, ⟨rfl, trivial⟩, rfl, rfl, rfl, rfl, by simp, hroom, ?_⟩
          refine ⟨by kernel_rfl, ?_⟩
          refine ⟨⟨by omega, by omega⟩, ?_⟩
          show Goes _ _ _ _
          refine next (i + 1, bump g) _ _ ⟨hi, by simp only; omega, ⟨⟨rfl, rfl⟩, ⟨?_, rfl⟩, ⟨?_, rfl⟩, ⟨rfl, rfl⟩, trivial⟩, ⟨⟨?_, rfl⟩, trivial⟩⟩
          · rw [e2]
            rfl
          · rw [e2]
            exact congrArg (V.osl (.loc 0) (bump g) 0) (by simp)
          · rw [e2]
            exact congrArg (fun z => some (HObj.vec (bump g) 3 z)) (by rw [List.map_append]; rfl)
    · have p0 : l[i].put ≠ [] := of_decide_eq_false g1
      have h0 : ¬ (l[i].put = [] ∧ l[i].drop = 0) := fun e => p0 e.1
      refine ⟨fun g3 => go 60 ?_, fun g3 => go 60 ?_⟩
      · have g3 := eq_of g3
        refine ⟨rfl, ?_⟩
        refine ⟨fun g4 => go 60 ?_, fun g4 => go 60 ?_⟩
        · have g4 := lt_of g4
          have hne : (mkN l i).l ≠ [] := fun e => by rw [e] at g4; simp at g4
          have e2 : mkN l (i + 1) = ⟨modL (addP l[i]) (mkN l i).l, 0⟩ := by rw [e1]; exact piece_merge d4 h0 g3 hne
          have hpos : 0 < (mkN l i).l.length := List.length_pos_iff.2 hne
          have hL := lastP_at hpos
          have hLm := sumW_mem q1.l _ (List.getElem_mem (by omega : (mkN l i).l.length - 1 < (mkN l i).l.length))
          have hLn := q1.l _ (List.getElem_mem (by omega : (mkN l i).l.length - 1 < (mkN l i).l.length))
          have hLk := hLn.k
          have hLd := hLn.d
          unfold PieceT.w at hLm
          refine ⟨rfl, ⟨by omega, by omega⟩, rfl, by omega, by omega, rfl, _, hL, ?_⟩
          show Goes _ _ _ _
          refine goes_draw 60 ⟨Int.natCast_nonneg i, _, hx, by rw [List.length_append]; omega, ?_⟩
          refine ⟨by kernel_rfl, ?_⟩
          show Goes _ _ _ _
          refine goes_draw 60 ⟨Int.natCast_nonneg i, _, hx, ⟨by omega, by omega⟩, ?_⟩
          refine ⟨by kernel_rfl, ?_⟩
          refine ⟨rfl, ⟨by omega, by omega⟩, rfl, by omega, by omega, rfl, _, hL, ?_⟩
          refine ⟨⟨by omega, by omega⟩, ?_⟩
          show Goes _ _ _ _
          have e3 := set_lastP (f := addP l[i]) hpos
          refine next (i + 1, g) _ _ ⟨hi, by simp only; omega, ⟨⟨rfl, rfl⟩, ⟨?_, rfl⟩, ⟨?_, rfl⟩, ⟨rfl, rfl⟩, trivial⟩, ⟨⟨?_, rfl⟩, trivial⟩⟩
          · show V.int .i64 ((mkN l i).keep + l[i].keep) = V.int .i64 (mkN l (i + 1)).keep
            rw [e2, g3]
          · show V.osl (.loc 0) g 0 (mkN l i).l.length = V.osl (.loc 0) g 0 (mkN l (i + 1)).l.length
            rw [e2]
            simp only [modL_len]
          · rw [e2]
            exact congrArg (fun z => some (HObj.vec g 3 z)) e3
        · have g4 := not_lt_of g4
          have hnil : (mkN l i).l = [] := List.length_eq_zero_iff.1 (by omega)
          have e2 : mkN l (i + 1) = ⟨(mkN l i).l ++ [⟨(mkN l i).keep + l[i].keep, l[i].drop, l[i].put⟩], 0⟩ := by rw [e1]; exact piece_new d4 h0 (.inr hnil)
          show Goes _ _ _ _
          refine goes_draw 60 ⟨Int.natCast_nonneg i, _, hx, Int.natCast_nonneg i, _, hx, rfl, ⟨rfl, trivial⟩, rfl, rfl, rfl, rfl, by simp, hroom, ?_⟩
          refine ⟨by kernel_rfl, ?_⟩
          refine ⟨⟨by omega, by omega⟩, ?_⟩
          show Goes _ _ _ _
          refine next (i + 1, bump g) _ _ ⟨hi, by simp only; omega, ⟨⟨rfl, rfl⟩, ⟨?_, rfl⟩, ⟨?_, rfl⟩, ⟨rfl, rfl⟩, trivial⟩, ⟨⟨?_, rfl⟩, trivial⟩⟩
          · rw [e2]
            rfl
          · rw [e2]
            exact congrArg (V.osl (.loc 0) (bump g) 0) (by simp)
          · rw [e2]
            exact congrArg (fun z => some (HObj.vec (bump g) 3 z)) (by rw [List.map_append]; rfl)
      · have g3 := ne_of g3
        have e2 : mkN l (i + 1) = ⟨(mkN l i).l ++ [⟨(mkN l i).keep + l[i].keep, l[i].drop, l[i].put⟩], 0⟩ := by rw [e1]; exact piece_new d4 h0 (.inl (by omega))
        show Goes _ _ _ _
        refine goes_draw 60 ⟨Int.natCast_nonneg i, _, hx, Int.natCast_nonneg i, _, hx, rfl, ⟨rfl, trivial⟩, rfl, rfl, rfl, rfl, by simp, hroom, ?_⟩
        refine ⟨by kernel_rfl, ?_⟩
        refine ⟨⟨by omega, by omega⟩, ?_⟩
        show Goes _ _ _ _
        refine next (i + 1, bump g) _ _ ⟨hi, by simp only; omega, ⟨⟨rfl, rfl⟩, ⟨?_, rfl⟩, ⟨?_, rfl⟩, ⟨rfl, rfl⟩, trivial⟩, ⟨⟨?_, rfl⟩, trivial⟩⟩
        · rw [e2]
          rfl
        · rw [e2]
          exact congrArg (V.osl (.loc 0) (bump g) 0) (by simp)
        · rw [e2]
          exact congrArg (fun z => some (HObj.vec (bump g) 3 z)) (by rw [List.map_append]; rfl)
  · have hi : i = l.length := by have := not_lt_of hge; simp at this; omega
    subst hi
    have e : (mkN l l.length).l = normP l := by unfold mkN normP; rw [List.take_length]
    refine ⟨trivial, rfl, rfl, rfl, by simp, rfl, piecesV (normP l), ?_, rfl, rfl⟩
    rw [← e]
    exact Wk.refl _

/-! ### Extent -/
theorem extN_drop {l : List PieceT} {i : Nat} (hi : i < l.length) : extN (l.drop i) = l[i].keep.toNat + l[i].drop.toNat + extN (l.drop (i + 1)) := by
  rw [List.drop_eq_getElem_cons hi, extN]
set_option maxRecDepth 100000 in
theorem w_ref5Extent (l : List PieceT) (h : ∀ p ∈ l, p.Nn) (hw : sumW l ≤ 1000000000000) : Pure Try.prog 115 [piecesV l] (fun x => x = .int .i64 (extN l)) := by
  have hlen := sumW_len h
  have hext := extN_le h
  refine pure_fn 100 Try.func115 rfl rfl rfl fun B => ?_
  show Goes _ _ _ _
  refine goes_iter (ι := Nat × Nat) (fun i => i.1 ≤ l.length ∧ i.2 + extN (l.drop i.1) = extN l) (fun i => l.length - i.1) (fun i => [(4, .int .i64 i.1), (0, piecesV l), (3, .int .i64 i.2)]) (fun _ => []) (0, 0) 100 (fun _ => rfl) (fun _ => rfl) ⟨⟨Nat.zero_le _, by simp⟩, ⟨⟨rfl, rfl⟩, ⟨rfl, rfl⟩, ⟨rfl, rfl⟩, trivial⟩, trivial⟩ ?_
  rintro ⟨i, n⟩ ⟨k1, k3⟩ next
  simp only at k1 k3
  refine ⟨fun hlt => go 100 ?_, fun hge => go 100 ?_⟩
  · have hi : i < l.length := by simpa using hlt
    have hx := piece_at hi
    have hp := h l[i] (List.getElem_mem hi)
    have := hp.k
    have := hp.d
    rw [extN_drop hi] at k3
    show Goes _ _ _ _
    refine goes_draw 100 ⟨Int.natCast_nonneg i, _, hx, ⟨by omega, by omega⟩, Int.natCast_nonneg i, _, hx, ⟨by omega, by omega⟩, ?_⟩
    refine ⟨by kernel_rfl, ?_⟩
    refine ⟨⟨by omega, by omega⟩, ?_⟩
    show Goes _ _ _ _
    refine next (i + 1, n + l[i].keep.toNat + l[i].drop.toNat) _ _ ⟨⟨hi, by simp only; omega⟩, by simp only; omega, ⟨⟨rfl, rfl⟩, ⟨rfl, rfl⟩, ⟨?_, rfl⟩, trivial⟩, trivial⟩
    show V.int .i64 _ = V.int .i64 _
    congr 1
    omega
  · have hi : l.length ≤ i := by simpa using hge
    rw [List.drop_eq_nil_of_le hi] at k3
    refine ⟨trivial, rfl, rfl, rfl, ?_⟩
    show V.int .i64 _ = V.int .i64 _
    rw [← k3]
    rfl

/-! ### view -/
def bitV (b : Bool) : V := bif b then .tt else .ff
def viewV (l : List PieceT) (n : Nat) : V := .agg [.sl 1 ((List.range' 0 (n + 1)).map fun j => .str (putAt l j)), .sl 1 ((List.range' 0 (n + 1)).map fun j => .bool (dropAt l j))]
theorem wk_bits (f : Nat → Bool) : ∀ L : List Nat, WkE 1 (L.map fun j => bitV (f j)) (L.map fun j => .bool (f j))
  | [] => trivial
  | a :: L => by
    refine ⟨?_, wk_bits f L⟩
    show WkL (bitV (f a)).cells (V.bool (f a)).cells ∧ okE 1 (V.bool (f a))
    cases f a with
    | true => exact ⟨⟨Wk.tt, trivial⟩, rfl, rfl⟩
    | false => exact ⟨⟨Wk.ff, trivial⟩, rfl, rfl⟩
theorem rep_range {α : Type} (x : α) (N : Nat) : List.replicate N x = (List.range' 0 N).map fun _ => x := by
  apply List.ext_getElem
  · simp
  · intro j h1 h2
    simp
theorem range_at {α : Type} (f : Nat → α) {N j : Nat} (h : j < N) : ((List.range' 0 N).map f)[j]? = some (f j) := by simp [h]
set_option pp.maxSteps 300 in
set_option maxHeartbeats 2000000 in
set_option maxRecDepth 100000 in
theorem w_view (l : List PieceT) (n : Nat) (h : RN l) (hw : sumW l ≤ 400000000000) (hn : extN l ≤ n) (hb : n ≤ 1000000000000) : Pure Try.prog 116 [piecesV l, .int .i64 n] (fun x => x = viewV l n) := by
  have hnn := rn_nn h
  have hlen := sumW_len hnn
  have hN : ((n : Int) + 1).toNat = n + 1 := by omega
  have hb1 : ((n : Int) + 1).toNat ≤ 1000000000001 := by omega
  refine pure_wk (pure_fn 100 Try.func116 rfl rfl rfl fun B => ?_)
  show Goes _ _ _ _
  refine goes_draw 60 ⟨⟨by omega, by omega⟩, ⟨by omega, rfl, Nat.le_trans (Nat.mul_le_mul_left _ hb1) (by decide)⟩, rfl, ⟨by omega, by omega⟩, ⟨by omega, rfl, Nat.le_trans (Nat.mul_le_mul_left _ hb1) (by decide)⟩, rfl, rfl, ?_⟩
  refine ⟨by kernel_rfl, ?_⟩
  show Goes _ _ _ _
  refine goes_iter (ι := Nat) (fun i => i ≤ l.length) (fun i => l.length - i) (fun i => [(7, .int .i64 i), (6, .int .i64 (extN (l.take i))), (5, .ptr (.loc 3) 0), (4, .ptr (.loc 0) 0), (0, piecesV l)])
    (fun i => [some (.box [.nilsl, .nilsl]), some (.vec 2 1 ((List.range' 0 (n + 1)).map fun j => .str (putAt (l.take i) j))), some (.vec 2 1 ((List.range' 0 (n + 1)).map fun j => bitV (dropAt (l.take i) j))), some (.box [.osl (.loc 1) 2 0 (n + 1), .osl (.loc 2) 2 0 (n + 1)])]) 0 60 (fun _ => rfl) (fun _ => rfl)
    ⟨Nat.zero_le _, ⟨⟨rfl, rfl⟩, ⟨rfl, rfl⟩, ⟨rfl, rfl⟩, ⟨rfl, rfl⟩, ⟨rfl, rfl⟩, trivial⟩, ⟨⟨rfl, rfl⟩, ⟨?_, rfl⟩, ⟨?_, rfl⟩, ⟨?_, rfl⟩, trivial⟩⟩ ?_
  · rw [hN]
    exact congrArg (fun z => some (HObj.vec 2 1 z)) (rep_range _ _)
  · rw [hN]
    exact congrArg (fun z => some (HObj.vec 2 1 z)) (rep_range _ _)
  · rw [hN]
    rfl
  rintro i k1 next
  refine ⟨fun hlt => go 60 ?_, fun hge => go 60 ?_⟩
  · have hi : i < l.length := by have := lt_of hlt; simp at this; omega
    have hx := piece_at hi
    have hm := hnn _ (List.getElem_mem hi)
    have d1 := hm.k
    have d2 := hm.d
    have hext := extN_take hi
    have hle := extN_take_le l (i + 1)
    have e1 : l.take (i + 1) = l.take i ++ [l[i]] := List.take_succ_eq_append_getElem hi
    have hr := rn_take h (i + 1)
    rw [e1] at hr
    obtain ⟨c, hc⟩ : ∃ c : Nat, ((extN (l.take i) : Nat) : Int) + l[i].keep = (c : Int) := ⟨extN (l.take i) + l[i].keep.toNat, by omega⟩
    have hc' : c = extN (l.take i) + l[i].keep.toNat := by omega
    have hcn : c + l[i].drop.toNat ≤ n := by omega
    have hct : 0 + (((extN (l.take i) : Nat) : Int) + l[i].keep).toNat = c := by omega
    have hpx : ((List.range' 0 (n + 1)).map fun j => V.str (putAt (l.take i) j))[0 + (((extN (l.take i) : Nat) : Int) + l[i].keep).toNat]? = some (.str (putAt (l.take i) c)) := by
      rw [hct]
      exact range_at _ (by omega)
    refine ⟨Int.natCast_nonneg i, _, hx, ⟨by omega, by omega⟩, ?_⟩
    show Goes _ _ _ _
    refine goes_draw 60 ⟨Int.natCast_nonneg i, _, hx, rfl, by omega, by omega, rfl, _, hpx, ?_⟩
    refine ⟨by kernel_rfl, ?_⟩
    show Goes _ _ _ _
    have eputs : ((List.range' 0 (n + 1)).map fun j => V.str (putAt (l.take i) j)).set (0 + (((extN (l.take i) : Nat) : Int) + l[i].keep).toNat) (.str l[i].put) = (List.range' 0 (n + 1)).map fun j => V.str (putAt (l.take (i + 1)) j) := by
      rw [hct, set_range]
      refine List.map_congr_left fun j _ => ?_
      rw [e1, putAt_snoc hr, ← hc']
      cases decide (j = c) <;> rfl
    refine goes_iter (ι := Nat) (fun k => k ≤ l[i].drop.toNat) (fun k => l[i].drop.toNat - k) (fun k => [(8, .int .i64 k), (7, .int .i64 i), (6, .int .i64 c), (5, .ptr (.loc 3) 0), (4, .ptr (.loc 0) 0), (0, piecesV l)])
      (fun k => [some (.box [.nilsl, .nilsl]), some (.vec 2 1 ((List.range' 0 (n + 1)).map fun j => .str (putAt (l.take (i + 1)) j))), some (.vec 2 1 ((List.range' 0 (n + 1)).map fun j => bitV (dropAt (l.take i) j || (decide (c ≤ j) && decide (j < c + k))))), some (.box [.osl (.loc 1) 2 0 (n + 1), .osl (.loc 2) 2 0 (n + 1)])]) 0 60 (fun _ => rfl) (fun _ => rfl)
      ⟨Nat.zero_le _, ⟨⟨rfl, rfl⟩, ⟨rfl, rfl⟩, ⟨?_, rfl⟩, ⟨rfl, rfl⟩, ⟨rfl, rfl⟩, ⟨rfl, rfl⟩, trivial⟩, ⟨⟨rfl, rfl⟩, ⟨?_, rfl⟩, ⟨?_, rfl⟩, ⟨rfl, rfl⟩, trivial⟩⟩ ?_
    · exact congrArg (V.int .i64) hc
    · exact congrArg (fun z => some (HObj.vec 2 1 z)) eputs
    · refine congrArg (fun z => some (HObj.vec 2 1 z)) (List.map_congr_left fun j _ => ?_)
      congr 1
      by_cases h1 : c ≤ j
      · rw [decide_eq_true h1, decide_eq_false (by omega : ¬ j < c + 0)]; simp
      · rw [decide_eq_false h1]; simp
    rintro k k2 next2
    refine ⟨Int.natCast_nonneg i, _, hx, ?_⟩
    refine ⟨fun hlt2 => go 60 ?_, fun hge2 => go 60 ?_⟩
    · have hk : k < l[i].drop.toNat := by have := lt_of hlt2; omega
      have hck : 0 + ((c : Int) + (k : Int)).toNat = c + k := by omega
      have hdx : ((List.range' 0 (n + 1)).map fun j => bitV (dropAt (l.take i) j || (decide (c ≤ j) && decide (j < c + k))))[0 + ((c : Int) + (k : Int)).toNat]? = some .ff := by
        rw [hck, range_at _ (by omega)]
        rw [dropAt_ge _ _ (by omega), decide_eq_false (by omega : ¬ c + k < c + k)]
        simp [bitV]
      refine ⟨⟨by omega, by omega⟩, rfl, by omega, by omega, rfl, _, hdx, ?_⟩
      refine ⟨⟨by omega, by omega⟩, ?_⟩
      show Goes _ _ _ _
      refine next2 (k + 1) _ _ ⟨hk, by omega, ⟨⟨rfl, rfl⟩, ⟨rfl, rfl⟩, ⟨rfl, rfl⟩, ⟨rfl, rfl⟩, ⟨rfl, rfl⟩, ⟨rfl, rfl⟩, trivial⟩, ⟨⟨rfl, rfl⟩, ⟨rfl, rfl⟩, ⟨?_, rfl⟩, ⟨rfl, rfl⟩, trivial⟩⟩
      show some (HObj.vec 2 1 (List.set _ (0 + ((c : Int) + (k : Int)).toNat) .tt)) = _
      rw [hck, set_range]
      refine congrArg (fun z => some (HObj.vec 2 1 z)) (List.map_congr_left fun j _ => ?_)
      by_cases h1 : j = c + k
      · rw [decide_eq_true h1, h1, decide_eq_true (by omega : c ≤ c + k), decide_eq_true (by omega : c + k < c + (k + 1))]
        simp [bitV]
      · rw [decide_eq_false h1]
        have : decide (j < c + k) = decide (j < c + (k + 1)) := by rw [decide_eq_decide]; omega
        rw [this]
        rfl
    · have hk : k = l[i].drop.toNat := by have := not_lt_of hge2; omega
      refine ⟨Int.natCast_nonneg i, _, hx, ⟨by omega, by omega⟩, ?_⟩
      refine ⟨⟨by omega, by omega⟩, ?_⟩
      show Goes _ _ _ _
      refine next (i + 1) _ _ ⟨hi, by omega, ⟨⟨rfl, rfl⟩, ⟨?_, rfl⟩, ⟨rfl, rfl⟩, ⟨rfl, rfl⟩, ⟨rfl, rfl⟩, trivial⟩, ⟨⟨rfl, rfl⟩, ⟨rfl, rfl⟩, ⟨?_, rfl⟩, ⟨rfl, rfl⟩, trivial⟩⟩
      · exact congrArg (V.int .i64) (by omega)
      · refine congrArg (fun z => some (HObj.vec 2 1 z)) (List.map_congr_left fun j _ => ?_)
        rw [e1, dropAt_snoc, ← hc', hk]
  · have hi : i = l.length := by have := not_lt_of hge; simp at this; omega
    subst hi
    refine ⟨trivial, rfl, rfl, rfl, (by rw [List.length_map, List.length_range']), rfl, (by rw [List.length_map, List.length_range']), rfl, viewV l n, ?_, rfl, rfl⟩
    rw [List.take_length]
    exact Wk.agg ⟨.refl _, Wk.sl (wk_bits _ _), trivial⟩

/-! ### behind -/
theorem viewP_at (l : List PieceT) {n j : Nat} (h : j < (viewP l n).length) : (viewP l n)[j] = (putAt l j, dropAt l j) := by
  have h2 : j < n + 1 := by rw [viewP_len] at h; exact h
  have e : (viewP l n)[j]? = some (putAt l j, dropAt l j) := by unfold viewP; exact range_at _ h2
  rw [List.getElem?_eq_getElem h] at e
  exact Option.some.inj e
set_option pp.maxSteps 300 in
set_option maxHeartbeats 2000000 in
set_option maxRecDepth 100000 in
theorem w_behind5 (la lb : List PieceT) (n : Nat) (first : Bool) (ha : RN la) (hb : RN lb) (wa : sumW la ≤ 40000000000) (wb : sumW lb ≤ 40000000000) (hn : n ≤ 40000000000) :
    Pure Try.prog 117 [viewV la n, viewV lb n, .bool first] (fun x => x = piecesV (normP (placesP first (viewP la n) (viewP lb n)))) := by
  have sa := sumL_view ha n
  have sb := sumL_view hb n
  have lva := viewP_len la n
  have lvb := viewP_len lb n
  obtain ⟨nn, len, sw⟩ := places_nn first (viewP la n) (viewP lb n)
  have hnorm := w_ref5norm (placesP first (viewP la n) (viewP lb n)) nn (by omega)
  refine pure_wk (pure_fn 100 Try.func117 rfl rfl rfl fun B => ?_)
  show Goes _ _ _ _
  refine goes_own 7 3 rfl ?_
  refine goes_iter (ι := Nat × Nat) (fun i => i.1 ≤ n + 1) (fun i => n + 1 - i.1) (fun i => [(8, .int .i64 i.1), (7, .osl (.loc 2) i.2 0 (placesP first ((viewP la n).take i.1) ((viewP lb n).take i.1)).length), (2, .bool first), (3, .ptr (.loc 0) 0), (4, .ptr (.loc 1) 0)])
    (fun i => [some (.box (viewV la n).cells), some (.box (viewV lb n).cells), some (.vec i.2 3 ((placesP first ((viewP la n).take i.1) ((viewP lb n).take i.1)).map pieceV))]) (0, 0) 100 (fun _ => rfl) (fun _ => rfl)
    ⟨Nat.zero_le _, ⟨⟨rfl, rfl⟩, ⟨rfl, rfl⟩, ⟨rfl, rfl⟩, ⟨rfl, rfl⟩, ⟨rfl, rfl⟩, trivial⟩, ⟨⟨rfl, rfl⟩, ⟨rfl, rfl⟩, ⟨rfl, rfl⟩, trivial⟩⟩ ?_
  rintro ⟨i, g⟩ k1 next
  simp only at k1
  refine ⟨fun hlt => go 100 ?_, fun hge => go 100 ?_⟩
  · have hi : i < n + 1 := by have := lt_of hlt; simp at this; omega
    have px : ((List.range' 0 (n + 1)).map fun j => V.str (putAt la j))[i]? = some (.str (putAt la i)) := range_at _ hi
    have py : ((List.range' 0 (n + 1)).map fun j => V.str (putAt lb j))[i]? = some (.str (putAt lb i)) := range_at _ hi
    have dx : ((List.range' 0 (n + 1)).map fun j => V.bool (dropAt la j))[i]? = some (.bool (dropAt la i)) := range_at _ hi
    have dy : ((List.range' 0 (n + 1)).map fun j => V.bool (dropAt lb j))[i]? = some (.bool (dropAt lb i)) := range_at _ hi
    have hsn := placesP_snoc first (va := viewP la n) (vb := viewP lb n) (i := i) (by omega) (by omega)
    rw [viewP_at, viewP_at] at hsn
    obtain ⟨_, len2, _⟩ := places_nn first ((viewP la n).take i) ((viewP lb n).take i)
    have hl2 : (placesP first ((viewP la n).take i) ((viewP lb n).take i)).length ≤ 3 * i := by
      refine Nat.le_trans len2 ?_
      rw [List.length_take]
      omega
    obtain ⟨P, hP⟩ : ∃ P, placesP first ((viewP la n).take i) ((viewP lb n).take i) = P := ⟨_, rfl⟩
    have room1 : ∀ m : Nat, m ≤ 3 * i + 3 → room m 32 := fun m h => by unfold room; omega
    refine ⟨Int.natCast_nonneg i, _, py, ?_⟩
    refine ⟨Int.natCast_nonneg i, _, px, ?_⟩
    refine ⟨fun g1 => go 100 ?_, fun g1 => go 100 ?_⟩
    · refine ⟨⟨rfl, rfl, trivial⟩, rfl, rfl, rfl, by simp, room1 _ (by simp only [List.length_map, List.length_cons, List.length_nil]; omega), ?_⟩
      refine ⟨Int.natCast_nonneg i, _, dy, ?_⟩
      refine ⟨fun g2 => go 100 ?_, fun g2 => go 100 ?_⟩
      · have hQ : placeP first (putAt la i, dropAt la i) (putAt lb i, dropAt lb i) = [⟨0, 0, putAt la i⟩, ⟨(putAt lb i).length, 0, []⟩] := by unfold placeP; rw [g1, g2]; rfl
        refine ⟨⟨by omega, by omega⟩, ?_⟩
        show Goes _ _ _ _
        refine next (i + 1, bump g) _ _ ⟨hi, by simp only; omega, ⟨⟨rfl, rfl⟩, ⟨?_, rfl⟩, ⟨rfl, rfl⟩, ⟨rfl, rfl⟩, ⟨rfl, rfl⟩, trivial⟩, ⟨⟨rfl, rfl⟩, ⟨rfl, rfl⟩, ⟨?_, rfl⟩, trivial⟩⟩
        · exact congrArg (V.osl (.loc 2) (bump g) 0) (by rw [hsn, hQ, List.length_append, List.length_map]; rfl)
        · exact congrArg (fun z => some (HObj.vec (bump g) 3 z)) (by rw [hsn, hQ, List.map_append]; rfl)
      · refine ⟨Int.natCast_nonneg i, _, dx, ?_⟩
        refine ⟨fun g3 => go 100 ?_, fun g3 => go 100 ?_⟩
        · have hQ : placeP first (putAt la i, dropAt la i) (putAt lb i, dropAt lb i) = [⟨0, 0, putAt la i⟩, ⟨(putAt lb i).length, 0, []⟩, ⟨0, 1, []⟩] := by unfold placeP; rw [g1, g2, g3]; rfl
          refine ⟨⟨rfl, trivial⟩, rfl, rfl, rfl, by simp, room1 _ (by simp only [List.length_append, List.length_map, List.length_cons, List.length_nil]; omega), ?_⟩
          refine ⟨⟨by omega, by omega⟩, ?_⟩
          show Goes _ _ _ _
          refine next (i + 1, bump (bump g)) _ _ ⟨hi, by simp only; omega, ⟨⟨rfl, rfl⟩, ⟨?_, rfl⟩, ⟨rfl, rfl⟩, ⟨rfl, rfl⟩, ⟨rfl, rfl⟩, trivial⟩, ⟨⟨rfl, rfl⟩, ⟨rfl, rfl⟩, ⟨?_, rfl⟩, trivial⟩⟩
          · exact congrArg (V.osl (.loc 2) (bump (bump g)) 0) (by rw [hsn, hQ, List.length_append, List.length_append, List.length_map]; rfl)
          · exact congrArg (fun z => some (HObj.vec (bump (bump g)) 3 z)) (by rw [hsn, hQ, List.map_append, List.append_assoc]; rfl)
        · have hQ : placeP first (putAt la i, dropAt la i) (putAt lb i, dropAt lb i) = [⟨0, 0, putAt la i⟩, ⟨(putAt lb i).length, 0, []⟩, ⟨1, 0, []⟩] := by unfold placeP; rw [g1, g2, g3]; rfl
          refine ⟨⟨rfl, trivial⟩, rfl, rfl, rfl, by simp, room1 _ (by simp only [List.length_append, List.length_map, List.length_cons, List.length_nil]; omega), ?_⟩
          refine ⟨⟨by omega, by omega⟩, ?_⟩
          show Goes _ _ _ _
          refine next (i + 1, bump (bump g)) _ _ ⟨hi, by simp only; omega, ⟨⟨rfl, rfl⟩, ⟨?_, rfl⟩, ⟨rfl, rfl⟩, ⟨rfl, rfl⟩, ⟨rfl, rfl⟩, trivial⟩, ⟨⟨rfl, rfl⟩, ⟨rfl, rfl⟩, ⟨?_, rfl⟩, trivial⟩⟩
          · exact congrArg (V.osl (.loc 2) (bump (bump g)) 0) (by rw [hsn, hQ, List.length_append, List.length_append, List.length_map]; rfl)
          · exact congrArg (fun z => some (HObj.vec (bump (bump g)) 3 z)) (by rw [hsn, hQ, List.map_append, List.append_assoc]; rfl)
    · refine ⟨⟨rfl, rfl, trivial⟩, rfl, rfl, rfl, by simp, room1 _ (by simp only [List.length_map, List.length_cons, List.length_nil]; omega), ?_⟩
      refine ⟨Int.natCast_nonneg i, _, dy, ?_⟩
      refine ⟨fun g2 => go 100 ?_, fun g2 => go 100 ?_⟩
      · have hQ : placeP first (putAt la i, dropAt la i) (putAt lb i, dropAt lb i) = [⟨(putAt lb i).length, 0, []⟩, ⟨0, 0, putAt la i⟩] := by unfold placeP; rw [g1, g2]; rfl
        refine ⟨⟨by omega, by omega⟩, ?_⟩
        show Goes _ _ _ _
        refine next (i + 1, bump g) _ _ ⟨hi, by simp only; omega, ⟨⟨rfl, rfl⟩, ⟨?_, rfl⟩, ⟨rfl, rfl⟩, ⟨rfl, rfl⟩, ⟨rfl, rfl⟩, trivial⟩, ⟨⟨rfl, rfl⟩, ⟨rfl, rfl⟩, ⟨?_, rfl⟩, trivial⟩⟩
        · exact congrArg (V.osl (.loc 2) (bump g) 0) (by rw [hsn, hQ, List.length_append, List.length_map]; rfl)
        · exact congrArg (fun z => some (HObj.vec (bump g) 3 z)) (by rw [hsn, hQ, List.map_append]; rfl)
      · refine ⟨Int.natCast_nonneg i, _, dx, ?_⟩
        refine ⟨fun g3 => go 100 ?_, fun g3 => go 100 ?_⟩
        · have hQ : placeP first (putAt la i, dropAt la i) (putAt lb i, dropAt lb i) = [⟨(putAt lb i).length, 0, []⟩, ⟨0, 0, putAt la i⟩, ⟨0, 1, []⟩] := by unfold placeP; rw [g1, g2, g3]; rfl
          refine ⟨⟨rfl, trivial⟩, rfl, rfl, rfl, by simp, room1 _ (by simp only [List.length_append, List.length_map, List.length_cons, List.length_nil]; omega), ?_⟩
          refine ⟨⟨by omega, by omega⟩, ?_⟩
          show Goes _ _ _ _
          refine next (i + 1, bump (bump g)) _ _ ⟨hi, by simp only; omega, ⟨⟨rfl, rfl⟩, ⟨?_, rfl⟩, ⟨rfl, rfl⟩, ⟨rfl, rfl⟩, ⟨rfl, rfl⟩, trivial⟩, ⟨⟨rfl, rfl⟩, ⟨rfl, rfl⟩, ⟨?_, rfl⟩, trivial⟩⟩
          · exact congrArg (V.osl (.loc 2) (bump (bump g)) 0) (by rw [hsn, hQ, List.length_append, List.length_append, List.length_map]; rfl)
          · exact congrArg (fun z => some (HObj.vec (bump (bump g)) 3 z)) (by rw [hsn, hQ, List.map_append, List.append_assoc]; rfl)
        · have hQ : placeP first (putAt la i, dropAt la i) (putAt lb i, dropAt lb i) = [⟨(putAt lb i).length, 0, []⟩, ⟨0, 0, putAt la i⟩, ⟨1, 0, []⟩] := by unfold placeP; rw [g1, g2, g3]; rfl
          refine ⟨⟨rfl, trivial⟩, rfl, rfl, rfl, by simp, room1 _ (by simp only [List.length_append, List.length_map, List.length_cons, List.length_nil]; omega), ?_⟩
          refine ⟨⟨by omega, by omega⟩, ?_⟩
          show Goes _ _ _ _
          refine next (i + 1, bump (bump g)) _ _ ⟨hi, by simp only; omega, ⟨⟨rfl, rfl⟩, ⟨?_, rfl⟩, ⟨rfl, rfl⟩, ⟨rfl, rfl⟩, ⟨rfl, rfl⟩, trivial⟩, ⟨⟨rfl, rfl⟩, ⟨rfl, rfl⟩, ⟨?_, rfl⟩, trivial⟩⟩
          · exact congrArg (V.osl (.loc 2) (bump (bump g)) 0) (by rw [hsn, hQ, List.length_append, List.length_append, List.length_map]; rfl)
          · exact congrArg (fun z => some (HObj.vec (bump (bump g)) 3 z)) (by rw [hsn, hQ, List.map_append, List.append_assoc]; rfl)
  · have hi : i = n + 1 := by have := not_lt_of hge; simp at this; omega
    subst hi
    have e1 : (viewP la n).take (n + 1) = viewP la n := List.take_of_length_le (by omega)
    have e2 : (viewP lb n).take (n + 1) = viewP lb n := List.take_of_length_le (by omega)
    have hnorm' : Pure Try.prog 114 [.sl 3 ((placesP first ((viewP la n).take (n + 1)) ((viewP lb n).take (n + 1))).map pieceV)] (fun x => x = piecesV (normP (placesP first (viewP la n) (viewP lb n)))) := by
      rw [e1, e2]
      exact hnorm
    show CallThen _ _ _ _ _ _
    refine call_pure_frz ?_
    refine ⟨rfl, by simp, _, hnorm', rfl, ?_⟩
    rintro x rfl
    exact ⟨trivial, rfl, rfl, rfl, _, Wk.refl _, rfl, rfl⟩

/-! ### Transform -/
theorem norm_big {l : List PieceT} (h : ∀ p ∈ l, p.Nn) (W : Int) (hw : 2 * sumW l ≤ W) : (∀ p ∈ normP l, p.Nn) ∧ sumW (normP l) ≤ W ∧ ((normP l).length : Int) ≤ W ∧ ∀ p ∈ normP l, (p.put.length : Int) ≤ W := by
  obtain ⟨q1, q2⟩ := foldl_ok (l := l) Mk.nil_ok h
  have d1 := q1.k
  have d5 : Mk.nil.w = 0 := rfl
  have d6 : (l.foldl Mk.piece Mk.nil).w = (l.foldl Mk.piece Mk.nil).keep + sumW (normP l) := rfl
  have d2 : ((normP l).length : Int) ≤ sumW (normP l) := sumW_len q1.l
  refine ⟨q1.l, by omega, by omega, fun p hp => ?_⟩
  have h1 := sumW_mem q1.l p hp
  have h2 := (q1.l p hp).k
  have h3 := (q1.l p hp).d
  unfold PieceT.w at h1
  have h1 : p.keep + p.drop + p.put.length + 1 ≤ sumW (normP l) := h1
  omega
def TrV (r : List PieceT × List PieceT × Int) : V := .tup [piecesV r.1, piecesV r.2.1, .int .i64 r.2.2]
theorem leafT {r : List PieceT × List PieceT × Int} {e : Int} (h : r = ([], [], e)) : ∃ y, Wk (.tup [.nilsl, .nilsl, .int .i64 e]) y ∧ y.pureB = true ∧ y = TrV r := ⟨TrV ([], [], e), Wk.tup ⟨Wk.nil 3, Wk.nil 3, .refl _, trivial⟩, rfl, by rw [h]⟩
set_option pp.maxSteps 300 in
set_option maxHeartbeats 2000000 in
set_option maxRecDepth 100000 in
theorem w_ref5Trans (a b : List PieceT) (prior : Bool) (la : a.length ≤ 1000000) (lb : b.length ≤ 1000000) (pa : ∀ p ∈ a, p.put.length ≤ 1000000000) (pb : ∀ p ∈ b, p.put.length ≤ 1000000000) :
    Pure Try.prog 81 [piecesV a, piecesV b, .bool prior] (fun x => x = TrV (transP a b prior)) := by
  rw [← transR_eq]
  obtain ⟨R, hR⟩ : ∃ R, transR a b prior = R := ⟨_, rfl⟩
  rw [hR]
  refine pure_wk (pure_fn 100 Try.func81 rfl rfl rfl fun B => ?_)
  show CallThen _ _ _ _ _ _
  refine call_pure (w_refRight a la pa) rfl ?_
  rintro x rfl
  refine ⟨fun g1 => go 100 ?_, fun g1 => go 100 ?_⟩
  · have g1 : rightP a = false := by simpa using g1
    exact ⟨trivial, rfl, rfl, rfl, leafT (by rw [← hR]; unfold transR; rw [g1]; rfl)⟩
  have ra : rightP a = true := by simpa using g1
  show CallThen _ _ _ _ _ _
  refine call_pure (w_refRight b lb pb) rfl ?_
  rintro x rfl
  refine ⟨fun g2 => go 100 ?_, fun g2 => go 100 ?_⟩
  · have g2 : rightP b = false := by simpa using g2
    exact ⟨trivial, rfl, rfl, rfl, leafT (by rw [← hR]; unfold transR; rw [ra, g2]; rfl)⟩
  have rb : rightP b = true := by simpa using g2
  obtain ⟨na, wa⟩ := right_nn ra
  obtain ⟨nb, wb⟩ := right_nn rb
  have ca := w_ref5norm a na (by omega)
  have cb := w_ref5norm b nb (by omega)
  obtain ⟨qa1, qa2, _, _⟩ := norm_big na 40000000000 (by omega)
  obtain ⟨qb1, qb2, _, _⟩ := norm_big nb 40000000000 (by omega)
  have rna := norm_rn ra
  have rnb := norm_rn rb
  have hT : R = bif !rightP (normP (placesP prior (viewP (normP a) (max (extN (normP a)) (extN (normP b)))) (viewP (normP b) (max (extN (normP a)) (extN (normP b)))))) || !rightP (normP (placesP (!prior) (viewP (normP b) (max (extN (normP a)) (extN (normP b)))) (viewP (normP a) (max (extN (normP a)) (extN (normP b)))))) then ([], [], 3) else (normP (placesP prior (viewP (normP a) (max (extN (normP a)) (extN (normP b)))) (viewP (normP b) (max (extN (normP a)) (extN (normP b))))), normP (placesP (!prior) (viewP (normP b) (max (extN (normP a)) (extN (normP b)))) (viewP (normP a) (max (extN (normP a)) (extN (normP b))))), 0) := by
    rw [← hR]
    unfold transR
    rw [ra, rb]
    rfl
  have ea := extN_le qa1
  have eb := extN_le qb1
  have cea := w_ref5Extent _ qa1 (by omega)
  have ceb := w_ref5Extent _ qb1 (by omega)
  generalize normP a = A at *
  generalize normP b = B' at *
  obtain ⟨N, hN⟩ : ∃ N, max (extN A) (extN B') = N := ⟨_, rfl⟩
  rw [hN] at hT
  have hmax : (if ((extN B' : Nat) : Int) > ((extN A : Nat) : Int) then ((extN B' : Nat) : Int) else ((extN A : Nat) : Int)) = (N : Int) := by
    split <;> omega
  have cva := w_view A N rna (by omega) (by omega) (by omega)
  have cvb := w_view B' N rnb (by omega) (by omega) (by omega)
  have cx := w_behind5 A B' N prior rna rnb (by omega) (by omega) (by omega)
  have cy := w_behind5 B' A N (!prior) rnb rna (by omega) (by omega) (by omega)
  have sA := sumL_view rna N
  have sB := sumL_view rnb N
  have lA := viewP_len A N
  have lB := viewP_len B' N
  obtain ⟨x1, _, x3⟩ := places_nn prior (viewP A N) (viewP B' N)
  obtain ⟨y1, _, y3⟩ := places_nn (!prior) (viewP B' N) (viewP A N)
  obtain ⟨_, _, x4, x5⟩ := norm_big x1 1000000000000 (by omega)
  obtain ⟨_, _, y4, y5⟩ := norm_big y1 1000000000000 (by omega)
  have crx := w_refRightW (normP (placesP prior (viewP A N) (viewP B' N))) (by omega) (fun p hp => by have := x5 p hp; omega)
  have cry := w_refRightW (normP (placesP (!prior) (viewP B' N) (viewP A N))) (by omega) (fun p hp => by have := y5 p hp; omega)
  generalize normP (placesP prior (viewP A N) (viewP B' N)) = X at *
  generalize normP (placesP (!prior) (viewP B' N) (viewP A N)) = Y at *
  show CallThen _ _ _ _ _ _
  refine call_pure ca rfl ?_
  rintro x rfl
  show CallThen _ _ _ _ _ _
  refine call_pure cb rfl ?_
  rintro x rfl
  show CallThen _ _ _ _ _ _
  refine call_pure cea rfl ?_
  rintro x rfl
  show CallThen _ _ _ _ _ _
  refine call_pure ceb rfl ?_
  rintro x rfl
  have cva' : Pure Try.prog 116 [piecesV A, .int .i64 (if ((extN B' : Nat) : Int) > ((extN A : Nat) : Int) then ((extN B' : Nat) : Int) else ((extN A : Nat) : Int))] (fun x => x = viewV A N) := by rw [hmax]; exact cva
  have cvb' : Pure Try.prog 116 [piecesV B', .int .i64 (if ((extN B' : Nat) : Int) > ((extN A : Nat) : Int) then ((extN B' : Nat) : Int) else ((extN A : Nat) : Int))] (fun x => x = viewV B' N) := by rw [hmax]; exact cvb
  show CallThen _ _ _ _ _ _
  refine call_pure cva' rfl ?_
  rintro x rfl
  show CallThen _ _ _ _ _ _
  refine call_pure cvb' rfl ?_
  rintro x rfl
  show Goes _ _ _ _
  refine goes_draw 60 ⟨_, cx, rfl, _, cy, rfl, ?_⟩
  refine ⟨by kernel_rfl, ?_⟩
  show CallThen _ _ _ _ _ _
  refine call_pure crx rfl ?_
  rintro x rfl
  refine ⟨fun g3 => go 100 ?_, fun g3 => go 100 ?_⟩
  · have g3 : rightP X = false := by simpa using g3
    exact ⟨trivial, rfl, rfl, rfl, leafT (by rw [hT, g3]; rfl)⟩
  have g3 : rightP X = true := by simpa using g3
  show CallThen _ _ _ _ _ _
  refine call_pure cry rfl ?_
  rintro x rfl
  refine ⟨fun g4 => go 100 ?_, fun g4 => go 100 ?_⟩
  · have g4 : rightP Y = false := by simpa using g4
    exact ⟨trivial, rfl, rfl, rfl, leafT (by rw [hT, g3, g4]; rfl)⟩
  have g4 : rightP Y = true := by simpa using g4
  exact ⟨trivial, rfl, rfl, rfl, TrV (X, Y, 0), Wk.refl _, rfl, by rw [hT, g3, g4]; rfl⟩
end Bow
/- W71: the document's answer of chapter 12: what becomes of an operation behind another one. -/
namespace Bow
open Go Go.Proofs

theorem w_one (o : OpT) : Pure Try.prog 77 [opV o] (fun x => x = opsV [o]) := by
  refine pure_fn 300 Try.func77 rfl rfl rfl fun B => ?_
  refine ⟨⟨rfl, trivial⟩, ?_⟩
  exact ⟨trivial, rfl, rfl, rfl, rfl, rfl, rfl⟩
theorem w_keep (h : Bool) (l : List OpT) : Pure Try.prog 80 [.bool h, opsV l] (fun x => x = opsV (bif h then l else [])) := by
  refine pure_wk (pure_fn 300 Try.func80 rfl rfl rfl fun B => ?_)
  refine ⟨fun g => go 300 ?_, fun g => go 300 ?_⟩
  · have g : h = false := by simpa using g
    exact ⟨trivial, rfl, rfl, rfl, opsV [], Wk.nil 11, rfl, by rw [g]; rfl⟩
  · have g : h = true := by simpa using g
    exact ⟨trivial, rfl, rfl, rfl, opsV l, Wk.refl _, rfl, by rw [g]; rfl⟩
theorem w_drop12 (p : List Int) : Pure Try.prog 78 [pathV p] (fun x => x = opV (dropO p)) := by
  refine pure_wk (pure_fn 300 Try.func78 rfl rfl rfl fun B => ?_)
  exact ⟨trivial, rfl, rfl, rfl, opV (dropO p), Wk.agg ⟨.refl _, .refl _, .refl _, Wk.nil 1, .refl _, Wk.ff, .refl _, .refl _, .refl _, Wk.ff, Wk.nil 3, trivial⟩, rfl, rfl⟩
set_option maxRecDepth 100000 in
theorem w_Sound12 (o : OpT) (ho : o.Ok) : Pure Try.prog 45 [opV o] (fun x => x = .bool (soundO o)) := by
  refine pure_wk (pure_fn 300 Try.func45 rfl rfl rfl fun B => ?_)
  have hW := w_refWithin o.path o.to ho.lt.path
  show CallThen _ _ _ _ _ _
  refine call_pure (w_refFormed o ho.lt ho.each) rfl ?_
  rintro x rfl
  repeat' first
    | (refine ⟨fun _ => go 300 ?_, fun _ => go 300 ?_⟩)
    | (show CallThen _ _ _ _ _ _; refine call_pure hW rfl ?_; rintro z rfl)
    | (refine ⟨trivial, rfl, rfl, rfl, leaf_tt ?_⟩)
    | (refine ⟨trivial, rfl, rfl, rfl, leaf_ff ?_⟩)
    | (refine ⟨trivial, rfl, rfl, rfl, leaf_b ?_⟩)
    | fail
  all_goals clear hW
  all_goals (unfold soundO; cases hf : formedB o with
    | false => simp_all
    | true => rcases formed_kinds hf with k | k | k | k | k | k <;> simp_all <;> (try intro _) <;> exact List.length_pos_iff.2 (by assumption))

theorem gapP_node (o : OpT) (p : List Int) (n : Int) (f : Bool) : (gapP o p n f).1 = (nodeP o p).getD [] := by
  unfold gapP
  cases nodeP o p with
  | none => rfl
  | some q => cases movesO o <;> rfl
set_option maxHeartbeats 4000000 in
set_option maxRecDepth 100000 in
theorem w_row9 (b a : OpT) (prior : Bool) (ha : a.Ok) (hb : b.Ok) (hf : formedB b = true) :
    Pure Try.prog 82 [opV b, opV a, .bool prior] (fun x => x = opV (shiftedO b a prior)) := by
  have hpl := may_len (formed_path hf)
  have hps := may_step (formed_path hf)
  refine pure_fn 300 Try.func82 rfl rfl rfl fun B => ?_
  refine ⟨fun g1 => go 300 ?_, fun g1 => go 300 ?_⟩
  · have hk : b.kind = 1 := eq_of g1
    have hg := formed_gap hf (.inl hk)
    show CallThen _ _ _ _ _ _
    refine call_pure (w_refGap a b.path b.at_ prior ha (by omega) hps ⟨by omega, by omega⟩) rfl ?_
    rintro x rfl
    refine ⟨trivial, rfl, rfl, rfl, ?_⟩
    have e := gapP_node a b.path b.at_ prior
    unfold shiftedO
    rw [decide_eq_true hk, ← e]
    rfl
  have hk1 : b.kind ≠ 1 := ne_of g1
  refine ⟨fun g2 => go 300 ?_, fun g2 => go 300 ?_⟩
  · have hk : b.kind = 3 := eq_of g2
    have hg := formed_gap hf (.inr hk)
    have htl := may_len (good_to hf hk)
    have hts := may_step (good_to hf hk)
    show CallThen _ _ _ _ _ _
    refine call_pure (w_refNode a b.path ha (by omega) hps) rfl ?_
    rintro x rfl
    show CallThen _ _ _ _ _ _
    refine call_pure (w_refGap a b.to b.at_ prior ha (by omega) hts ⟨by omega, by omega⟩) rfl ?_
    rintro x rfl
    refine ⟨trivial, rfl, rfl, rfl, ?_⟩
    unfold shiftedO
    rw [decide_eq_false hk1, decide_eq_true hk]
    rfl
  · have hk3 : b.kind ≠ 3 := ne_of g2
    show CallThen _ _ _ _ _ _
    refine call_pure (w_refNode a b.path ha (by omega) hps) rfl ?_
    rintro x rfl
    refine ⟨trivial, rfl, rfl, rfl, ?_⟩
    unfold shiftedO
    rw [decide_eq_false hk1, decide_eq_false hk3]
    rfl

theorem leafO {l r : List OpT} (h : r = l) : ∃ y, Wk (opsV l) y ∧ y.pureB = true ∧ y = opsV r := ⟨opsV r, by rw [h]; exact Wk.refl _, rfl, rfl⟩
set_option maxHeartbeats 4000000 in
set_option maxRecDepth 100000 in
theorem w_twoMoves (b a : OpT) (prior : Bool) (ha : a.Ok) (hb : b.Ok) (fa : formedB a = true) (fb : formedB b = true) (ka : a.kind = 3) (kb : b.kind = 3) :
    Pure Try.prog 79 [opV b, opV a, .bool prior] (fun x => x = opsV (rowO b a prior)) := by
  have pa := may_len (formed_path fa)
  have pb := may_len (formed_path fb)
  have hrow : rowO b a prior = bif decide (a.path = b.path) then (bif prior then [shiftedO b a prior] else []) else bif within b.path a.to && within a.path b.to then (bif prior then [undoO a, b] else []) else [shiftedO b a prior] := by
    unfold rowO wonO
    rw [ka, kb]
    simp
  have h9 := w_row9 b a prior ha hb fb
  have c1 := w_refSame a.path b.path (by omega)
  have c2 := w_refWithin b.path a.to (by omega)
  have c3 := w_refWithin a.path b.to (by omega)
  have ck1 := w_keep prior [shiftedO b a prior]
  have ck2 := w_keep prior [undoO a, b]
  rw [hrow]
  clear hrow
  refine pure_wk (pure_fn 300 Try.func79 rfl rfl rfl fun B => ?_)
  show CallThen _ _ _ _ _ _
  refine call_pure c1 rfl ?_
  rintro x rfl
  refine ⟨fun g1 => go 300 ?_, fun g1 => go 300 ?_⟩
  · show CallThen _ _ _ _ _ _
    refine call_pure h9 rfl ?_
    rintro x rfl
    show CallThen _ _ _ _ _ _
    refine call_pure (w_one _) rfl ?_
    rintro x rfl
    show CallThen _ _ _ _ _ _
    refine call_pure ck1 rfl ?_
    rintro x rfl
    exact ⟨trivial, rfl, rfl, rfl, leafO (by rw [g1]; rfl)⟩
  show CallThen _ _ _ _ _ _
  refine call_pure c2 rfl ?_
  rintro x rfl
  refine ⟨fun g2 => go 300 ?_, fun g2 => go 300 ?_⟩
  · show CallThen _ _ _ _ _ _
    refine call_pure c3 rfl ?_
    rintro x rfl
    refine ⟨fun g3 => go 300 ?_, fun g3 => go 300 ?_⟩
    · show Goes _ _ _ _
      refine goes_draw 300 ⟨_, w_ref11Undo a ha, rfl, rfl, ⟨rfl, rfl, trivial⟩, by kernel_rfl, rfl, rfl, _, ck2, rfl, ?_⟩
      refine ⟨by kernel_rfl, ?_⟩
      exact ⟨trivial, rfl, rfl, rfl, leafO (by rw [g1, g2, g3]; rfl)⟩
    · show CallThen _ _ _ _ _ _
      refine call_pure h9 rfl ?_
      rintro x rfl
      show CallThen _ _ _ _ _ _
      refine call_pure (w_one _) rfl ?_
      rintro x rfl
      exact ⟨trivial, rfl, rfl, rfl, leafO (by rw [g1, g2, g3]; rfl)⟩
  · show CallThen _ _ _ _ _ _
    refine call_pure h9 rfl ?_
    rintro x rfl
    show CallThen _ _ _ _ _ _
    refine call_pure (w_one _) rfl ?_
    rintro x rfl
    exact ⟨trivial, rfl, rfl, rfl, leafO (by rw [g1, g2]; rfl)⟩
def RowV (l : List OpT) : V := .tup [opsV l, .int .i64 0]
theorem leafR {l r : List OpT} (h : r = l) : ∃ y, Wk (.tup [opsV l, .int .i64 0]) y ∧ y.pureB = true ∧ y = RowV r := ⟨RowV r, by rw [h]; exact Wk.refl _, rfl, rfl⟩
theorem leafR0 {r : List OpT} (h : r = []) : ∃ y, Wk (.tup [.nilsl, .int .i64 0]) y ∧ y.pureB = true ∧ y = RowV r := ⟨RowV [], Wk.tup ⟨Wk.nil 11, .refl _, trivial⟩, rfl, by rw [h]⟩
theorem node_idle {a : OpT} (h : a.kind ≠ 1 ∧ a.kind ≠ 2 ∧ a.kind ≠ 3) : movesO a = false := by
  unfold movesO
  rw [decide_eq_false h.1, decide_eq_false h.2.1, decide_eq_false h.2.2]
  simp
/-- Behind an operation that moves no node nothing is shifted. -/
theorem shifted_idle {a : OpT} (b : OpT) (p : Bool) (h : a.kind ≠ 1 ∧ a.kind ≠ 2 ∧ a.kind ≠ 3) : shiftedO b a p = b := by
  have hm := node_idle h
  have hg : ∀ q n f, gapP a q n f = (q, n, true) := fun q n f => by unfold gapP; rw [node_still q hm, hm]; rfl
  unfold shiftedO
  rw [node_still b.path hm, hg, hg]
  simp only [Option.getD_some]
  cases decide (b.kind = 1) <;> cases decide (b.kind = 3) <;> rfl
theorem within_eq {p q : List Int} (h : within p q = true) (hl : q.length ≤ p.length) : p = q := by
  unfold within at h
  rw [List.take_of_length_le hl] at h
  exact of_decide_eq_true h
theorem eqB {a b : Int} {p : Prop} (h : (a = b) → p) (g : decide (a = b) = true) : p := h (eq_of g)
theorem neB {a b : Int} {p : Prop} (h : (a ≠ b) → p) (g : decide (a = b) = false) : p := h (ne_of g)
set_option maxHeartbeats 8000000 in
set_option maxRecDepth 100000 in
theorem w_behind12 (b a : OpT) (prior : Bool) (ha : a.Ok) (hb : b.Ok) (sa : soundO a = true) (sb : soundO b = true) (he : bothEdit b a = false) :
    Pure Try.prog 46 [opV b, opV a, .bool prior] (fun x => x = RowV (rowO b a prior)) := by
  have fa : formedB a = true := by unfold soundO at sa; rw [Bool.and_eq_true] at sa; exact sa.1
  have fb : formedB b = true := by unfold soundO at sb; rw [Bool.and_eq_true] at sb; exact sb.1
  have pa := may_len (formed_path fa)
  have pb := may_len (formed_path fb)
  have qa := may_step (formed_path fa)
  have qb := may_step (formed_path fb)
  have ka := formed_kinds fa
  have kb := formed_kinds fb
  have h9 := w_row9 b a prior ha hb fb
  have c1 := w_refSame a.path b.path (by omega)
  have c2 := w_refWithin a.path b.path (by omega)
  have c3 := w_refWithin a.path b.to (by omega)
  have c4 := w_refWithin b.path a.path (by omega)
  have c5 := w_refWithin b.path a.to (by omega)
  have n1 := w_refNode a b.path ha (by omega) qb
  have n2 := w_refNode a a.path ha (by omega) qa
  have hna := nodeP_len64 a a.path
  have hnb := nodeP_len64 a b.path
  have hqs := node_steps (a := a) (p := b.path) (may_strict (formed_path fb))
  have d1 := w_drop12 ((nodeP a b.path).getD [])
  have d2 := w_drop12 ((nodeP a a.path).getD [])
  have n3 := w_refNode (dropO ((nodeP a a.path).getD [])) ((nodeP a b.path).getD []) (drop_ok (by omega)) (by omega) hqs
  have d3 := w_drop12 ((nodeP (dropO ((nodeP a a.path).getD [])) ((nodeP a b.path).getD [])).getD [])
  have o1 := w_one (shiftedO b a prior)
  have o2 := w_one b
  have o3 := w_one (dropO ((nodeP a b.path).getD []))
  have k1 := w_keep prior [b]
  have len : ∀ p : List Int, (List.map intV p).length = p.length := fun p => List.length_map _
  refine pure_wk (pure_fn 100 Try.func46 rfl rfl rfl fun B => ?_)
  repeat' first
    | (refine ⟨fun g => absurd (eq_of g) (by omega), fun _ => go 100 ?_⟩)
    | (refine ⟨fun _ => go 100 ?_, fun g => absurd (by omega) (ne_of g)⟩)
    | (refine ⟨fun g => absurd (lt_of g) (by simp only [len]; omega), fun _ => go 100 ?_⟩)
    | (refine ⟨eqB fun k => go 100 ?_, neB fun k => go 100 ?_⟩)
    | (refine ⟨fun _ => go 100 ?_, fun _ => go 100 ?_⟩)
    | (show CallThen _ _ _ _ _ _; refine call_pure c1 rfl ?_; rintro z rfl)
    | (show CallThen _ _ _ _ _ _; refine call_pure c2 rfl ?_; rintro z rfl)
    | (show CallThen _ _ _ _ _ _; refine call_pure c3 rfl ?_; rintro z rfl)
    | (show CallThen _ _ _ _ _ _; refine call_pure c4 rfl ?_; rintro z rfl)
    | (show CallThen _ _ _ _ _ _; refine call_pure c5 rfl ?_; rintro z rfl)
    | (show CallThen _ _ _ _ _ _; refine call_pure n1 rfl ?_; rintro z rfl)
    | (show CallThen _ _ _ _ _ _; refine call_pure n2 rfl ?_; rintro z rfl)
    | (show CallThen _ _ _ _ _ _; refine call_pure n3 rfl ?_; rintro z rfl)
    | (show CallThen _ _ _ _ _ _; refine call_pure d1 rfl ?_; rintro z rfl)
    | (show CallThen _ _ _ _ _ _; refine call_pure d2 rfl ?_; rintro z rfl)
    | (show CallThen _ _ _ _ _ _; refine call_pure d3 rfl ?_; rintro z rfl)
    | (show CallThen _ _ _ _ _ _; refine call_pure h9 rfl ?_; rintro z rfl)
    | (show CallThen _ _ _ _ _ _; refine call_pure o1 rfl ?_; rintro z rfl)
    | (show CallThen _ _ _ _ _ _; refine call_pure o2 rfl ?_; rintro z rfl)
    | (show CallThen _ _ _ _ _ _; refine call_pure o3 rfl ?_; rintro z rfl)
    | (show CallThen _ _ _ _ _ _; refine call_pure k1 rfl ?_; rintro z rfl)
    | (show CallThen _ _ _ _ _ _; refine call_pure (w_twoMoves b a prior ha hb fa fb (by omega) (by omega)) rfl ?_; rintro z rfl)
    | (refine ⟨trivial, rfl, rfl, rfl, leafR0 ?_⟩)
    | (refine ⟨trivial, rfl, rfl, rfl, leafR ?_⟩)
    | (refine ⟨⟨rfl, rfl, trivial⟩, ?_⟩; refine ⟨trivial, rfl, rfl, rfl, rfl, rfl, leafR (l := [dropO ((nodeP a a.path).getD []), dropO ((nodeP (dropO ((nodeP a a.path).getD [])) ((nodeP a b.path).getD [])).getD [])]) ?_⟩)
    | fail
  all_goals clear c1 c2 c3 c4 c5 n1 n2 n3 d1 d2 d3 o1 o2 o3 k1 h9
  all_goals try rfl
  all_goals try (exfalso; have hk6 : a.kind = 6 := (by omega); unfold bothEdit at he; simp_all; done)
  all_goals (unfold rowO wonO)
  all_goals try (simp_all; done)
  all_goals first
    | (have hid : shiftedO b a prior = b := shifted_idle b prior ⟨by omega, by omega, by omega⟩; rw [hid]; simp_all; done)
    | (have hne : ¬ b.path = a.path := (by intro e; simp_all); simp_all; done)
    | (cases hw : within b.path a.path with
       | false => simp_all
       | true =>
         have hl := within_len hw
         have hge : a.path.length ≤ b.path.length := by simp_all
         have heq := within_eq hw hge
         simp_all)
set_option pp.maxSteps 300 in
set_option maxHeartbeats 4000000 in
set_option maxRecDepth 100000 in
theorem w_behind12E (b a : OpT) (prior : Bool) (ha : a.Ok) (hb : b.Ok) (sa : soundO a = true) (sb : soundO b = true) (he : bothEdit b a = true) :
    Pure Try.prog 46 [opV b, opV a, .bool prior] (fun x => x = .tup [opsV [editO b a prior], .int .i64 (transP b.pieces a.pieces prior).2.2]) := by
  unfold bothEdit at he
  simp only [Bool.and_eq_true, decide_eq_true_eq] at he
  obtain ⟨k1, k2, k3⟩ := he
  have fa : formedB a = true := by unfold soundO at sa; rw [Bool.and_eq_true] at sa; exact sa.1
  have fb : formedB b = true := by unfold soundO at sb; rw [Bool.and_eq_true] at sb; exact sb.1
  have pa := may_len (formed_path fa)
  obtain ⟨l1, l2⟩ := right_bounds (formed_pieces fa k1)
  obtain ⟨l3, l4⟩ := right_bounds (formed_pieces fb k2)
  have ct := w_ref5Trans b.pieces a.pieces prior (by omega) (by omega) l4 l2
  have c1 := w_refSame a.path b.path (by omega)
  rw [decide_eq_true k3] at c1
  have o1 := w_one (editO b a prior)
  have ee : editO b a prior = { b with pieces := (transP b.pieces a.pieces prior).1 } := rfl
  rw [ee] at o1 ⊢
  clear ee
  obtain ⟨⟨r1, r2, e⟩, hr⟩ : ∃ r, transP b.pieces a.pieces prior = r := ⟨_, rfl⟩
  rw [hr] at ct o1 ⊢
  refine pure_fn 100 Try.func46 rfl rfl rfl fun B => ?_
  refine ⟨fun g => go 100 ?_, fun g => absurd (by omega) (ne_of g)⟩
  show CallThen _ _ _ _ _ _
  refine call_pure c1 rfl ?_
  rintro x rfl
  refine ⟨fun g => absurd (eq_of g) (by omega), fun _ => go 100 ?_⟩
  refine ⟨fun g => absurd (eq_of g) (by omega), fun _ => go 100 ?_⟩
  refine ⟨fun g => absurd (eq_of g) (by omega), fun _ => go 100 ?_⟩
  refine ⟨fun g => absurd (eq_of g) (by omega), fun _ => go 100 ?_⟩
  refine ⟨fun _ => go 100 ?_, fun g => (by cases g)⟩
  refine ⟨fun g => absurd (eq_of g) (by omega), fun _ => go 100 ?_⟩
  refine ⟨fun _ => go 100 ?_, fun g => (by cases g)⟩
  refine ⟨fun g => absurd (eq_of g) (by omega), fun _ => go 100 ?_⟩
  refine ⟨fun _ => go 100 ?_, fun g => (by cases g)⟩
  refine ⟨fun _ => go 100 ?_, fun g => absurd (by omega) (ne_of g)⟩
  show CallThen _ _ _ _ _ _
  refine call_pure ct rfl ?_
  rintro x rfl
  show CallThen _ _ _ _ _ _
  refine call_pure o1 rfl ?_
  rintro x rfl
  exact ⟨trivial, rfl, rfl, rfl, rfl⟩
end Bow
/- W72: the document's Behind and Both (chapter 12); the law SquareBehind, walked. -/
namespace Bow
open Go Go.Proofs

theorem row_ok' {b a : OpT} {prior : Bool} (ha : a.Ok) (hb : b.Ok) (sa : soundO a = true) (sb : soundO b = true) (hto : a.to.length ≤ 1000 ∧ b.to.length ≤ 1000) : ∀ o ∈ rowO b a prior, o.Ok := by
  have fa : formedB a = true := by unfold soundO at sa; rw [Bool.and_eq_true] at sa; exact sa.1
  have fb : formedB b = true := by unfold soundO at sb; rw [Bool.and_eq_true] at sb; exact sb.1
  have pa := may_len (formed_path fa)
  have pb := may_len (formed_path fb)
  exact row_ok (prior := prior) ha hb (by omega) (by omega) hto.1 hto.2
/-- What behind hands to Behind. -/
def rowX (b a : OpT) (prior : Bool) : List OpT × Int := bif bothEdit b a then ([editO b a prior], (transP b.pieces a.pieces prior).2.2) else (rowO b a prior, 0)
theorem w_behind12X (b a : OpT) (prior : Bool) (ha : a.Ok) (hb : b.Ok) (sa : soundO a = true) (sb : soundO b = true) :
    Pure Try.prog 46 [opV b, opV a, .bool prior] (fun x => x = BehV (rowX b a prior)) := by
  unfold rowX
  cases he : bothEdit b a with
  | false => exact w_behind12 b a prior ha hb sa sb he
  | true => exact w_behind12E b a prior ha hb sa sb he
theorem rowX_len (b a : OpT) (prior : Bool) : (rowX b a prior).1.length ≤ 2 := by
  unfold rowX
  cases bothEdit b a with
  | false => exact row_len b a prior
  | true => exact Nat.le_succ _
theorem behX_rowX {b a : OpT} {prior : Bool} (sa : soundO a = true) (sb : soundO b = true) : behindX b a prior = bif !decide ((rowX b a prior).2 = 0) then ([], 3) else bif (rowX b a prior).1.all formedB then (bareL (rowX b a prior).1, 0) else ([], 3) := by
  unfold behindX rowX
  cases bothEdit b a with
  | false =>
    unfold behindO
    rw [sa, sb]
    rfl
  | true =>
    simp only [cond_true]
    unfold behindE
    rw [sa, sb]
    simp only [Bool.not_true, Bool.or_self, cond_false]
    cases decide ((transP b.pieces a.pieces prior).2.2 = 0) with
    | false => rfl
    | true =>
      simp only [Bool.true_and, Bool.not_true, cond_false, List.all_cons, List.all_nil, Bool.and_true]
      rfl
set_option pp.maxSteps 300 in
set_option maxHeartbeats 4000000 in
set_option maxRecDepth 100000 in
theorem w_refBehind (b a : OpT) (prior : Bool) (ha : a.Ok) (hb : b.Ok) (hto : a.to.length ≤ 1000 ∧ b.to.length ≤ 1000) :
    Pure Try.prog 15 [opV b, opV a, .bool prior] (fun x => x = BehV (behindX b a prior)) := by
  obtain ⟨R, hR⟩ : ∃ R, behindX b a prior = R := ⟨_, rfl⟩
  rw [hR]
  refine pure_wk (pure_fn 300 Try.func15 rfl rfl rfl fun B => ?_)
  show CallThen _ _ _ _ _ _
  refine call_pure (w_Sound12 a ha) rfl ?_
  rintro x rfl
  refine ⟨fun g1 => go 300 ?_, fun g1 => go 300 ?_⟩
  · have g1 : soundO a = false := by simpa using g1
    exact ⟨trivial, rfl, rfl, rfl, behZ' (by rw [← hR, behX_bad (by rw [g1]; rfl)])⟩
  have sa : soundO a = true := by simpa using g1
  show CallThen _ _ _ _ _ _
  refine call_pure (w_Sound12 b hb) rfl ?_
  rintro x rfl
  refine ⟨fun g2 => go 300 ?_, fun g2 => go 300 ?_⟩
  · have g2 : soundO b = false := by simpa using g2
    exact ⟨trivial, rfl, rfl, rfl, behZ' (by rw [← hR, behX_bad (by rw [g2]; simp)])⟩
  have sb : soundO b = true := by simpa using g2
  have hcall := w_behind12X b a prior ha hb sa sb
  have hlen := rowX_len b a prior
  rw [behX_rowX sa sb] at hR
  have hok : ∀ o ∈ (rowX b a prior).1, o.Lt 1000000 ∧ ∀ p ∈ o.pieces, p.put.length ≤ 1000000000 := by
    unfold rowX
    cases bothEdit b a with
    | false => intro o ho; have := row_ok' (prior := prior) ha hb sa sb hto o ho; exact ⟨this.lt, this.each⟩
    | true =>
      intro o ho
      simp only [cond_true, List.mem_singleton] at ho
      subst ho
      exact edit_lt hb
  obtain ⟨⟨l, e⟩, hl⟩ : ∃ r, rowX b a prior = r := ⟨_, rfl⟩
  rw [hl] at hcall hlen hok hR
  simp only at hlen hok hR
  show CallThen _ _ _ _ _ _
  refine call_pure hcall rfl ?_
  rintro x rfl
  refine ⟨fun g3 => go 300 ?_, fun g3 => go 300 ?_⟩
  · have g3 := ne_of' g3
    rw [decide_eq_false g3] at hR
    exact ⟨trivial, rfl, rfl, rfl, behZ' hR.symm⟩
  have g3 := eq_of' g3
  rw [decide_eq_true g3] at hR
  simp only [Bool.not_true, cond_false] at hR
  show Goes _ _ _ _
  refine goes_own 10 11 rfl ?_
  refine goes_iter (ι := Nat × Nat) (fun i => i.1 ≤ l.length ∧ (l.take i.1).all formedB = true) (fun i => l.length - i.1) (fun i => [(11, .int .i64 i.1), (10, .osl (.loc 2) i.2 0 i.1), (8, opsV l)]) (fun i => [some (.box (opV b).cells), some (.box (opV a).cells), some (.vec i.2 11 ((bareL (l.take i.1)).map opV))]) (0, 0) 300 (fun _ => rfl) (fun _ => rfl) ⟨⟨Nat.zero_le _, by simp⟩, ⟨⟨rfl, rfl⟩, ⟨rfl, rfl⟩, ⟨rfl, rfl⟩, trivial⟩, ⟨⟨rfl, rfl⟩, ⟨rfl, rfl⟩, ⟨rfl, rfl⟩, trivial⟩⟩ ?_
  rintro ⟨i, g⟩ ⟨k1, k2⟩ next
  simp only at k1 k2
  have hbl : (bareL (l.take i)).length = i := by simp [bareL]; omega
  refine ⟨fun hlt => go 300 ?_, fun hge => go 300 ?_⟩
  · have hi : i < l.length := by simpa using hlt
    obtain ⟨h1, h2⟩ := hok _ (List.getElem_mem hi)
    refine ⟨Int.natCast_nonneg i, _, op_at hi, ?_⟩
    show CallThen _ _ _ _ _ _
    refine call_pure (w_refFormed l[i] h1 h2) rfl ?_
    rintro x rfl
    refine ⟨fun g4 => go 300 ?_, fun g4 => go 300 ?_⟩
    · have g4 : formedB l[i] = false := by simpa using g4
      have e : l.all formedB = false := List.all_eq_false.2 ⟨l[i], List.getElem_mem hi, by simpa using g4⟩
      rw [e] at hR
      exact ⟨trivial, rfl, rfl, rfl, behZ' hR.symm⟩
    have g4 : formedB l[i] = true := by simpa using g4
    refine ⟨Int.natCast_nonneg i, _, op_at hi, ?_⟩
    show CallThen _ _ _ _ _ _
    refine call_pure (w_refBare l[i] h1) rfl ?_
    rintro x rfl
    refine ⟨⟨rfl, trivial⟩, rfl, rfl, rfl, (by rw [List.length_map]; exact hbl.symm), Nat.le_trans (Nat.mul_le_mul_right _ (show _ ≤ 1000001 by rw [List.length_map, hbl]; simp only [List.length_cons, List.length_nil]; omega)) (by decide), ?_⟩
    refine ⟨by constructor <;> omega, ?_⟩
    show Goes _ _ _ _
    have e : (bareL (l.take (i + 1))).map opV = (bareL (l.take i)).map opV ++ [opV (bareO l[i])] := by
      rw [List.take_succ_eq_append_getElem hi]
      simp only [bareL, List.map_append, List.map_cons, List.map_nil]
    refine next (i + 1, bump g) _ _ ⟨⟨hi, ?_⟩, by simp only; omega, ⟨⟨rfl, rfl⟩, ⟨?_, rfl⟩, ⟨rfl, rfl⟩, trivial⟩, ⟨⟨rfl, rfl⟩, ⟨rfl, rfl⟩, ⟨?_, rfl⟩, trivial⟩⟩
    · simp only
      rw [List.take_succ_eq_append_getElem hi, List.all_append, k2]
      simp [g4]
    · simp only [lk]
      exact congrArg (V.osl _ _ _) (by rw [List.length_map, hbl]; rfl)
    · exact congrArg (fun z => some (HObj.vec (bump g) 11 z)) e.symm
  · have hi : i = l.length := by have : l.length ≤ i := by simpa using hge
                                 omega
    subst hi
    rw [List.take_length] at k2
    rw [k2] at hR
    refine ⟨trivial, rfl, rfl, rfl, by simp [bareL], rfl, BehV R, ?_, rfl, rfl⟩
    rw [← hR]
    show Wk (.tup [.sl 11 ((bareL (l.take l.length)).map opV), .int .i64 0]) _
    rw [List.take_length]
    exact .refl _
set_option maxRecDepth 100000 in
theorem w_refBoth (a b : OpT) (prior : Bool) (ha : a.Ok) (hb : b.Ok) (hto : a.to.length ≤ 1000 ∧ b.to.length ≤ 1000) :
    Pure Try.prog 19 [opV a, opV b, .bool prior] (fun x => x = BothV (bothX a b prior)) := by
  refine pure_wk (pure_fn 300 Try.func19 rfl rfl rfl fun B => ?_)
  show CallThen _ _ _ _ _ _
  refine call_pure (w_refBehind a b prior hb ha ⟨hto.2, hto.1⟩) rfl ?_
  rintro x rfl
  show CallThen _ _ _ _ _ _
  refine call_pure (w_refBehind b a (!prior) ha hb hto) rfl ?_
  rintro x rfl
  refine ⟨fun g1 => go 300 ?_, fun g1 => go 300 ?_⟩
  · have g1 : (behindX a b prior).2 ≠ 0 := ne_of' g1
    have e : bothX a b prior = ([], [], (behindX a b prior).2) := by unfold bothX; rw [decide_eq_false g1]; rfl
    rw [e]
    exact ⟨trivial, rfl, rfl, rfl, bothZ _⟩
  have g1 : (behindX a b prior).2 = 0 := eq_of' g1
  refine ⟨fun g2 => go 300 ?_, fun g2 => go 300 ?_⟩
  · have g2 : (behindX b a (!prior)).2 ≠ 0 := ne_of' g2
    have e : bothX a b prior = ([], [], (behindX b a (!prior)).2) := by unfold bothX; rw [decide_eq_true g1, decide_eq_false g2]; rfl
    rw [e]
    exact ⟨trivial, rfl, rfl, rfl, bothZ _⟩
  have g2 : (behindX b a (!prior)).2 = 0 := eq_of' g2
  have e : bothX a b prior = ((behindX a b prior).1, (behindX b a (!prior)).1, 0) := by unfold bothX; rw [decide_eq_true g1, decide_eq_true g2]; rfl
  rw [e]
  exact ⟨trivial, rfl, rfl, rfl, BothV _, Wk.refl _, rfl, rfl⟩
end Bow
/- AE47: a function whose named memory nobody looks at any more. -/
namespace Bow
open Go

/-- Names let go. -/
theorem letGo {w : World} {β : Nat → Loc} {H : Heap} {B N : Base} (h : SRel [] 0 w β H [] ⟨[], [], B.add N, []⟩ bare) : ∃ H2, SRel [] 0 w β H2 [] ⟨[], [], B, []⟩ bare ∧ Fr w β H w β H2 := by
  have hH : ∀ q, q < H.length → H[q]? = some ((B.add N) q) := fun q hq => h.base q hq (by simp)
  obtain ⟨H2, hH2⟩ : ∃ H2 : Heap, H2 = (List.range H.length).map B := ⟨_, rfl⟩
  have hl : H2.length = H.length := by rw [hH2]; simp
  have hg : ∀ q, q < H.length → H2[q]? = some (B q) := fun q hq => by rw [hH2]; simp [hq]
  have hsub : ∀ q o, H2[q]? = some (some o) → H[q]? = some (some o) := fun q o hq => by
    have hlt : q < H.length := by rw [← hl]; exact lt_of_get hq
    rw [hg q hlt] at hq
    injection hq with hq
    rw [hH q hlt, Ext.add B N q o hq]
  have f : Fr w β H w β H2 := by
    refine ⟨⟨rfl, rfl, rfl, Nat.le_refl _, by rw [hl]; exact Nat.le_refl _, fun r o' _ ho => ⟨o', hsub r o' ho, Evo.refl _, fun _ _ => rfl⟩, fun _ _ _ => rfl, ?_, fun _ _ => rfl⟩, fun _ _ h => h⟩
    rintro b ⟨r, M, ⟨o, ho⟩, hb⟩
    exact .inr ⟨r, M, ⟨o, hsub r o ho⟩, hb⟩
  refine ⟨H2, ⟨?_, rfl, fun k => by simp [lk, V.conv]; exact .undef _, rfl, List.nodup_nil, by simp, rfl, fun r hr _ => ?_, fun r hr => ?_, by simp, by simp, by simp, rfl, by simp⟩, f⟩
  · refine h.hrel.step f (fun r o ho => .inl ⟨hsub r o ho, rfl, fun _ _ _ => rfl⟩) ?_
    rintro r r' b M M' ⟨o, ho⟩ ⟨o', ho'⟩ hb hb'
    exact h.hrel.inj r r' b M M' ⟨o, hsub r o ho⟩ ⟨o', hsub r' o' ho'⟩ hb hb'
  · exact hg r (by rw [← hl]; exact hr)
  · have h1 : (B.add N) r = none := h.fut r (by rw [← hl]; exact hr)
    show B r = none
    cases hb : B r with
    | none => rfl
    | some o => rw [Ext.add B N r o hb] at h1; cases h1
theorem pure_of_funN {P : Program} {g : FuncId} {args : List V} {Q : V → Prop} (h : FunN P g args fun x _ => Q x) (ha : V.pureL args = true) : Pure P g args Q := by
  unfold FunN at h
  unfold Pure Fun
  refine ⟨h.1, fun w β H m B vals cs hs hl hr => ?_⟩
  have hm : m = [] := List.length_eq_zero_iff.1 hs.mlen
  subst hm
  obtain ⟨x, N, v, w', β', H', fr, hq, hN, k1, k2, k3, k4, k5⟩ := h.2 w β H B vals cs hs hl (fun j x v hj hv => by
    have h1 := hr j x v hj hv
    rwa [pure_conv _ _ (pureL_mem _ ha x (List.mem_of_getElem? hj))] at h1)
  obtain ⟨H2, e1, e2⟩ := letGo k1
  exact ⟨x, [], v, w', β', H2, [], fr, ⟨rfl, k4, hq⟩, e1, k2.trans e2, by rw [pure_conv _ _ k4]; exact k3.mono e2, k5⟩
end Bow
/- W79: the law SquareBoth, walked. -/
namespace Bow
open Go Go.Proofs

theorem OpsOk.add {B N : Base} {zs : List (Ns × OpT)} (h : OpsOk N zs) (hN : ∀ q o, N q = some o → B q = none) : OpsOk (B.add N) zs := h.ext fun q o e => add_new e (hN q o e)
theorem fz_opsE {B : Base} {zs : List (Ns × OpT)} {l : List OpT} (h : OpsOk B zs) (e : zs.map Prod.snd = l) : Fz B (opsNV zs) (opsV l) := e ▸ fz_ops h
/-- All these operations' rows stand there. -/
def AllShp (B : Base) (zs : List (Ns × OpT)) : Prop := ∀ z ∈ zs, NsShp B z.1 z.2
theorem OpsOk.allShp {B : Base} {zs : List (Ns × OpT)} (h : OpsOk B zs) : AllShp B zs := fun z hz => (h z hz).shp
theorem AllShp.to' {B B' : Base} {zs : List (Ns × OpT)} (h : AllShp B zs) (k : ShpEq B B') : AllShp B' zs := fun z hz => (h z hz).to' k
theorem NsShp.names {B : Base} {ns : Ns} {o : OpT} (h : NsShp B ns o) : ∀ q ∈ [ns.p, ns.t, ns.s], ∃ ob, B q = some ob := by
  obtain ⟨⟨xs, h1, _⟩, ⟨ys, h2, _⟩, ⟨zs, h3, _⟩⟩ := h
  intro q hq
  simp only [List.mem_cons, List.not_mem_nil, or_false] at hq
  rcases hq with rfl | rfl | rfl
  · exact ⟨_, h1⟩
  · exact ⟨_, h2⟩
  · exact ⟨_, h3⟩
/-- Names that nobody held ahead. -/
def NewNs (B : Base) (ns : Ns) : Prop := ∀ q ∈ [ns.p, ns.t, ns.s], B q = none
theorem NsOk.fresh {B N : Base} {ns : Ns} {o : OpT} (h : NsOk N ns o) (hN : ∀ q ob, N q = some ob → B q = none) : NewNs B ns := by
  intro q hq
  simp only [List.mem_cons, List.not_mem_nil, or_false] at hq
  rcases hq with rfl | rfl | rfl
  · exact hN _ _ h.path
  · exact hN _ _ h.to
  · exact hN _ _ h.pieces
theorem ext_step {B Bc B' : Base} {ns : Ns} (h : Ext B Bc) (hn : NewNs B ns) (hq : ∀ q, q ∉ [ns.p, ns.t, ns.s] → B' q = Bc q) : Ext B B' := fun q o e => by
  rw [hq q (fun hm => by rw [hn q hm] at e; cases e)]
  exact h q o e
theorem sameO_bare (o : OpT) : sameO (bareO o) o = true := by
  have := sameO_refl o
  unfold sameO at this ⊢
  rw [bare_idem]
  exact this

set_option maxHeartbeats 4000000 in
set_option maxRecDepth 100000 in
theorem w_SquareBoth (a b : OpT) (prior : Bool) : Pure Try.prog 4 [opV a, opV b, .bool prior] (fun x => x = .bool true) := by
  have hw := w_works12
  refine pure_of_funN (funN_of_goes 60 Try.func4 rfl rfl rfl fun B => ?_) rfl
  show CallThen _ _ _ _ _ _
  refine call_pure (w_LightX a 200 (by decide)) rfl ?_
  rintro x rfl
  refine ⟨fun g1 => go 60 ?_, fun g1 => go 60 ?_⟩
  · show CallThen _ _ _ _ _ _
    refine call_pure hw rfl ?_
    rintro x rfl
    exact ⟨trivial, rfl, Ext.refl _, rfl, leaf_b rfl⟩
  have ha := light_ok (top := 200) (o := a) (by simpa using g1) (by decide)
  have la := ((lightB_iff a 200).1 (by simpa using g1)).1
  show CallThen _ _ _ _ _ _
  refine call_pure (w_LightX b 200 (by decide)) rfl ?_
  rintro x rfl
  refine ⟨fun g2 => go 60 ?_, fun g2 => go 60 ?_⟩
  · show CallThen _ _ _ _ _ _
    refine call_pure hw rfl ?_
    rintro x rfl
    exact ⟨trivial, rfl, Ext.refl _, rfl, leaf_b rfl⟩
  have hb := light_ok (top := 200) (o := b) (by simpa using g2) (by decide)
  have lb := ((lightB_iff b 200).1 (by simpa using g2)).1
  have a1 := la.pieces
  have a2 := la.to
  have b1 := lb.pieces
  have b2 := lb.to
  show CallThen _ _ _ _ _ _
  refine call_pure (w_Small a.pieces 400 (by omega) (by decide)) rfl ?_
  rintro x ⟨s1, rfl⟩
  refine ⟨fun g3 => go 60 ?_, fun g3 => go 60 ?_⟩
  · show CallThen _ _ _ _ _ _
    refine call_pure hw rfl ?_
    rintro x rfl
    exact ⟨trivial, rfl, Ext.refl _, rfl, leaf_b rfl⟩
  show CallThen _ _ _ _ _ _
  refine call_pure (w_Small b.pieces 400 (by omega) (by decide)) rfl ?_
  rintro x ⟨s2, rfl⟩
  refine ⟨fun g4 => go 60 ?_, fun g4 => go 60 ?_⟩
  · show CallThen _ _ _ _ _ _
    refine call_pure hw rfl ?_
    rintro x rfl
    exact ⟨trivial, rfl, Ext.refl _, rfl, leaf_b rfl⟩
  have hsa := w_refSameO (bareO a) a (bare_ok ha).lt ha.lt
  have hsb := w_refSameO (bareO b) b (bare_ok hb).lt hb.lt
  rw [sameO_bare] at hsa hsb
  have ta := (bare_lt la).to
  have tb := (bare_lt lb).to
  have h1 := w_BothN (bareO a) (bareO b) prior (bare_ok ha) (bare_ok hb) ⟨by omega, by omega⟩
  rw [bothX_bare] at h1
  have h2 := w_refBoth a b prior ha hb ⟨by omega, by omega⟩
  obtain ⟨⟨l1, l2⟩, l3, l4⟩ := bothX_lt (prior := prior) ha hb (by omega) (by omega)
  obtain ⟨⟨x, y, e⟩, hr⟩ : ∃ z, bothX a b prior = z := ⟨_, rfl⟩
  rw [hr] at h1 h2 l1 l2 l3 l4
  simp only at l1 l2 l3 l4
  show Goes _ _ _ _
  refine goes_draw 60 ?_
  refine ⟨_, w_refBare a ha.lt, rfl, ?_⟩
  refine ⟨_, w_refBare b hb.lt, rfl, ?_⟩
  refine ⟨by kernel_rfl, ?_⟩
  refine ⟨by kernel_rfl, ?_⟩
  refine ⟨by kernel_rfl, ?_⟩
  show CallThen _ _ _ _ _ _
  refine call_funN h1 rfl ?_
  rintro z N ⟨zs, us, z1, u1, rfl, z2, u2⟩ _ hN
  have nz : ∀ z ∈ zs, NewNs B z.1 := fun z hz => (z2 z hz).fresh hN
  have nu : ∀ z ∈ us, NewNs B z.1 := fun z hz => (u2 z hz).fresh hN
  have z2 := z2.add hN
  have u2 := u2.add hN
  have hE := Ext.add B N
  simp only at z1 u1
  clear h1 hN
  generalize Base.add B N = B1 at z2 u2 hE ⊢
  show CallThen _ _ _ _ _ _
  refine call_pure h2 rfl ?_
  rintro z rfl
  refine ⟨fun g => absurd rfl (ne_of' g), fun _ => go 60 ?_⟩
  show CallThen _ _ _ _ _ _
  refine call_flatN (w_same12 x (by omega) (fun o ho => (l2 o ho).1)) ⟨fz_opsE z2 z1, .wk (.refl _), trivial⟩ rfl rfl rfl rfl ?_
  refine ⟨fun g => (by cases g), fun _ => go 60 ?_⟩
  show CallThen _ _ _ _ _ _
  refine call_flatN (w_same12 y (by omega) (fun o ho => (l4 o ho).1)) ⟨fz_opsE u2 u1, .wk (.refl _), trivial⟩ rfl rfl rfl rfl ?_
  refine ⟨fun g => (by cases g), fun _ => go 60 ?_⟩
  have lz : ∀ z ∈ zs, z.2.Lt 1000000 := fun z hz => (l2 z.2 (by rw [← z1]; exact List.mem_map.2 ⟨z, hz, rfl⟩)).1
  have lu : ∀ z ∈ us, z.2.Lt 1000000 := fun z hz => (l4 z.2 (by rw [← u1]; exact List.mem_map.2 ⟨z, hz, rfl⟩)).1
  have hzl : zs.length ≤ 2 := by rw [← z1, List.length_map] at l1; exact l1
  have hul : us.length ≤ 2 := by rw [← u1, List.length_map] at l3; exact l3
  clear h2 z1 u1 l1 l2 l3 l4
  show Goes _ _ _ _
  refine goes_iterB (ι := Nat) (fun i B' => i ≤ zs.length ∧ Ext B B' ∧ AllShp B' zs ∧ AllShp B' us) (fun i => zs.length - i) (fun i => [(15, .int .i64 i), (10, opsNV us), (9, opsNV zs), (8, .ptr (.loc 3) 0), (7, .ptr (.loc 2) 0), (4, .ptr (.loc 1) 0), (3, .ptr (.loc 0) 0)]) (fun _ => [some (.box (opV a).cells), some (.box (opV b).cells), some (.box (opV (bareO a)).cells), some (.box (opV (bareO b)).cells)]) 0 60 (fun _ => rfl) (fun _ => rfl)
    ⟨⟨Nat.zero_le _, hE, z2.allShp, u2.allShp⟩, ⟨⟨rfl, rfl⟩, ⟨rfl, rfl⟩, ⟨rfl, rfl⟩, ⟨rfl, rfl⟩, ⟨rfl, rfl⟩, ⟨rfl, rfl⟩, ⟨rfl, rfl⟩, trivial⟩, ⟨⟨rfl, rfl⟩, ⟨rfl, rfl⟩, ⟨rfl, rfl⟩, ⟨rfl, rfl⟩, trivial⟩⟩ ?_
  rintro i Bc ⟨k1, kE, k2, k3⟩ next
  refine ⟨fun hlt => go 60 ?_, fun hge => go 60 ?_⟩
  · have hi : i < zs.length := by simpa using hlt
    have hx : (zs.map nV)[i]? = some (opN zs[i].1 zs[i].2) := by simp [hi, nV]
    have hsh := k2 zs[i] (List.getElem_mem hi)
    refine ⟨Int.natCast_nonneg i, _, hx, ?_⟩
    show CallThen _ _ _ _ _ _
    refine call_funW (w_spoil zs[i].1 zs[i].2 (lz _ (List.getElem_mem hi))) rfl (fun B' e => hsh.ext e) hsh.names rfl ?_
    rintro x B' rfl _ hq hm
    refine ⟨by constructor <;> omega, ?_⟩
    show Goes _ _ _ _
    exact next (i + 1) B' _ _ ⟨⟨hi, ext_step kE (nz _ (List.getElem_mem hi)) hm, k2.to' hq, k3.to' hq⟩, by omega, ⟨⟨rfl, rfl⟩, ⟨rfl, rfl⟩, ⟨rfl, rfl⟩, ⟨rfl, rfl⟩, ⟨rfl, rfl⟩, ⟨rfl, rfl⟩, ⟨rfl, rfl⟩, trivial⟩, ⟨⟨rfl, rfl⟩, ⟨rfl, rfl⟩, ⟨rfl, rfl⟩, ⟨rfl, rfl⟩, trivial⟩⟩
  clear next
  show Goes _ _ _ _
  refine goes_iterB (ι := Nat) (fun i B' => i ≤ us.length ∧ Ext B B' ∧ AllShp B' us) (fun i => us.length - i) (fun i => [(16, .int .i64 i), (10, opsNV us), (8, .ptr (.loc 3) 0), (7, .ptr (.loc 2) 0), (4, .ptr (.loc 1) 0), (3, .ptr (.loc 0) 0)]) (fun _ => [some (.box (opV a).cells), some (.box (opV b).cells), some (.box (opV (bareO a)).cells), some (.box (opV (bareO b)).cells)]) 0 60 (fun _ => rfl) (fun _ => rfl)
    ⟨⟨Nat.zero_le _, kE, k3⟩, ⟨⟨rfl, rfl⟩, ⟨rfl, rfl⟩, ⟨rfl, rfl⟩, ⟨rfl, rfl⟩, ⟨rfl, rfl⟩, ⟨rfl, rfl⟩, trivial⟩, ⟨⟨rfl, rfl⟩, ⟨rfl, rfl⟩, ⟨rfl, rfl⟩, ⟨rfl, rfl⟩, trivial⟩⟩ ?_
  clear k1 kE k2 k3 hge
  rintro i Bc ⟨k1, k2, k3⟩ next
  refine ⟨fun hlt => go 60 ?_, fun hge => go 60 ?_⟩
  · have hi : i < us.length := by simpa using hlt
    have hx : (us.map nV)[i]? = some (opN us[i].1 us[i].2) := by simp [hi, nV]
    have hsh := k3 us[i] (List.getElem_mem hi)
    refine ⟨Int.natCast_nonneg i, _, hx, ?_⟩
    show CallThen _ _ _ _ _ _
    refine call_funW (w_spoil us[i].1 us[i].2 (lu _ (List.getElem_mem hi))) rfl (fun B' e => hsh.ext e) hsh.names rfl ?_
    rintro x B' rfl _ hq hm
    refine ⟨by constructor <;> omega, ?_⟩
    show Goes _ _ _ _
    exact next (i + 1) B' _ _ ⟨⟨hi, ext_step k2 (nu _ (List.getElem_mem hi)) hm, k3.to' hq⟩, by omega, ⟨⟨rfl, rfl⟩, ⟨rfl, rfl⟩, ⟨rfl, rfl⟩, ⟨rfl, rfl⟩, ⟨rfl, rfl⟩, ⟨rfl, rfl⟩, trivial⟩, ⟨⟨rfl, rfl⟩, ⟨rfl, rfl⟩, ⟨rfl, rfl⟩, ⟨rfl, rfl⟩, trivial⟩⟩
  clear next
  show CallThen _ _ _ _ _ _
  refine call_pure hsa rfl ?_
  rintro x rfl
  refine ⟨fun _ => go 60 ?_, fun g => (by cases g)⟩
  show CallThen _ _ _ _ _ _
  refine call_pure hsb rfl ?_
  rintro x rfl
  refine ⟨fun _ => go 60 ?_, fun g => (by cases g)⟩
  show CallThen _ _ _ _ _ _
  refine call_pure hw rfl ?_
  rintro x rfl
  exact ⟨trivial, rfl, k2, rfl, leaf_b rfl⟩
end Bow
/- SP32: the errors of lists brought by each other; a list brought by rows, in plain Lean. -/
namespace Bow
open Go

theorem behX_code (b a : OpT) (p : Bool) : (behindX b a p).2 = 0 ∨ 3 ≤ (behindX b a p).2 := by
  unfold behindX behindE behindO
  cases bothEdit b a <;> cases !soundO a || !soundO b <;> simp only [cond_true, cond_false]
  · cases (rowO b a p).all formedB <;> simp
  · simp
  · cases decide ((transP b.pieces a.pieces p).2.2 = 0) && formedB (editO b a p) <;> simp
  · simp
theorem bothX_code (a b : OpT) (p : Bool) : (bothX a b p).2.2 = 0 ∨ 3 ≤ (bothX a b p).2.2 := by
  have h1 := behX_code a b p
  have h2 := behX_code b a (!p)
  unfold bothX
  cases decide ((behindX a b p).2 = 0) with
  | false => exact h1
  | true => cases decide ((behindX b a (!p)).2 = 0) with
    | false => exact h2
    | true => exact .inl rfl
theorem bringF_code {prior : Bool} : ∀ {n : Nat} {xs ys : List OpT} {r}, bringF prior n xs ys = some r → r.2.2 = 0 ∨ 3 ≤ r.2.2
  | 0, _, _, _, h => by cases h
  | n + 1, xs, ys, r, h => by
    rw [bringF_succ] at h
    unfold bringS at h
    cases hm : muchP xs ys with
    | true => rw [hm] at h; simp at h; subst h; exact .inr (by decide)
    | false =>
      rw [hm, cond_false] at h
      match xs, ys, h with
      | [], ys, h => simp at h; subst h; exact .inl rfl
      | a :: xs, [], h => simp at h; subst h; exact .inl rfl
      | [a], [b], h =>
        simp only [Option.some.injEq] at h
        subst h
        exact bothX_code a b prior
      | a :: a' :: xs, b :: ys, h =>
        simp only at h
        cases h1 : bringF prior n [a] (b :: ys) with
        | none => rw [h1] at h; cases h
        | some r1 =>
          have ih := bringF_code h1
          obtain ⟨x1, y1, e1⟩ := r1
          rw [h1] at h
          simp only at h ih
          cases h3 : !decide (e1 = 0) with
          | true => rw [h3] at h; simp at h; subst h; exact ih
          | false =>
            rw [h3, cond_false] at h
            cases h2 : bringF prior n (a' :: xs) y1 with
            | none => rw [h2] at h; cases h
            | some r2 =>
              have ih2 := bringF_code h2
              obtain ⟨z, w, e2⟩ := r2
              rw [h2] at h
              simp only at h ih2
              cases h4 : !decide (e2 = 0) with
              | true => rw [h4] at h; simp at h; subst h; exact ih2
              | false =>
                rw [h4, cond_false] at h
                cases hmm : muchP (x1 ++ z) w with
                | true => rw [hmm] at h; simp at h; subst h; exact .inr (by decide)
                | false => rw [hmm] at h; simp at h; subst h; exact .inl rfl
      | [a], b :: b' :: ys, h =>
        simp only at h
        cases h1 : bringF prior n [a] [b] with
        | none => rw [h1] at h; cases h
        | some r1 =>
          have ih := bringF_code h1
          obtain ⟨x1, y1, e1⟩ := r1
          rw [h1] at h
          simp only at h ih
          cases h3 : !decide (e1 = 0) with
          | true => rw [h3] at h; simp at h; subst h; exact ih
          | false =>
            rw [h3, cond_false] at h
            cases h2 : bringF prior n x1 (b' :: ys) with
            | none => rw [h2] at h; cases h
            | some r2 =>
              have ih2 := bringF_code h2
              obtain ⟨z, w, e2⟩ := r2
              rw [h2] at h
              simp only at h ih2
              cases h4 : !decide (e2 = 0) with
              | true => rw [h4] at h; simp at h; subst h; exact ih2
              | false =>
                rw [h4, cond_false] at h
                cases hmm : muchP z (y1 ++ w) with
                | true => rw [hmm] at h; simp at h; subst h; exact .inr (by decide)
                | false => rw [hmm] at h; simp at h; subst h; exact .inl rfl

/-- A list brought by rows, from here on. -/
noncomputable def thrG (prior : Bool) : List OpT → List (List OpT) → List (List OpT) → List OpT × List (List OpT) × Int
  | bs, out, [] => (bs, out, 0)
  | bs, out, r :: rows => bif !decide ((listsX prior bs r).2.2 = 0) then ([], [], (listsX prior bs r).2.2) else thrG prior (listsX prior bs r).1 (out ++ [(listsX prior bs r).2.1]) rows
theorem thrG_drop {prior : Bool} {bs : List OpT} {out rows : List (List OpT)} {i : Nat} (h : i < rows.length) : thrG prior bs out (rows.drop i) = bif !decide ((listsX prior bs rows[i]).2.2 = 0) then ([], [], (listsX prior bs rows[i]).2.2) else thrG prior (listsX prior bs rows[i]).1 (out ++ [(listsX prior bs rows[i]).2.1]) (rows.drop (i + 1)) := by
  rw [List.drop_eq_getElem_cons h, thrG]
end Bow
/- W73: the document's answer of chapter 13: bare, joined, much, both, Both, Through; lists.Through. -/
namespace Bow
open Go Go.Proofs

theorem w_ref13bare (l : List OpT) (hl : l.length ≤ 1000000) (hok : ∀ o ∈ l, o.Lt 1000000) : Pure Try.prog 55 [opsV l] (fun x => x = opsV (bareL l)) := by
  refine pure_wk (pure_fn 300 Try.func55 rfl rfl rfl fun B => ?_)
  show Goes _ _ _ _
  refine goes_own 3 11 rfl ?_
  refine goes_iter (ι := Nat × Nat) (fun i => i.1 ≤ l.length) (fun i => l.length - i.1) (fun i => [(4, .int .i64 i.1), (0, opsV l), (3, .osl (.loc 0) i.2 0 i.1)]) (fun i => [some (.vec i.2 11 ((bareL (l.take i.1)).map opV))]) (0, 0) 300 (fun _ => rfl) (fun _ => rfl) ⟨Nat.zero_le _, ⟨⟨rfl, rfl⟩, ⟨rfl, rfl⟩, ⟨rfl, rfl⟩, trivial⟩, ⟨⟨rfl, rfl⟩, trivial⟩⟩ ?_
  rintro ⟨i, g⟩ k1 next
  simp only at k1
  have hbl : (bareL (l.take i)).length = i := by simp [bareL]; omega
  refine ⟨fun hlt => go 300 ?_, fun hge => go 300 ?_⟩
  · have hi : i < l.length := by simpa using hlt
    refine ⟨Int.natCast_nonneg i, _, op_at hi, ?_⟩
    show CallThen _ _ _ _ _ _
    refine call_pure (w_refBare l[i] (hok _ (List.getElem_mem hi))) rfl ?_
    rintro x rfl
    refine ⟨⟨rfl, trivial⟩, rfl, rfl, rfl, (by rw [List.length_map]; exact hbl.symm), Nat.le_trans (Nat.mul_le_mul_right _ (show _ ≤ 1000001 by rw [List.length_map, hbl]; simp only [List.length_cons, List.length_nil]; omega)) (by decide), ?_⟩
    refine ⟨by constructor <;> omega, ?_⟩
    show Goes _ _ _ _
    have e : (bareL (l.take (i + 1))).map opV = (bareL (l.take i)).map opV ++ [opV (bareO l[i])] := by
      rw [List.take_succ_eq_append_getElem hi]
      simp only [bareL, List.map_append, List.map_cons, List.map_nil]
    refine next (i + 1, bump g) _ _ ⟨hi, by simp only; omega, ⟨⟨rfl, rfl⟩, ⟨rfl, rfl⟩, ⟨?_, rfl⟩, trivial⟩, ⟨⟨?_, rfl⟩, trivial⟩⟩
    · simp only [lk]
      exact congrArg (V.osl _ _ _) (by rw [List.length_map, hbl]; rfl)
    · exact congrArg (fun z => some (HObj.vec (bump g) 11 z)) e.symm
  · have hi : i = l.length := by have : l.length ≤ i := by simpa using hge
                                 omega
    subst hi
    refine ⟨trivial, rfl, rfl, rfl, by simp [bareL], rfl, opsV (bareL l), ?_, rfl, rfl⟩
    show Wk (.sl 11 ((bareL (l.take l.length)).map opV)) _
    rw [List.take_length]
    exact .refl _
theorem w_joined (x z : List OpT) (h : x.length + z.length ≤ 1000000) : Pure Try.prog 90 [opsV x, opsV z] (fun v => v = opsV (x ++ z)) := by
  refine pure_wk (pure_fn 300 Try.func90 rfl rfl rfl fun B => ?_)
  refine ⟨Nat.le_trans (Nat.mul_le_mul_right _ (show (x.map opV).length ≤ 1000000 by simp; omega)) (by decide), ?_⟩
  refine ⟨rfl, rfl, Nat.le_trans (Nat.mul_le_mul_right _ (show (x.map opV).length + (z.map opV).length ≤ 1000000 by simp; omega)) (by decide), ?_⟩
  refine ⟨trivial, rfl, rfl, rfl, by simp, rfl, opsV (x ++ z), ?_, rfl, rfl⟩
  unfold opsV
  rw [List.map_append]
  exact Wk.refl _
theorem w_ref13much (x z : List OpT) : Pure Try.prog 89 [opsV x, opsV z] (fun v => v = .bool (muchP x z)) := by
  refine pure_wk (pure_fn 300 Try.func89 rfl rfl rfl fun B => ?_)
  unfold muchP
  refine ⟨fun g1 => go 300 ?_, fun g1 => go 300 ?_⟩
  · have g1 : 4096 < x.length := by have := lt_of g1; simp at this; omega
    exact ⟨trivial, rfl, rfl, rfl, leaf_tt (by rw [decide_eq_true g1]; rfl)⟩
  · have g1 : ¬ 4096 < x.length := by have := not_lt_of g1; simp at this; omega
    exact ⟨trivial, rfl, rfl, rfl, leaf_b (by rw [decide_eq_false g1]; simp; omega)⟩
theorem maxI {e : Int} (h : 3 ≤ e) : (if (3 : Int) > e then (3 : Int) else e) = e := by
  rw [if_neg (by omega)]
set_option maxHeartbeats 4000000 in
set_option maxRecDepth 100000 in
theorem w_ref13both (prior : Bool) : ∀ (n : Nat) (xs ys : List OpT) (R), bringF prior n xs ys = some R → OkL xs → OkL ys → Pure Try.prog 54 [opsV xs, opsV ys, .bool prior] (fun x => x = BothV R)
  | 0, _, _, _, h, _, _ => by cases h
  | n + 1, xs, ys, R, h, ox, oy => by
    have cm := w_ref13much xs ys
    rw [bringF_succ] at h
    unfold bringS at h
    refine pure_wk (pure_fn 300 Try.func54 rfl rfl rfl fun B => ?_)
    show CallThen _ _ _ _ _ _
    refine call_pure cm rfl ?_
    rintro x rfl
    refine ⟨fun g1 => go 300 ?_, fun g1 => go 300 ?_⟩
    · rw [g1] at h
      simp only [cond_true, Option.some.injEq] at h
      exact ⟨trivial, rfl, rfl, rfl, bothZ' h.symm⟩
    rw [g1, cond_false] at h
    have hlen := muchP_le g1
    match xs, ys, h, ox, oy, hlen with
    | [], ys, h, _, _, _ =>
      simp only [Option.some.injEq] at h
      refine ⟨fun g2 => go 300 ?_, fun g2 => absurd rfl (ne_of g2)⟩
      exact ⟨trivial, rfl, rfl, rfl, BothV ([], ys, 0), Wk.refl _, rfl, by rw [h]⟩
    | a :: xs, [], h, _, _, _ =>
      simp only [Option.some.injEq] at h
      refine ⟨fun g2 => absurd (eq_of g2) (by simp; omega), fun g2 => go 300 ?_⟩
      refine ⟨fun g3 => go 300 ?_, fun g3 => absurd rfl (ne_of g3)⟩
      exact ⟨trivial, rfl, rfl, rfl, BothV (a :: xs, [], 0), Wk.refl _, rfl, by rw [h]⟩
    | [a], [b], h, ox, oy, _ =>
      simp only [Option.some.injEq] at h
      have cb := w_refBoth a b prior (ox a List.mem_cons_self).1 (oy b List.mem_cons_self).1 ⟨(ox a List.mem_cons_self).2, (oy b List.mem_cons_self).2⟩
      rw [h] at cb
      refine ⟨fun g2 => absurd (eq_of g2) (by simp), fun g2 => go 300 ?_⟩
      refine ⟨fun g3 => absurd (eq_of g3) (by simp), fun g3 => go 300 ?_⟩
      refine ⟨fun g4 => go 300 ?_, fun g4 => absurd rfl (ne_of g4)⟩
      refine ⟨fun g5 => go 300 ?_, fun g5 => absurd rfl (ne_of g5)⟩
      show Goes _ _ _ _
      refine goes_draw 300 ⟨by decide, _, rfl, by decide, _, rfl, _, cb, rfl, ?_⟩
      refine ⟨by kernel_rfl, ?_⟩
      exact ⟨trivial, rfl, rfl, rfl, BothV R, Wk.refl _, rfl, rfl⟩
    | a :: a' :: xs, b :: ys, h, ox, oy, hlen =>
      simp only at h
      obtain ⟨r1, h1⟩ : ∃ r1, bringF prior n [a] (b :: ys) = r1 := ⟨_, rfl⟩
      rw [h1] at h
      match r1, h1, h with
      | none, _, h => cases h
      | some (x1, y1, e1), h1, h =>
      simp only at h
      have c1 := w_ref13both prior n _ _ _ h1 ox.head oy
      obtain ⟨o1, o2⟩ := bringF_okL prior n _ _ _ h1 ox.head oy
      refine ⟨fun g2 => absurd (eq_of g2) (by simp; omega), fun g2 => go 300 ?_⟩
      refine ⟨fun g3 => absurd (eq_of g3) (by simp; omega), fun g3 => go 300 ?_⟩
      refine ⟨fun g4 => absurd (eq_of g4) (by simp; omega), fun g4 => go 300 ?_⟩
      refine ⟨fun g5 => absurd (eq_of g5) (by simp; omega), fun g5 => go 300 ?_⟩
      refine ⟨by decide, by decide, by simp; omega, ?_⟩
      show CallThen _ _ _ _ _ _
      refine call_pure c1 rfl ?_
      rintro x rfl
      refine ⟨fun g5 => go 300 ?_, fun g5 => go 300 ?_⟩
      · have g5 := ne_of' g5
        rw [decide_eq_false g5] at h
        simp only [Bool.not_false, cond_true, Option.some.injEq] at h
        exact ⟨trivial, rfl, rfl, rfl, bothZ' h.symm⟩
      have g5 := eq_of' g5
      subst g5
      simp only [decide_true, Bool.not_true, cond_false] at h
      obtain ⟨r2, h2⟩ : ∃ r2, bringF prior n (a' :: xs) y1 = r2 := ⟨_, rfl⟩
      rw [h2] at h
      match r2, h2, h with
      | none, _, h => cases h
      | some (z, w, e2), h2, h =>
      simp only at h
      have c2 := w_ref13both prior n _ _ _ h2 ox.tail o2
      refine ⟨by decide, by simp only [List.length_map, List.length_cons]; omega, Int.le_refl _, ?_⟩
      show CallThen _ _ _ _ _ _
      refine call_pure (pure_args c2 ⟨Wk.of_eq (cut1 a (a' :: xs)), .refl _, .refl _, trivial⟩ rfl rfl) rfl ?_
      rintro x rfl
      have hcode : e2 = 0 ∨ 3 ≤ e2 := bringF_code h2
      refine ⟨fun g6 => go 300 ?_, fun g6 => go 300 ?_⟩
      · have g6 := ne_of' g6
        rw [decide_eq_false g6] at h
        simp only [Bool.not_false, cond_true, Option.some.injEq] at h
        exact ⟨trivial, rfl, rfl, rfl, bothZ' (by have g7 : e2 ≠ 0 := g6; rw [maxI (e := (z, w, e2).2.2) (by show 3 ≤ e2; omega)]; exact h.symm)⟩
      have g6 := eq_of' g6
      subst g6
      simp only [decide_true, Bool.not_true, cond_false] at h
      have i1 := (bringF_inv prior n _ _ _ _ h1).s
      have i2 := (bringF_inv prior n _ _ _ _ h2).s
      simp only [List.length_cons, List.length_nil] at i1 i2 hlen
      show CallThen _ _ _ _ _ _
      refine call_pure (w_joined x1 z (by omega)) rfl ?_
      rintro x rfl
      show CallThen _ _ _ _ _ _
      refine call_pure (w_ref13much (x1 ++ z) w) rfl ?_
      rintro x rfl
      refine ⟨fun g7 => go 300 ?_, fun g7 => go 300 ?_⟩
      · rw [g7] at h
        simp only [cond_true, Option.some.injEq] at h
        exact ⟨trivial, rfl, rfl, rfl, bothZ' h.symm⟩
      rw [g7] at h
      simp only [cond_false, Option.some.injEq] at h
      show CallThen _ _ _ _ _ _
      refine call_pure (w_joined x1 z (by omega)) rfl ?_
      rintro x rfl
      exact ⟨trivial, rfl, rfl, rfl, BothV (x1 ++ z, w, 0), Wk.refl _, rfl, by rw [h]⟩
    | [a], b :: b' :: ys, h, ox, oy, hlen =>
      simp only at h
      obtain ⟨r1, h1⟩ : ∃ r1, bringF prior n [a] [b] = r1 := ⟨_, rfl⟩
      rw [h1] at h
      match r1, h1, h with
      | none, _, h => cases h
      | some (x1, y1, e1), h1, h =>
      simp only at h
      have c1 := w_ref13both prior n _ _ _ h1 ox oy.head
      obtain ⟨o1, o2⟩ := bringF_okL prior n _ _ _ h1 ox oy.head
      refine ⟨fun g2 => absurd (eq_of g2) (by simp), fun g2 => go 300 ?_⟩
      refine ⟨fun g3 => absurd (eq_of g3) (by simp; omega), fun g3 => go 300 ?_⟩
      refine ⟨fun g4 => go 300 ?_, fun g4 => absurd rfl (ne_of g4)⟩
      refine ⟨fun g5 => absurd (eq_of g5) (by simp; omega), fun g5 => go 300 ?_⟩
      refine ⟨fun g6 => go 300 ?_, fun g6 => absurd rfl (ne_of g6)⟩
      refine ⟨by decide, by decide, by simp; omega, ?_⟩
      show CallThen _ _ _ _ _ _
      refine call_pure c1 rfl ?_
      rintro x rfl
      refine ⟨fun g5 => go 300 ?_, fun g5 => go 300 ?_⟩
      · have g5 := ne_of' g5
        rw [decide_eq_false g5] at h
        simp only [Bool.not_false, cond_true, Option.some.injEq] at h
        exact ⟨trivial, rfl, rfl, rfl, bothZ' h.symm⟩
      have g5 := eq_of' g5
      subst g5
      simp only [decide_true, Bool.not_true, cond_false] at h
      obtain ⟨r2, h2⟩ : ∃ r2, bringF prior n x1 (b' :: ys) = r2 := ⟨_, rfl⟩
      rw [h2] at h
      match r2, h2, h with
      | none, _, h => cases h
      | some (z, w, e2), h2, h =>
      simp only at h
      have c2 := w_ref13both prior n _ _ _ h2 o1 oy.tail
      refine ⟨by decide, by simp only [List.length_map, List.length_cons]; omega, Int.le_refl _, ?_⟩
      show CallThen _ _ _ _ _ _
      refine call_pure (pure_args c2 ⟨.refl _, Wk.of_eq (cut1 b (b' :: ys)), .refl _, trivial⟩ rfl rfl) rfl ?_
      rintro x rfl
      have hcode : e2 = 0 ∨ 3 ≤ e2 := bringF_code h2
      refine ⟨fun g6 => go 300 ?_, fun g6 => go 300 ?_⟩
      · have g6 := ne_of' g6
        rw [decide_eq_false g6] at h
        simp only [Bool.not_false, cond_true, Option.some.injEq] at h
        exact ⟨trivial, rfl, rfl, rfl, bothZ' (by have g7 : e2 ≠ 0 := g6; rw [maxI (e := (z, w, e2).2.2) (by show 3 ≤ e2; omega)]; exact h.symm)⟩
      have g6 := eq_of' g6
      subst g6
      simp only [decide_true, Bool.not_true, cond_false] at h
      have i1 := (bringF_inv prior n _ _ _ _ h1).s
      have i2 := (bringF_inv prior n _ _ _ _ h2).s
      simp only [List.length_cons, List.length_nil] at i1 i2 hlen
      show CallThen _ _ _ _ _ _
      refine call_pure (w_joined y1 w (by omega)) rfl ?_
      rintro x rfl
      show CallThen _ _ _ _ _ _
      refine call_pure (w_ref13much z (y1 ++ w)) rfl ?_
      rintro x rfl
      refine ⟨fun g7 => go 300 ?_, fun g7 => go 300 ?_⟩
      · rw [g7] at h
        simp only [cond_true, Option.some.injEq] at h
        exact ⟨trivial, rfl, rfl, rfl, bothZ' h.symm⟩
      rw [g7] at h
      simp only [cond_false, Option.some.injEq] at h
      show CallThen _ _ _ _ _ _
      refine call_pure (w_joined y1 w (by omega)) rfl ?_
      rintro x rfl
      exact ⟨trivial, rfl, rfl, rfl, BothV (z, y1 ++ w, 0), Wk.refl _, rfl, by rw [h]⟩
theorem listsX_err {prior : Bool} {xs ys : List OpT} (h : (listsX prior xs ys).2.2 ≠ 0) : listsX prior xs ys = ([], [], (listsX prior xs ys).2.2) := by
  obtain ⟨n, hb⟩ := bringX_spec prior xs ys
  unfold listsX at h ⊢
  obtain ⟨⟨x, y, e⟩, hr⟩ : ∃ r, bringX prior xs ys = r := ⟨_, rfl⟩
  rw [hr] at h hb ⊢
  obtain ⟨h1, h2⟩ := bringF_err hb h
  simp only [h1, h2]
  rfl
set_option maxRecDepth 100000 in
theorem w_ref13Both (xs ys : List OpT) (prior : Bool) (ox : OkL xs) (oy : OkL ys) (hl : xs.length + ys.length ≤ 1000000) : Pure Try.prog 26 [opsV xs, opsV ys, .bool prior] (fun x => x = BothV (listsX prior xs ys)) := by
  obtain ⟨n, h⟩ := bringX_spec prior xs ys
  have cb := w_ref13both prior n xs ys _ h ox oy
  have hi := bringX_inv prior xs ys
  obtain ⟨o1, o2⟩ := bringX_okL (prior := prior) ox oy
  have herr := listsX_err (prior := prior) (xs := xs) (ys := ys)
  have e0 : (listsX prior xs ys).2.2 = (bringX prior xs ys).2.2 := rfl
  refine pure_wk (pure_fn 300 Try.func26 rfl rfl rfl fun B => ?_)
  show CallThen _ _ _ _ _ _
  refine call_pure cb rfl ?_
  rintro x rfl
  refine ⟨fun g1 => go 300 ?_, fun g1 => go 300 ?_⟩
  · have g1 := ne_of' g1
    refine ⟨trivial, rfl, rfl, rfl, bothZ' ?_⟩
    rw [herr (by rw [e0]; exact g1), e0]
  show CallThen _ _ _ _ _ _
  refine call_pure (w_ref13bare _ (by omega) (fun o ho => (o1 o ho).1.lt)) rfl ?_
  rintro x rfl
  show CallThen _ _ _ _ _ _
  refine call_pure (w_ref13bare _ (by omega) (fun o ho => (o2 o ho).1.lt)) rfl ?_
  rintro x rfl
  have g1 := eq_of' g1
  refine ⟨trivial, rfl, rfl, rfl, BothV (listsX prior xs ys), Wk.of_eq ?_, rfl, rfl⟩
  unfold BothV
  rw [e0, g1]
  rfl
end Bow
/- SP33: lists, both sides named the other way round; bare ones; in plain Lean. -/
namespace Bow
open Go

section
variable {prior : Bool}
theorem Br.cons2 {a b b' : OpT} {ys x1 y1 Z w : List OpT} (h1 : Br prior [a] [b] x1 y1) (h2 : Br prior x1 (b' :: ys) Z w) (m1 : muchP [a] (b :: b' :: ys) = false) (m2 : muchP Z (y1 ++ w) = false) : Br prior [a] (b :: b' :: ys) Z (y1 ++ w) := by
  obtain ⟨n1, h1⟩ := h1
  obtain ⟨n2, h2⟩ := h2
  refine ⟨max n1 n2 + 1, ?_⟩
  rw [bringF_succ]
  unfold bringS
  rw [m1, cond_false]
  simp only
  rw [bringF_le h1 (Nat.le_max_left _ _)]
  simp only [decide_true, Bool.not_true, cond_false]
  rw [bringF_le h2 (Nat.le_max_right _ _)]
  simp only [decide_true, Bool.not_true, cond_false]
  rw [m2]
  rfl
theorem Br.sum {xs ys x y : List OpT} (h : Br prior xs ys x y) : x.length + y.length ≤ xs.length + ys.length := by
  obtain ⟨n, h⟩ := h
  exact (bringF_inv prior n _ _ _ _ h).s
theorem muchP_of {x y : List OpT} (h : x.length + y.length ≤ 4096) : muchP x y = false := muchP_iff.2 ⟨by omega, by omega⟩
/-- By one list, and then by another one: so by both in one. -/
theorem Br.join : ∀ (n : Nat) {cs us vs x p y q : List OpT}, cs.length + us.length + vs.length ≤ 4096 → bringF prior n cs us = some (x, p, 0) → Br prior x vs y q → Br prior cs (us ++ vs) y (p ++ q)
  | 0, _, _, _, _, _, _, _, _, h, _ => by cases h
  | n + 1, [], us, vs, x, p, y, q, hl, h1, h2 => by
    obtain ⟨rfl, rfl⟩ := Br.nil_inv ⟨_, h1⟩
    obtain ⟨rfl, rfl⟩ := h2.nil_inv
    exact Br.nil (muchP_of (by simp at hl ⊢; omega))
  | n + 1, c :: cs, [], vs, x, p, y, q, hl, h1, h2 => by
    obtain ⟨rfl, rfl⟩ := Br.nil2_inv ⟨_, h1⟩
    exact h2
  | n + 1, c :: c' :: cs, u :: us, vs, x, p, y, q, hl, h1, h2 => by
    obtain ⟨x1, y1, x2, k1, k2, rfl, _⟩ := bringF_cons h1
    obtain ⟨s, b1, t, q1, q2, rfl⟩ := h2.split
    have l1 := Br.sum ⟨n, k1⟩
    have l2 := q1.sum
    have l3 := Br.sum ⟨n, k2⟩
    have l4 := q2.sum
    simp only [List.length_cons, List.length_nil] at hl l1 l2 l3 l4
    have j1 := Br.join n (cs := [c]) (us := u :: us) (vs := vs) (by simp only [List.length_cons, List.length_nil]; omega) k1 q1
    have j2 := Br.join n (cs := c' :: cs) (us := y1) (vs := b1) (by simp only [List.length_cons]; omega) k2 q2
    exact Br.cons j1 j2 (muchP_of (x := c :: c' :: cs) (y := u :: (us ++ vs)) (by simp only [List.length_cons, List.length_append]; omega)) (muchP_of (by simp only [List.length_append]; omega))
  | n + 1, [c], [u], [], x, p, y, q, hl, h1, h2 => by
    obtain ⟨rfl, rfl⟩ := h2.nil2_inv
    rw [List.append_nil, List.append_nil]
    exact ⟨_, h1⟩
  | n + 1, [c], [u], v :: vs, x, p, y, q, hl, h1, h2 => by
    have l1 := Br.sum ⟨_, h1⟩
    have l2 := h2.sum
    simp only [List.length_cons, List.length_nil] at hl l1 l2
    exact Br.cons2 ⟨_, h1⟩ h2 (muchP_of (by simp only [List.length_cons, List.length_nil]; omega)) (muchP_of (by simp only [List.length_append]; omega))
  | n + 1, [c], u :: u' :: us, vs, x, p, y, q, hl, h1, h2 => by
    obtain ⟨x1, y1, w, g1, g2, rfl, _⟩ := bringF_cons2 h1
    have l1 := Br.sum ⟨_, g1⟩
    have l2 := Br.sum ⟨_, g2⟩
    have l3 := h2.sum
    simp only [List.length_cons, List.length_nil] at hl l1 l2 l3
    have j := Br.join n (cs := x1) (us := u' :: us) (vs := vs) (by simp only [List.length_cons]; omega) g2 h2
    have := Br.cons2 ⟨_, g1⟩ j (muchP_of (x := [c]) (y := u :: u' :: (us ++ vs)) (by simp only [List.length_cons, List.length_nil, List.length_append]; omega)) (muchP_of (by simp only [List.length_append]; omega))
    rw [List.append_assoc]
    exact this
theorem both_turn0 (a b : OpT) (prior : Bool) : bothX b a (!prior) = ((bothX a b prior).2.1, (bothX a b prior).1, (bothX b a (!prior)).2.2) ∧ (decide ((bothX a b prior).2.2 = 0) = decide ((bothX b a (!prior)).2.2 = 0)) := by
  unfold bothX
  rw [Bool.not_not]
  by_cases h1 : (behindX a b prior).2 = 0 <;> by_cases h2 : (behindX b a (!prior)).2 = 0 <;> simp [h1, h2]
theorem Br.one_turn {a b : OpT} {x y : List OpT} (h : Br prior [a] [b] x y) : Br (!prior) [b] [a] y x := by
  obtain ⟨n, h⟩ := h
  cases n with
  | zero => cases h
  | succ n =>
    have e : bringF prior (n + 1) [a] [b] = some (bothX a b prior) := rfl
    rw [e] at h
    injection h with h
    refine ⟨1, ?_⟩
    have e' : bringF (!prior) 1 [b] [a] = some (bothX b a (!prior)) := rfl
    rw [e']
    obtain ⟨t1, t2⟩ := both_turn0 a b prior
    rw [t1]
    rw [h] at t2 ⊢
    simp only [decide_true] at t2
    have := of_decide_eq_true t2.symm
    rw [this]
/-- Both sides, the other way round. -/
theorem Br.turn : ∀ (n : Nat) {xs ys x y : List OpT}, xs.length + ys.length ≤ 4096 → bringF prior n xs ys = some (x, y, 0) → Br (!prior) ys xs y x
  | 0, _, _, _, _, _, h => by cases h
  | n + 1, [], ys, x, y, hl, h => by
    obtain ⟨rfl, rfl⟩ := Br.nil_inv ⟨_, h⟩
    exact Br.nil2 (muchP_of (by simp at hl ⊢; omega))
  | n + 1, a :: xs, [], x, y, hl, h => by
    obtain ⟨rfl, rfl⟩ := Br.nil2_inv ⟨_, h⟩
    exact Br.nil (muchP_of (by simp at hl ⊢; omega))
  | n + 1, [a], [b], x, y, hl, h => Br.one_turn ⟨_, h⟩
  | n + 1, a :: a' :: xs, b :: ys, x, y, hl, h => by
    obtain ⟨x1, y1, z, h1, h2, rfl, _⟩ := bringF_cons h
    have l1 := Br.sum ⟨_, h1⟩
    have l2 := Br.sum ⟨_, h2⟩
    simp only [List.length_cons, List.length_nil] at hl l1 l2
    have t1 := Br.turn n (by simp only [List.length_cons, List.length_nil]; omega) h1
    have t2 := Br.turn n (by simp only [List.length_cons]; omega) h2
    obtain ⟨m, t1⟩ := t1
    exact Br.join m (cs := b :: ys) (us := [a]) (vs := a' :: xs) (by simp only [List.length_cons, List.length_nil]; omega) t1 t2
  | n + 1, [a], b :: b' :: ys, x, y, hl, h => by
    obtain ⟨x1, y1, w, h1, h2, rfl, _⟩ := bringF_cons2 h
    have l1 := Br.sum ⟨_, h1⟩
    have l2 := Br.sum ⟨_, h2⟩
    simp only [List.length_cons, List.length_nil] at hl l1 l2
    have t2 := Br.turn n (by simp only [List.length_cons]; omega) h2
    exact Br.cons (Br.one_turn ⟨_, h1⟩) t2 (muchP_of (by simp only [List.length_cons, List.length_nil]; omega)) (muchP_of (by simp only [List.length_append]; omega))
end

theorem bringX_turn {prior : Bool} {xs ys x y : List OpT} (hl : xs.length + ys.length ≤ 4096) (h : bringX prior xs ys = (x, y, 0)) : bringX (!prior) ys xs = (y, x, 0) := by
  obtain ⟨n, hn⟩ := bringX_spec prior xs ys
  rw [h] at hn
  obtain ⟨m, hm⟩ := Br.turn n hl hn
  exact bringX_eq hm
theorem listsX_turn {prior : Bool} {xs ys : List OpT} (hl : xs.length + ys.length ≤ 4096) :
    decide ((listsX (!prior) ys xs).2.2 = 0) = decide ((listsX prior xs ys).2.2 = 0) ∧ ((listsX prior xs ys).2.2 = 0 → (listsX (!prior) ys xs).1 = (listsX prior xs ys).2.1) := by
  have key : ∀ (p : Bool) (us vs : List OpT), us.length + vs.length ≤ 4096 → (listsX p us vs).2.2 = 0 → (listsX (!p) vs us).2.2 = 0 ∧ (listsX (!p) vs us).1 = (listsX p us vs).2.1 := fun p us vs hl h => by
    obtain ⟨⟨x, y, e⟩, hr⟩ : ∃ r, bringX p us vs = r := ⟨_, rfl⟩
    have he : e = 0 := by
      unfold listsX at h
      rw [hr] at h
      exact h
    subst he
    have ht := bringX_turn hl hr
    unfold listsX
    rw [ht, hr]
    exact ⟨rfl, rfl⟩
  refine ⟨decide_eq_decide.2 ⟨fun h => ?_, fun h => (key prior xs ys hl h).1⟩, fun h => (key prior xs ys hl h).2⟩
  have := (key (!prior) ys xs (by omega) h).1
  rwa [Bool.not_not] at this
theorem listsX_bare (prior : Bool) (xs ys : List OpT) : listsX prior (bareL xs) ys = listsX prior xs ys := by
  obtain ⟨n, h⟩ := bringX_spec prior xs ys
  obtain ⟨r', h', q1, q2, q3⟩ := bringF_same prior n xs ys (bareL xs) ys _ (bareL_same xs) rfl h
  have e := bringX_eq h'
  unfold listsX
  rw [e]
  have b : ∀ l : List OpT, bareL l = l.map bareO := fun l => rfl
  rw [b, b, b, b, q1, q2, q3]
end Bow
/- W80: the law ListsBoth, walked. -/
namespace Bow
open Go Go.Proofs

set_option maxRecDepth 100000 in
theorem w_listsBehind (xs ys : List OpT) (prior : Bool) (ox : OkL xs) (oy : OkL ys) (hl : xs.length + ys.length ≤ 1000000) : Pure Try.prog 27 [opsV xs, opsV ys, .bool prior] (fun x => x = .tup [opsV (listsX prior xs ys).1, .int .i64 (listsX prior xs ys).2.2]) := by
  have h := w_listsBoth xs ys prior ox oy hl
  obtain ⟨R, hR⟩ : ∃ R, listsX prior xs ys = R := ⟨_, rfl⟩
  rw [hR] at h ⊢
  refine pure_fn 60 Try.func27 rfl rfl rfl fun B => ?_
  show CallThen _ _ _ _ _ _
  refine call_pure h rfl ?_
  rintro x rfl
  exact ⟨trivial, rfl, rfl, rfl, rfl⟩
theorem sameL_bare : ∀ l : List OpT, sameL (bareL l) l = true
  | [] => rfl
  | o :: l => by
    have : bareL (o :: l) = bareO o :: bareL l := rfl
    rw [this, sameL, sameO_bare, sameL_bare l]
    rfl

theorem shp_one {B B' : Base} {r g sz : Nat} {xs xs' : List V} (hr : B r = some (.vec g sz xs)) (h1 : B' r = some (.vec g sz xs')) (hl : xs'.length = xs.length) (hq : ∀ q, q ≠ r → B' q = B q) : ShpEq B B' :=
  (shp_step (m := [r]) (ShpEq.refl _) (fun _ _ => rfl) hr (by simp) h1 hl hq).1
theorem ext_one {B Bc B' : Base} {r : Nat} (h : Ext B Bc) (hn : B r = none) (hq : ∀ q, q ≠ r → B' q = Bc q) : Ext B B' := fun q o e => by
  rw [hq q (fun hm => by rw [hm, hn] at e; cases e)]
  exact h q o e
set_option maxHeartbeats 8000000 in
set_option maxRecDepth 100000 in
theorem w_ListsBoth (us vs : List OpT) (prior : Bool) (_h1 : us.length ≤ maxLen) (_h2 : vs.length ≤ maxLen) : Pure Try.prog 7 [opsV us, opsV vs, .bool prior] (fun v => v = .bool true) := by
  have hw := w_works13
  refine pure_of_funN (funN_of_goes 60 Try.func7 rfl rfl rfl fun B => ?_) rfl
  show CallThen _ _ _ _ _ _
  refine call_pure (w_few us 6 (by decide)) rfl ?_
  rintro v ⟨b1, rfl, h1⟩
  refine ⟨fun g1 => go 60 ?_, fun g1 => go 60 ?_⟩
  · show CallThen _ _ _ _ _ _
    refine call_pure hw rfl ?_
    rintro v rfl
    exact ⟨trivial, rfl, Ext.refl _, rfl, leaf_b rfl⟩
  have h1 := h1 (by simpa using g1)
  show CallThen _ _ _ _ _ _
  refine call_pure (w_few vs 6 (by decide)) rfl ?_
  rintro v ⟨b2, rfl, h2⟩
  refine ⟨fun g2 => go 60 ?_, fun g2 => go 60 ?_⟩
  · show CallThen _ _ _ _ _ _
    refine call_pure hw rfl ?_
    rintro v rfl
    exact ⟨trivial, rfl, Ext.refl _, rfl, leaf_b rfl⟩
  have h2 := h2 (by simpa using g2)
  have l1 := h1.len
  have l2 := h2.len
  have o1 := lightL_ok h1
  have o2 := lightL_ok h2
  have ob : OkL (bareL us) := bareL_okL o1
  have lb : (bareL us).length = us.length := bareL_len us
  have c1 := w_listsBothN (bareL us) vs prior ob o2 (by omega)
  rw [listsX_bare] at c1
  have c2 := w_ref13Both us vs prior o1 o2 (by omega)
  have c3 := w_listsBehind vs us (!prior) o2 o1 (by omega)
  have i1 := bringX_inv prior us vs
  have i2 := bringX_inv (!prior) vs us
  have k1 := bringX_okL (prior := prior) o1 o2
  have k2 := bringX_okL (prior := !prior) o2 o1
  obtain ⟨t1, t2⟩ := listsX_turn (prior := prior) (xs := us) (ys := vs) (by omega)
  have er := @listsX_err prior us vs
  have es := @listsX_err (!prior) vs us
  have ox : OkL (listsX prior us vs).1 := bareL_okL k1.1
  have oy : OkL (listsX prior us vs).2.1 := bareL_okL k1.2
  have oz : OkL (listsX (!prior) vs us).1 := bareL_okL k2.1
  have lx : (listsX prior us vs).1.length + (listsX prior us vs).2.1.length ≤ 12 := by
    show (bareL _).length + (bareL _).length ≤ 12
    rw [bareL_len, bareL_len]; omega
  have lz : (listsX (!prior) vs us).1.length ≤ 12 := by
    show (bareL _).length ≤ 12
    rw [bareL_len]; omega
  obtain ⟨⟨x, y, e⟩, r1⟩ : ∃ r, listsX prior us vs = r := ⟨_, rfl⟩
  obtain ⟨⟨b, b', g⟩, r2⟩ : ∃ r, listsX (!prior) vs us = r := ⟨_, rfl⟩
  rw [r1] at c1 c2 t1 t2 er ox oy lx
  rw [r2] at c3 t1 t2 es oz lz
  simp only at t1 t2 er es ox oy oz lx lz
  have c4 := w_same13 x x (by omega) (fun o ho => (ox o ho).1.lt) (fun o ho => (ox o ho).1.lt)
  have c5 := w_same13 y y (by omega) (fun o ho => (oy o ho).1.lt) (fun o ho => (oy o ho).1.lt)
  rw [sameL_refl] at c4 c5
  have hby : b = y := by
    by_cases he : e = 0
    · exact t2 he
    · have hg : g ≠ 0 := fun h => he (by subst h; simpa using t1)
      have q1 := er he
      have q2 := es hg
      simp only [Prod.mk.injEq] at q1 q2
      rw [q1.2.1, q2.1]
  subst hby
  have c7 := w_same13 (bareL us) us (by omega) (fun o ho => (ob o ho).1.lt) (fun o ho => (o1 o ho).1.lt)
  rw [sameL_bare] at c7
  have lt1 : ∀ o ∈ us, o.Lt 1000000 := fun o ho => (o1 o ho).1.lt
  have ltx : ∀ o ∈ x, o.Lt 1000000 := fun o ho => (ox o ho).1.lt
  clear r1 r2 i1 i2 k1 k2 o1 o2 ob ox oy oz t2 es h1 h2 lb
  show Goes _ _ _ _
  refine goes_own 7 11 rfl ?_
  refine goes_iter (ι := Nat × Nat × List OpT) (fun i => i.1 ≤ us.length ∧ i.2.2 = bareL (us.take i.1)) (fun i => us.length - i.1) (fun i => [(8, .int .i64 i.1), (7, .osl (.loc 0) i.2.1 0 i.1), (6, .ff), (2, .bool prior), (1, opsV vs), (0, opsV us)]) (fun i => [some (.vec i.2.1 11 (i.2.2.map opV))]) (0, 0, []) 60 (fun _ => rfl) (fun _ => rfl) ⟨⟨Nat.zero_le _, rfl⟩, ⟨⟨rfl, rfl⟩, ⟨rfl, rfl⟩, ⟨rfl, rfl⟩, ⟨rfl, rfl⟩, ⟨rfl, rfl⟩, ⟨rfl, rfl⟩, trivial⟩, ⟨⟨rfl, rfl⟩, trivial⟩⟩ ?_
  rintro ⟨i, G, L⟩ ⟨k1, k2⟩ next
  simp only at k1 k2
  have hbl : L.length = i := by rw [k2]; simp [bareL]; omega
  refine ⟨fun hlt => go 60 ?_, fun hge => ?_⟩
  · have hi : i < us.length := by simpa using hlt
    refine ⟨Int.natCast_nonneg i, _, op_at hi, ?_⟩
    show CallThen _ _ _ _ _ _
    refine call_pure (w_refBare us[i] (lt1 _ (List.getElem_mem hi))) rfl ?_
    rintro v rfl
    refine ⟨⟨rfl, trivial⟩, rfl, rfl, rfl, (by rw [List.length_map]; exact hbl.symm), Nat.le_trans (Nat.mul_le_mul_right _ (show _ ≤ 1000001 by rw [List.length_map, hbl]; simp only [List.length_cons, List.length_nil]; omega)) (by decide), ?_⟩
    refine ⟨by constructor <;> omega, ?_⟩
    show Goes _ _ _ _
    refine next (i + 1, bump G, L ++ [bareO us[i]]) _ _ ⟨⟨hi, ?_⟩, by simp only; omega, ⟨⟨rfl, rfl⟩, ⟨?_, rfl⟩, ⟨rfl, rfl⟩, ⟨rfl, rfl⟩, ⟨rfl, rfl⟩, ⟨rfl, rfl⟩, trivial⟩, ⟨⟨?_, rfl⟩, trivial⟩⟩
    · rw [List.take_succ_eq_append_getElem hi, k2]
      simp only [bareL, List.map_append, List.map_cons, List.map_nil]
    · simp only [lk]
      exact congrArg (V.osl _ _ _) (by rw [List.length_map, hbl]; rfl)
    · exact congrArg (fun z => some (HObj.vec (bump G) 11 z)) (by rw [List.map_append]; rfl)
  clear next
  have hi : i = us.length := by have : us.length ≤ i := by simpa using hge
                                omega
  have hLL : L = bareL us := by rw [k2, hi, List.take_length]
  rw [← hLL] at c1 c7
  refine goes_fzSlot 7 0 rfl rfl (by rw [List.length_map, hbl]) ?_
  show Goes _ _ _ _
  refine go 60 ?_
  clear hLL k2 hbl hge k1
  show CallThen _ _ _ _ _ _
  refine call_funN c1 rfl ?_
  rintro v N ⟨zs, ws, z1, u1, rfl, z2, u2⟩ _ hN
  have nz : ∀ z ∈ zs, NewNs B z.1 := fun z hz => (z2 z hz).fresh hN
  have z2 := z2.add hN
  have u2 := u2.add hN
  have hE := Ext.add B N
  simp only at z1 u1
  clear c1 hN
  generalize Base.add B N = B1 at z2 u2 hE ⊢
  show CallThen _ _ _ _ _ _
  refine call_pure c2 rfl ?_
  rintro v rfl
  refine ⟨fun q => absurd rfl (ne_of' q), fun _ => go 60 ?_⟩
  show CallThen _ _ _ _ _ _
  refine call_flatN c4 ⟨fz_opsE z2 z1, .wk (.refl _), trivial⟩ rfl rfl rfl rfl ?_
  refine ⟨fun q => (by cases q), fun _ => go 60 ?_⟩
  show CallThen _ _ _ _ _ _
  refine call_flatN c5 ⟨fz_opsE u2 u1, .wk (.refl _), trivial⟩ rfl rfl rfl rfl ?_
  refine ⟨fun q => (by cases q), fun _ => go 60 ?_⟩
  show CallThen _ _ _ _ _ _
  refine call_pure c3 rfl ?_
  rintro v rfl
  have lz' : ∀ z ∈ zs, z.2.Lt 1000000 := fun z hz => ltx z.2 (by rw [← z1]; exact List.mem_map.2 ⟨z, hz, rfl⟩)
  have hzl : zs.length = x.length := by rw [← z1]; simp
  have hx0 : e ≠ 0 → zs.length = 0 := fun h => by
    have := er h
    simp only [Prod.mk.injEq] at this
    rw [hzl, this.1]
    rfl
  clear c2 c3 c4 u2 u1 z1 er
  refine ⟨fun q1 => go 60 ?_, fun q1 => go 60 ?_⟩
  · have q1 : g ≠ e := ne_of' q1
    have hne : g ≠ 0 := fun h => q1 (by
      subst h
      have : e = 0 := by simpa using t1.symm
      exact this.symm)
    have hne' : e ≠ 0 := fun h => hne (by subst h; simpa using t1)
    have hz0 := hx0 hne'
    refine ⟨fun q => absurd (of_decide_eq_true q) hne, fun _ => go 60 ?_⟩
    refine ⟨fun q => absurd (of_decide_eq_true q) hne', fun _ => go 60 ?_⟩
    show CallThen _ _ _ _ _ _
    refine call_pure c5 rfl ?_
    rintro v rfl
    refine ⟨fun q => (by cases q), fun _ => go 60 ?_⟩
    show Goes _ _ _ _
    refine goes_loop ?_
    refine go 60 ?_
    refine ⟨fun hlt => absurd (lt_of hlt) (by rw [List.length_map, hz0]; decide), fun hge => go 60 ?_⟩
    show CallThen _ _ _ _ _ _
    refine call_pure c7 rfl ?_
    rintro v rfl
    refine ⟨fun _ => go 60 ?_, fun q => (by cases q)⟩
    show CallThen _ _ _ _ _ _
    refine call_pure hw rfl ?_
    rintro v rfl
    exact ⟨trivial, rfl, hE, rfl, leaf_b rfl⟩
  show CallThen _ _ _ _ _ _
  refine call_pure c5 rfl ?_
  rintro v rfl
  refine ⟨fun q => (by cases q), fun _ => go 60 ?_⟩
  clear c5 q1 t1 hx0
  show Goes _ _ _ _
  refine goes_iterB (ι := Nat) (fun i B' => i ≤ zs.length ∧ Ext B B' ∧ AllShp B' zs) (fun i => zs.length - i) (fun i => [(17, .int .i64 i), (9, opsNV zs), (7, opsV L), (0, opsV us)]) (fun _ => []) 0 60 (fun _ => rfl) (fun _ => rfl) ⟨⟨Nat.zero_le _, hE, z2.allShp⟩, ⟨⟨rfl, rfl⟩, ⟨rfl, rfl⟩, ⟨rfl, rfl⟩, ⟨rfl, rfl⟩, trivial⟩, trivial⟩ ?_
  clear hE z2
  rintro i Bc ⟨k1, kE, k2⟩ next
  refine ⟨fun hlt => go 60 ?_, fun hge => go 60 ?_⟩
  · have hi : i < zs.length := by simpa using hlt
    have hx : (zs.map nV)[((i : Nat) : Int).toNat]? = some (opN zs[i].1 zs[i].2) := by simp [hi, nV]
    have hlo := lz' _ (List.getElem_mem hi)
    have hnew := nz _ (List.getElem_mem hi)
    have bp : (zs[i].2.path.map intV).length ≤ 1000000 := by rw [List.length_map]; exact hlo.path
    have bq : (zs[i].2.pieces.map pieceV).length ≤ 1000000 := by rw [List.length_map]; exact hlo.pieces
    show Goes _ _ _ _
    refine goes_iterB (ι := Nat) (fun j B' => j ≤ (zs[i].2.path.map intV).length ∧ Ext B B' ∧ AllShp B' zs) (fun j => (zs[i].2.path.map intV).length - j) (fun j => [(18, .int .i64 j), (17, .int .i64 i), (9, opsNV zs), (7, opsV L), (0, opsV us)]) (fun _ => []) 0 60 (fun _ => rfl) (fun _ => rfl) ⟨⟨Nat.zero_le _, kE, k2⟩, ⟨⟨rfl, rfl⟩, ⟨rfl, rfl⟩, ⟨rfl, rfl⟩, ⟨rfl, rfl⟩, ⟨rfl, rfl⟩, trivial⟩, trivial⟩ ?_
    clear kE k2
    rintro j Bd ⟨m1, mE, m2⟩ next1
    refine Exists.elim (m2 zs[i] (List.getElem_mem hi)).path fun xs hxs => ?_
    have h1 := hxs.1
    have e1 := hxs.2
    refine ⟨Int.natCast_nonneg i, _, hx, ?_⟩
    show Goes _ _ _ _
    refine goes_lenA 60 rfl rfl rfl rfl rfl (by simp) h1 ?_
    refine ⟨fun hlt => go 60 ?_, fun hge => go 60 ?_⟩
    · have hj : j < (zs[i].2.path.map intV).length := by have := lt_of hlt; omega
      refine ⟨Int.natCast_nonneg i, _, hx, ?_⟩
      show Goes _ _ _ _
      refine goes_indexA 60 rfl rfl rfl rfl rfl rfl rfl rfl (by simp) h1 (Int.natCast_nonneg j) (by omega) ?_
      show Goes _ _ _ _
      refine goes_storeA 60 rfl rfl rfl rfl rfl rfl (by simp) h1 (by rw [e1, Nat.zero_add]; exact hj) (Nat.le_refl _) fun B' xs' hx' hr hq => ?_
      refine ⟨by constructor <;> omega, ?_⟩
      show Goes _ _ _ _
      exact next1 (j + 1) B' _ _ ⟨⟨hj, ext_one mE (hnew _ (by simp)) hq, m2.to' (shp_one h1 hr hx' hq)⟩, by omega, ⟨⟨rfl, rfl⟩, ⟨rfl, rfl⟩, ⟨rfl, rfl⟩, ⟨rfl, rfl⟩, ⟨rfl, rfl⟩, trivial⟩, trivial⟩
    clear next1 h1 e1 hxs xs m1 hge
    show Goes _ _ _ _
    refine goes_iterB (ι := Nat) (fun j B' => j ≤ (zs[i].2.pieces.map pieceV).length ∧ Ext B B' ∧ AllShp B' zs) (fun j => (zs[i].2.pieces.map pieceV).length - j) (fun j => [(19, .int .i64 j), (17, .int .i64 i), (9, opsNV zs), (7, opsV L), (0, opsV us)]) (fun _ => []) 0 60 (fun _ => rfl) (fun _ => rfl) ⟨⟨Nat.zero_le _, mE, m2⟩, ⟨⟨rfl, rfl⟩, ⟨rfl, rfl⟩, ⟨rfl, rfl⟩, ⟨rfl, rfl⟩, ⟨rfl, rfl⟩, trivial⟩, trivial⟩ ?_
    clear mE m2
    rintro j Be ⟨m1, mE, m2⟩ next1
    refine Exists.elim (m2 zs[i] (List.getElem_mem hi)).pieces fun xs hxs => ?_
    have h1 := hxs.1
    have e1 := hxs.2
    refine ⟨Int.natCast_nonneg i, _, hx, ?_⟩
    show Goes _ _ _ _
    refine goes_lenA 60 rfl rfl rfl rfl rfl (by simp) h1 ?_
    refine ⟨fun hlt => go 60 ?_, fun hge => go 60 ?_⟩
    · have hj : j < (zs[i].2.pieces.map pieceV).length := by have := lt_of hlt; omega
      refine ⟨Int.natCast_nonneg i, _, hx, ?_⟩
      show Goes _ _ _ _
      refine goes_indexA 60 rfl rfl rfl rfl rfl rfl rfl rfl (by simp) h1 (Int.natCast_nonneg j) (by omega) ?_
      show Goes _ _ _ _
      refine goes_fieldA 60 rfl rfl rfl rfl rfl rfl rfl rfl (by simp) h1 ?_
      show Goes _ _ _ _
      refine goes_storeA 60 rfl rfl rfl rfl rfl rfl (by simp) h1 (by rw [e1, Nat.zero_add]; exact hj) (by decide) fun B' xs' hx' hr hq => ?_
      refine ⟨by constructor <;> omega, ?_⟩
      show Goes _ _ _ _
      exact next1 (j + 1) B' _ _ ⟨⟨hj, ext_one mE (hnew _ (by simp)) hq, m2.to' (shp_one h1 hr hx' hq)⟩, by omega, ⟨⟨rfl, rfl⟩, ⟨rfl, rfl⟩, ⟨rfl, rfl⟩, ⟨rfl, rfl⟩, ⟨rfl, rfl⟩, trivial⟩, trivial⟩
    clear next1 h1 e1 hxs xs m1 hge
    refine ⟨by constructor <;> omega, ?_⟩
    show Goes _ _ _ _
    exact next (i + 1) Be _ _ ⟨⟨hi, mE, m2⟩, by omega, ⟨⟨rfl, rfl⟩, ⟨rfl, rfl⟩, ⟨rfl, rfl⟩, ⟨rfl, rfl⟩, trivial⟩, trivial⟩
  clear next
  show CallThen _ _ _ _ _ _
  refine call_pure c7 rfl ?_
  rintro v rfl
  refine ⟨fun _ => go 60 ?_, fun q => (by cases q)⟩
  show CallThen _ _ _ _ _ _
  refine call_pure hw rfl ?_
  rintro v rfl
  exact ⟨trivial, rfl, kE, rfl, leaf_b rfl⟩
end Bow
/- TD1: what is read as data at the program's types. -/
namespace Bow
open Go Go.Proofs

theorem take1 {vs : List V} {c : V} (h : vs.take 1 = [c]) : ∃ r, vs = c :: r ∧ vs.drop 1 = r := by
  cases vs with
  | nil => simp at h
  | cons x r => simp at h; subst h; exact ⟨r, rfl, rfl⟩

theorem map_exists {α β : Type} {f : α → V} {g : β → V} : ∀ {xs : List α}, (∀ x ∈ xs, ∃ y, f x = g y) → ∃ ys : List β, xs.map f = ys.map g
  | [], _ => ⟨[], rfl⟩
  | x :: xs, h => by
    obtain ⟨y, hy⟩ := h x List.mem_cons_self
    obtain ⟨ys, hys⟩ := map_exists (xs := xs) fun z hz => h z (List.mem_cons_of_mem _ hz)
    exact ⟨y :: ys, by simp [hy, hys]⟩

theorem vt_str {n : Nat} {vs : List V} (h : VT Try.prog n 9 vs) : ∃ s, vs = [.str s] := by
  cases n with
  | zero => exact h.elim
  | succ n =>
    obtain ⟨s, e, _⟩ : ∃ s : List UInt8, vs = [.str s] ∧ s.length ≤ maxLen := h
    exact ⟨s, e⟩
theorem vt_bool {n : Nat} {vs : List V} (h : VT Try.prog n 4 vs) : ∃ b, vs = [.bool b] := by
  cases n with
  | zero => exact h.elim
  | succ n => exact h
theorem vt_int {n : Nat} {vs : List V} (h : VT Try.prog n 3 vs) : ∃ i, vs = [.int .i64 i] ∧ (Lit.int .i64 i).wf = true := by
  cases n with
  | zero => exact h.elim
  | succ n => exact h
theorem vt_u64 {n : Nat} {vs : List V} (h : VT Try.prog n 23 vs) : ∃ i, vs = [.int .u64 i] := by
  cases n with
  | zero => exact h.elim
  | succ n =>
    obtain ⟨s, e, _⟩ : ∃ s : Int, vs = [.int .u64 s] ∧ (Lit.int .u64 s).wf = true := h
    exact ⟨s, e⟩
theorem vt_u8 {n : Nat} {vs : List V} (h : VT Try.prog n 5 vs) : ∃ i, vs = [.int .u8 i] := by
  cases n with
  | zero => exact h.elim
  | succ n =>
    obtain ⟨s, e, _⟩ : ∃ s : Int, vs = [.int .u8 s] ∧ (Lit.int .u8 s).wf = true := h
    exact ⟨s, e⟩
theorem rep_of_cells {w : World} {vs : List V} {cs : Array Value} (h : RowRep w β0 [] vs cs.toList) : Rep w β0 [] (.agg vs) (.agg cs) :=
  .agg vs cs (by simpa using h.1) fun j c v hj hv => h.2 j c v hj (by simpa using hv)

end Bow
/- TD2: operations that are read as data. -/
namespace Bow
open Go Go.Proofs

set_option maxRecDepth 100000 in
theorem vt_path {n : Nat} {vs : List V} (h : VT Try.prog n 22 vs) : ∃ l : List Int, vs = [pathV l] ∧ l.length ≤ maxLen ∧ ∀ i ∈ l, (Lit.int .i64 i).wf = true := by
  cases n with
  | zero => exact h.elim
  | succ n =>
    obtain ⟨xs, e, hl, hx⟩ : ∃ xs : List (List V), vs = [.sl 1 (xs.map (mkX Try.prog 3))] ∧ xs.length ≤ maxLen ∧ ∀ x ∈ xs, VT Try.prog n 3 x := h
    have key : ∀ xs : List (List V), (∀ x ∈ xs, VT Try.prog n 3 x) → ∃ l : List Int, xs.map (mkX Try.prog 3) = l.map intV ∧ ∀ i ∈ l, (Lit.int .i64 i).wf = true := by
      intro xs
      induction xs with
      | nil => intro _; exact ⟨[], rfl, by simp⟩
      | cons x xs ih =>
        intro hx
        obtain ⟨i, rfl, hw⟩ := vt_int (hx x List.mem_cons_self)
        obtain ⟨l, e, hl⟩ := ih fun z hz => hx z (List.mem_cons_of_mem _ hz)
        refine ⟨i :: l, by simp only [List.map_cons, e]; rfl, fun j hj => ?_⟩
        rcases List.mem_cons.1 hj with rfl | hj
        · exact hw
        · exact hl j hj
    obtain ⟨l, e1, e2⟩ := key xs hx
    refine ⟨l, by rw [e, e1]; rfl, ?_, e2⟩
    have := congrArg List.length e1
    simp at this
    omega
set_option maxRecDepth 100000 in
theorem vt_piece {n : Nat} {vs : List V} (h : VT Try.prog n 46 vs) : ∃ p, vs = (pieceV p).cells := by
  cases n with
  | zero => exact h.elim
  | succ n =>
    obtain ⟨h0, h1, h2, h3⟩ : VT Try.prog n 3 (vs.take 1) ∧ VT Try.prog n 3 ((vs.drop 1).take 1) ∧ VT Try.prog n 9 (((vs.drop 1).drop 1).take 1) ∧ ((vs.drop 1).drop 1).drop 1 = [] := h
    obtain ⟨a, e0, _⟩ := vt_int h0
    obtain ⟨b, e1, _⟩ := vt_int h1
    obtain ⟨s, e2⟩ := vt_str h2
    obtain ⟨r, rfl, d0⟩ := take1 e0
    rw [d0] at e1 e2 h3
    obtain ⟨r1, rfl, d1⟩ := take1 e1
    rw [d1] at e2 h3
    obtain ⟨r2, rfl, d2⟩ := take1 e2
    rw [d2] at h3
    subst h3
    exact ⟨⟨a, b, s⟩, rfl⟩
set_option maxRecDepth 100000 in
theorem vt_pieces {n : Nat} {vs : List V} (h : VT Try.prog n 24 vs) : ∃ l : List PieceT, vs = [piecesV l] := by
  cases n with
  | zero => exact h.elim
  | succ n =>
    obtain ⟨xs, e, _, hx⟩ : ∃ xs : List (List V), vs = [.sl 3 (xs.map (mkX Try.prog 46))] ∧ xs.length ≤ maxLen ∧ ∀ x ∈ xs, VT Try.prog n 46 x := h
    obtain ⟨l, hl⟩ := map_exists (f := mkX Try.prog 46) (g := pieceV) (xs := xs) fun x hm => by
      obtain ⟨a, rfl⟩ := vt_piece (hx x hm)
      exact ⟨a, rfl⟩
    exact ⟨l, by rw [e, hl]; rfl⟩

set_option maxRecDepth 100000 in
theorem vt_op {n : Nat} {vs : List V} (h : VT Try.prog n 26 vs) : ∃ o, vs = (opV o).cells := by
  cases n with
  | zero => exact h.elim
  | succ n =>
    obtain ⟨h0, h⟩ : VT Try.prog n 5 (vs.take 1) ∧ _ := h
    obtain ⟨a0, e0⟩ := vt_u8 h0
    obtain ⟨r, rfl, d0⟩ := take1 e0
    obtain ⟨h1, h⟩ : VT Try.prog n 22 (r.take 1) ∧ _ := h
    obtain ⟨a1, e1, _⟩ := vt_path h1
    obtain ⟨r, rfl, d0⟩ := take1 e1
    obtain ⟨h2, h⟩ : VT Try.prog n 3 (r.take 1) ∧ _ := h
    obtain ⟨a2, e2, _⟩ := vt_int h2
    obtain ⟨r, rfl, d0⟩ := take1 e2
    obtain ⟨h3, h⟩ : VT Try.prog n 22 (r.take 1) ∧ _ := h
    obtain ⟨a3, e3, _⟩ := vt_path h3
    obtain ⟨r, rfl, d0⟩ := take1 e3
    obtain ⟨h4, h⟩ : VT Try.prog n 23 (r.take 1) ∧ _ := h
    obtain ⟨a4, e4⟩ := vt_u64 h4
    obtain ⟨r, rfl, d0⟩ := take1 e4
    obtain ⟨h5, h⟩ : VT Try.prog n 4 (r.take 1) ∧ _ := h
    obtain ⟨a5, e5⟩ := vt_bool h5
    obtain ⟨r, rfl, d0⟩ := take1 e5
    obtain ⟨h6, h⟩ : VT Try.prog n 9 (r.take 1) ∧ _ := h
    obtain ⟨a6, e6⟩ := vt_str h6
    obtain ⟨r, rfl, d0⟩ := take1 e6
    obtain ⟨h7, h⟩ : VT Try.prog n 9 (r.take 1) ∧ _ := h
    obtain ⟨a7, e7⟩ := vt_str h7
    obtain ⟨r, rfl, d0⟩ := take1 e7
    obtain ⟨h8, h⟩ : VT Try.prog n 9 (r.take 1) ∧ _ := h
    obtain ⟨a8, e8⟩ := vt_str h8
    obtain ⟨r, rfl, d0⟩ := take1 e8
    obtain ⟨h9, h⟩ : VT Try.prog n 4 (r.take 1) ∧ _ := h
    obtain ⟨a9, e9⟩ := vt_bool h9
    obtain ⟨r, rfl, d0⟩ := take1 e9
    obtain ⟨h10, h⟩ : VT Try.prog n 24 (r.take 1) ∧ _ := h
    obtain ⟨a10, e10⟩ := vt_pieces h10
    obtain ⟨r, rfl, d0⟩ := take1 e10
    have h : r = [] := h
    subst h
    exact ⟨⟨a0, a1, a2, a3, a4, a5, a6, a7, a8, a9, a10⟩, rfl⟩
set_option maxRecDepth 100000 in
theorem vt_ops {n : Nat} {vs : List V} (h : VT Try.prog n 30 vs) : ∃ l : List OpT, vs = [.sl 11 (l.map opV)] ∧ l.length ≤ maxLen := by
  cases n with
  | zero => exact h.elim
  | succ n =>
    obtain ⟨xs, e, hl, hx⟩ : ∃ xs : List (List V), vs = [.sl 11 (xs.map (mkX Try.prog 26))] ∧ xs.length ≤ maxLen ∧ ∀ x ∈ xs, VT Try.prog n 26 x := h
    obtain ⟨l, e1⟩ := map_exists (f := mkX Try.prog 26) (g := opV) (xs := xs) fun x hm => by
      obtain ⟨a, rfl⟩ := vt_op (hx x hm)
      exact ⟨a, rfl⟩
    refine ⟨l, by rw [e, e1], ?_⟩
    have := congrArg List.length e1
    simp at this
    omega

set_option maxRecDepth 100000 in
/-- An operation that is handed over. -/
theorem op_arg {H : Type} {enc : TypeId × Value → H} {w : World} {r : Reach} {base b0 : Nat} {sp : Nat → Bool} {held : Bool} {v : Value} {d : DataW H} {p : List MemPlace} (ho : Value.okWide Try.prog w r b0 26 v) (h : DataW.Trod enc Try.prog w base sp held 26 v d p) :
    ∃ o : OpT, Rep w β0 [] (opV o) v := by
  obtain ⟨fuel, hf⟩ := h
  obtain ⟨cs, rfl, _, _⟩ : ∃ cs, v = .agg cs ∧ cs.size = Try.prog.cellsOf 26 ∧ Row.okWide Try.prog w r b0 26 cs := ho
  obtain ⟨vs, h1, _, h3⟩ := read_data (G := [26, 22, 24, 46, 3, 9, 23, 5, 4]) (by kernel_rfl) fuel _ _ _ (by kernel_rfl) hf
  obtain ⟨t, rfl⟩ := vt_op h3
  exact ⟨t, rep_of_cells h1⟩
set_option maxRecDepth 100000 in
/-- A list of operations that is handed over. -/
theorem ops_arg {H : Type} {enc : TypeId × Value → H} {w : World} {r : Reach} {base b0 : Nat} {sp : Nat → Bool} {held : Bool} {v : Value} {d : DataW H} {p : List MemPlace} (ho : Value.okWide Try.prog w r b0 30 v) (h : DataW.Trod enc Try.prog w base sp held 30 v d p) :
    ∃ l : List OpT, Rep w β0 [] (.sl 11 (l.map opV)) v ∧ l.length ≤ maxLen := by
  obtain ⟨a, len, cap, rfl⟩ := WideShapes.okWide_slice Try.underlying30 ho
  obtain ⟨fuel, hf⟩ := h
  obtain ⟨vs, h1, _, h3⟩ := read_data (G := [30, 26, 22, 24, 46, 3, 9, 23, 5, 4]) (by kernel_rfl) fuel _ _ _ (by kernel_rfl) hf
  obtain ⟨l, rfl, hl⟩ := vt_ops h3
  exact ⟨l, h1.2 0 _ _ rfl rfl, hl⟩
set_option maxRecDepth 100000 in
/-- A path that is handed over. -/
theorem path_arg {H : Type} {enc : TypeId × Value → H} {w : World} {r : Reach} {base b0 : Nat} {sp : Nat → Bool} {held : Bool} {v : Value} {d : DataW H} {p : List MemPlace} (ho : Value.okWide Try.prog w r b0 22 v) (h : DataW.Trod enc Try.prog w base sp held 22 v d p) :
    ∃ l : List Int, Rep w β0 [] (pathV l) v ∧ l.length ≤ maxLen ∧ ∀ i ∈ l, (Lit.int .i64 i).wf = true := by
  obtain ⟨a, len, cap, rfl⟩ := WideShapes.okWide_slice Try.underlying22 ho
  obtain ⟨fuel, hf⟩ := h
  obtain ⟨vs, h1, _, h3⟩ := read_data (G := [22, 3]) (by kernel_rfl) fuel _ _ _ (by kernel_rfl) hf
  obtain ⟨l, rfl, hl⟩ := vt_path h3
  exact ⟨l, h1.2 0 _ _ rfl rfl, hl⟩
end Bow
