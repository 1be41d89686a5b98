/- The library, part 6: W48, W61, W62, TD1, TD2. -/
import Derived.Test.YtcglpgfcjlafhaaMe
import Derived.Test.YtcglpgfcjlafhaaMc
import Derived.Test.YtcglpgfcjlafhaaMd
import Derived.Test.YtcglpgfcjlafhaaRows
import Derived.ChangeShapes
/- W48: operations that say the same. -/
namespace Bow
open Go Go.Proofs

set_option maxRecDepth 100000 in
theorem w_refSamePieces (xs ys : List PieceT) (hl : xs.length ≤ 1000000) : Pure Try.prog 50 [piecesV xs, piecesV ys] (fun x => x = .bool (decide (xs = ys))) := by
  refine pure_wk (pure_fn 300 Try.func50 rfl rfl rfl fun B => ?_)
  refine ⟨fun g1 => go 300 ?_, fun g1 => go 300 ?_⟩
  · have g1 := ne_of' g1
    exact ⟨trivial, rfl, rfl, rfl, leaf_ff (decide_eq_false fun e => g1 (by rw [e]))⟩
  have g1 : xs.length = ys.length := by have := eq_of' g1; simp at this; omega
  show Goes _ _ _ _
  refine goes_iter (ι := Nat) (fun i => i ≤ xs.length ∧ (xs.drop i = ys.drop i ↔ xs = ys)) (fun i => xs.length - i) (fun i => [(5, .int .i64 i), (0, piecesV xs), (1, piecesV ys)]) (fun _ => []) 0 300 (fun _ => rfl) (fun _ => rfl) ⟨⟨Nat.zero_le _, by simp⟩, ⟨⟨rfl, rfl⟩, ⟨rfl, rfl⟩, ⟨rfl, rfl⟩, trivial⟩, trivial⟩ ?_
  rintro i ⟨k1, k2⟩ next
  refine ⟨fun hlt => go 300 ?_, fun hge => go 300 ?_⟩
  · have hi : i < xs.length := by simpa using hlt
    have hi' : i < ys.length := by omega
    have hx : (xs.map pieceV)[i]? = some (pieceV xs[i]) := by simp [hi]
    have hy : (ys.map pieceV)[i]? = some (pieceV ys[i]) := by simp [hi']
    rw [attrs_take hi hi'] at k2
    show Goes _ _ _ _
    refine goes_draw 300 ⟨Int.natCast_nonneg i, _, hx, Int.natCast_nonneg i, _, hy, ?_⟩
    refine ⟨by kernel_rfl, ?_⟩
    refine ⟨by kernel_rfl, ?_⟩
    refine ⟨fun g2 => go 300 ?_, fun g2 => go 300 ?_⟩
    · refine ⟨trivial, rfl, rfl, rfl, leaf_ff (decide_eq_false fun e => ?_)⟩
      have := (k2.2 e).1
      rw [this] at g2
      simp at g2
    · refine ⟨by constructor <;> omega, ?_⟩
      have he : xs[i] = ys[i] := by
        simp at g2
        exact PieceT.ext g2.1 g2.2.1 g2.2.2
      exact next (i + 1) _ _ ⟨⟨hi, by rw [← k2]; exact ⟨fun h => ⟨he, h⟩, fun h => h.2⟩⟩, by omega, ⟨⟨rfl, rfl⟩, ⟨rfl, rfl⟩, ⟨rfl, rfl⟩, trivial⟩, trivial⟩
  · have hi : i = xs.length := by have : xs.length ≤ i := by simpa using hge
                                  omega
    subst hi
    refine ⟨trivial, rfl, rfl, rfl, leaf_tt (decide_eq_true (k2.1 ?_))⟩
    rw [List.drop_eq_nil_of_le (Nat.le_refl _), List.drop_eq_nil_of_le (by omega)]

set_option maxRecDepth 100000 in
theorem w_kitSamePieces (xs ys : List PieceT) (hl : xs.length ≤ 1000000) : Pure Try.prog 49 [piecesV xs, piecesV ys] (fun x => x = .bool (decide (xs = ys))) := by
  refine pure_wk (pure_fn 300 Try.func49 rfl rfl rfl fun B => ?_)
  refine ⟨fun g1 => go 300 ?_, fun g1 => go 300 ?_⟩
  · have g1 := ne_of' g1
    exact ⟨trivial, rfl, rfl, rfl, leaf_ff (decide_eq_false fun e => g1 (by rw [e]))⟩
  have g1 : xs.length = ys.length := by have := eq_of' g1; simp at this; omega
  show Goes _ _ _ _
  refine goes_iter (ι := Nat) (fun i => i ≤ xs.length ∧ (xs.drop i = ys.drop i ↔ xs = ys)) (fun i => xs.length - i) (fun i => [(5, .int .i64 i), (0, piecesV xs), (1, piecesV ys)]) (fun _ => []) 0 300 (fun _ => rfl) (fun _ => rfl) ⟨⟨Nat.zero_le _, by simp⟩, ⟨⟨rfl, rfl⟩, ⟨rfl, rfl⟩, ⟨rfl, rfl⟩, trivial⟩, trivial⟩ ?_
  rintro i ⟨k1, k2⟩ next
  refine ⟨fun hlt => go 300 ?_, fun hge => go 300 ?_⟩
  · have hi : i < xs.length := by simpa using hlt
    have hi' : i < ys.length := by omega
    have hx : (xs.map pieceV)[i]? = some (pieceV xs[i]) := by simp [hi]
    have hy : (ys.map pieceV)[i]? = some (pieceV ys[i]) := by simp [hi']
    rw [attrs_take hi hi'] at k2
    show Goes _ _ _ _
    refine goes_draw 300 ⟨Int.natCast_nonneg i, _, hx, Int.natCast_nonneg i, _, hy, ?_⟩
    refine ⟨by kernel_rfl, ?_⟩
    refine ⟨by kernel_rfl, ?_⟩
    refine ⟨fun g2 => go 300 ?_, fun g2 => go 300 ?_⟩
    · refine ⟨trivial, rfl, rfl, rfl, leaf_ff (decide_eq_false fun e => ?_)⟩
      have := (k2.2 e).1
      rw [this] at g2
      simp at g2
    · refine ⟨by constructor <;> omega, ?_⟩
      have he : xs[i] = ys[i] := by
        simp at g2
        exact PieceT.ext g2.1 g2.2.1 g2.2.2
      exact next (i + 1) _ _ ⟨⟨hi, by rw [← k2]; exact ⟨fun h => ⟨he, h⟩, fun h => h.2⟩⟩, by omega, ⟨⟨rfl, rfl⟩, ⟨rfl, rfl⟩, ⟨rfl, rfl⟩, trivial⟩, trivial⟩
  · have hi : i = xs.length := by have : xs.length ≤ i := by simpa using hge
                                  omega
    subst hi
    refine ⟨trivial, rfl, rfl, rfl, leaf_tt (decide_eq_true (k2.1 ?_))⟩
    rw [List.drop_eq_nil_of_le (Nat.le_refl _), List.drop_eq_nil_of_le (by omega)]

def eqO (x y : OpT) : Bool := decide (x.kind = y.kind) && (decide (x.path = y.path) && (decide (x.at_ = y.at_) && (decide (x.to = y.to) && (decide (x.id = y.id) && ((x.leaf == y.leaf) && (decide (x.label = y.label) && (decide (x.key = y.key) && (decide (x.value = y.value) && ((x.gone == y.gone) && decide (x.pieces = y.pieces))))))))))
theorem eqO_refl (x : OpT) : eqO x x = true := by simp [eqO]
def sameO (a b : OpT) : Bool := eqO (bareO a) (bareO b)
set_option maxHeartbeats 2000000 in
set_option maxRecDepth 100000 in
theorem w_SameO (a b : OpT) (ha : a.Lt 1000000) (hb : b.Lt 1000000) : Pure Try.prog 40 [opV a, opV b] (fun x => x = .bool (sameO a b)) := by
  have la := bare_lt ha
  have h1 := w_pathSame (bareO a).path (bareO b).path la.path
  have h2 := w_pathSame (bareO a).to (bareO b).to la.to
  have h3 := w_EqualPiece (bareO a).pieces (bareO b).pieces la.pieces
  refine pure_wk (pure_fn 300 Try.func40 rfl rfl rfl fun B => ?_)
  show Goes _ _ _ _
  refine goes_draw 300 ⟨_, w_Bare a ha, rfl, _, w_Bare b hb, rfl, ?_⟩
  refine ⟨by kernel_rfl, ?_⟩
  repeat' first
    | (refine ⟨fun _ => go 300 ?_, fun _ => go 300 ?_⟩)
    | (show CallThen _ _ _ _ _ _; refine call_pure h1 rfl ?_; rintro z rfl)
    | (show CallThen _ _ _ _ _ _; refine call_pure h2 rfl ?_; rintro z rfl)
    | (show CallThen _ _ _ _ _ _; refine call_pure h3 rfl ?_; rintro z rfl)
    | (refine ⟨trivial, rfl, rfl, rfl, leaf_ff ?_⟩)
    | (refine ⟨trivial, rfl, rfl, rfl, leaf_b ?_⟩)
    | fail
  all_goals (unfold sameO eqO; simp_all)

set_option maxHeartbeats 2000000 in
set_option maxRecDepth 100000 in
theorem w_refSameO (a b : OpT) (ha : a.Lt 1000000) (hb : b.Lt 1000000) : Pure Try.prog 21 [opV a, opV b] (fun x => x = .bool (sameO a b)) := by
  have la := bare_lt ha
  have h1 := w_refSame (bareO a).path (bareO b).path la.path
  have h2 := w_refSame (bareO a).to (bareO b).to la.to
  have h3 := w_refSamePieces (bareO a).pieces (bareO b).pieces la.pieces
  refine pure_wk (pure_fn 300 Try.func21 rfl rfl rfl fun B => ?_)
  show CallThen _ _ _ _ _ _
  refine call_pure (w_refBare a ha) rfl ?_
  rintro z rfl
  show CallThen _ _ _ _ _ _
  refine call_pure (w_refBare b hb) rfl ?_
  rintro z rfl
  repeat' first
    | (refine ⟨fun _ => go 300 ?_, fun _ => go 300 ?_⟩)
    | (show CallThen _ _ _ _ _ _; refine call_pure h1 rfl ?_; rintro z rfl)
    | (show CallThen _ _ _ _ _ _; refine call_pure h2 rfl ?_; rintro z rfl)
    | (show CallThen _ _ _ _ _ _; refine call_pure h3 rfl ?_; rintro z rfl)
    | (refine ⟨trivial, rfl, rfl, rfl, leaf_ff ?_⟩)
    | (refine ⟨trivial, rfl, rfl, rfl, leaf_b ?_⟩)
    | fail
  all_goals (unfold sameO eqO; simp_all)
end Bow
/- W61: the laws of chapter 12: what they use; the examples. -/
namespace Bow
open Go Go.Proofs

theorem okOpK {o : OpT} (h : (Nat.ble o.path.length 1000000 && Nat.ble o.to.length 1000000 && Nat.ble o.label.length 1000000 && Nat.ble o.key.length 1000000 && Nat.ble o.value.length 1000000 && Nat.ble o.pieces.length 1000000 && Nat.ble (putsLen o.pieces) 1000000) = true) : o.Ok := by
  simp only [Bool.and_eq_true, Nat.ble_eq] at h
  obtain ⟨⟨⟨⟨⟨⟨h1, h2⟩, h3⟩, h4⟩, h5⟩, h6⟩, h7⟩ := h
  exact ⟨⟨h1, h2, h3, h4, h5, h6⟩, h7⟩
theorem ex12_0 : Pure Try.prog 14 [opV { noOp 1 with at_ := 1 }, opV { noOp 1 with at_ := 1 }, .bool true] (fun x => x = BehV ([{ noOp 1 with at_ := 1 }], 0)) := by
  have h := w_BehindX { noOp 1 with at_ := 1 } { noOp 1 with at_ := 1 } true (okOpK (by decide)) (okOpK (by decide)) ⟨by decide, by decide⟩
  rwa [show behindX { noOp 1 with at_ := 1 } { noOp 1 with at_ := 1 } true = ([{ noOp 1 with at_ := 1 }], 0) by kernel_rfl] at h
theorem ex12_1 : Pure Try.prog 14 [opV { noOp 1 with at_ := 1 }, opV { noOp 1 with at_ := 1 }, .bool false] (fun x => x = BehV ([{ noOp 1 with at_ := 2 }], 0)) := by
  have h := w_BehindX { noOp 1 with at_ := 1 } { noOp 1 with at_ := 1 } false (okOpK (by decide)) (okOpK (by decide)) ⟨by decide, by decide⟩
  rwa [show behindX { noOp 1 with at_ := 1 } { noOp 1 with at_ := 1 } false = ([{ noOp 1 with at_ := 2 }], 0) by kernel_rfl] at h
theorem ex12_2 : Pure Try.prog 14 [opV { noOp 5 with path := [0, 1] }, opV { noOp 2 with path := [0] }, .bool true] (fun x => x = BehV ([], 0)) := by
  have h := w_BehindX { noOp 5 with path := [0, 1] } { noOp 2 with path := [0] } true (okOpK (by decide)) (okOpK (by decide)) ⟨by decide, by decide⟩
  rwa [show behindX { noOp 5 with path := [0, 1] } { noOp 2 with path := [0] } true = ([], 0) by kernel_rfl] at h
theorem ex12_3 : Pure Try.prog 14 [opV { noOp 3 with path := [1], to := [0] }, opV { noOp 2 with path := [0] }, .bool true] (fun x => x = BehV ([{ noOp 2 with path := [0] }], 0)) := by
  have h := w_BehindX { noOp 3 with path := [1], to := [0] } { noOp 2 with path := [0] } true (okOpK (by decide)) (okOpK (by decide)) ⟨by decide, by decide⟩
  rwa [show behindX { noOp 3 with path := [1], to := [0] } { noOp 2 with path := [0] } true = ([{ noOp 2 with path := [0] }], 0) by kernel_rfl] at h
theorem ex12_4 : Pure Try.prog 14 [opV { noOp 2 with path := [0] }, opV { noOp 3 with path := [0, 0], to := [2] }, .bool true] (fun x => x = BehV ([{ noOp 2 with path := [2, 0] }, { noOp 2 with path := [0] }], 0)) := by
  have h := w_BehindX { noOp 2 with path := [0] } { noOp 3 with path := [0, 0], to := [2] } true (okOpK (by decide)) (okOpK (by decide)) ⟨by decide, by decide⟩
  rwa [show behindX { noOp 2 with path := [0] } { noOp 3 with path := [0, 0], to := [2] } true = ([{ noOp 2 with path := [2, 0] }, { noOp 2 with path := [0] }], 0) by kernel_rfl] at h
theorem ex12_5 : Pure Try.prog 14 [opV { noOp 3 with path := [2], to := [0, 1] }, opV { noOp 3 with path := [0], to := [2] }, .bool true] (fun x => x = BehV ([{ noOp 3 with path := [1, 0], to := [] }, { noOp 3 with path := [2], to := [0, 1] }], 0)) := by
  have h := w_BehindX { noOp 3 with path := [2], to := [0, 1] } { noOp 3 with path := [0], to := [2] } true (okOpK (by decide)) (okOpK (by decide)) ⟨by decide, by decide⟩
  rwa [show behindX { noOp 3 with path := [2], to := [0, 1] } { noOp 3 with path := [0], to := [2] } true = ([{ noOp 3 with path := [1, 0], to := [] }, { noOp 3 with path := [2], to := [0, 1] }], 0) by kernel_rfl] at h
theorem sm12_0 : Pure Try.prog 40 [opV { noOp 2 with path := [0] }, opV { noOp 2 with path := [0] }] (fun x => x = .bool true) := by
  have h := w_SameO { noOp 2 with path := [0] } { noOp 2 with path := [0] } (okOpK (by decide)).lt (okOpK (by decide)).lt
  rwa [show sameO { noOp 2 with path := [0] } { noOp 2 with path := [0] } = true by kernel_rfl] at h
theorem sm12_1 : Pure Try.prog 40 [opV { noOp 2 with path := [2, 0] }, opV { noOp 2 with path := [2, 0] }] (fun x => x = .bool true) := by
  have h := w_SameO { noOp 2 with path := [2, 0] } { noOp 2 with path := [2, 0] } (okOpK (by decide)).lt (okOpK (by decide)).lt
  rwa [show sameO { noOp 2 with path := [2, 0] } { noOp 2 with path := [2, 0] } = true by kernel_rfl] at h
theorem sm12_2 : Pure Try.prog 40 [opV { noOp 2 with path := [0] }, opV { noOp 2 with path := [0] }] (fun x => x = .bool true) := by
  have h := w_SameO { noOp 2 with path := [0] } { noOp 2 with path := [0] } (okOpK (by decide)).lt (okOpK (by decide)).lt
  rwa [show sameO { noOp 2 with path := [0] } { noOp 2 with path := [0] } = true by kernel_rfl] at h
theorem sm12_3 : Pure Try.prog 40 [opV { noOp 3 with path := [2], to := [0, 1] }, opV { noOp 3 with path := [2], to := [0, 1] }] (fun x => x = .bool true) := by
  have h := w_SameO { noOp 3 with path := [2], to := [0, 1] } { noOp 3 with path := [2], to := [0, 1] } (okOpK (by decide)).lt (okOpK (by decide)).lt
  rwa [show sameO { noOp 3 with path := [2], to := [0, 1] } { noOp 3 with path := [2], to := [0, 1] } = true by kernel_rfl] at h
set_option maxHeartbeats 4000000 in
set_option maxRecDepth 100000 in
theorem w_works12 : Pure Try.prog 13 [] (fun x => x = .bool true) := by
  refine pure_wk (pure_fn 300 Try.func13 rfl rfl rfl fun B => ?_)
  show CallThen _ _ _ _ _ _
  refine call_pure_frz ?_
  refine ⟨_, pure_args ex12_0 ⟨wk_op ⟨.refl _, Wk.nil 1, .refl _, Wk.nil 1, .refl _, Wk.ff, .refl _, .refl _, .refl _, Wk.ff, Wk.nil 3, trivial⟩, wk_op ⟨.refl _, Wk.nil 1, .refl _, Wk.nil 1, .refl _, Wk.ff, .refl _, .refl _, .refl _, Wk.ff, Wk.nil 3, trivial⟩, Wk.tt, trivial⟩ rfl rfl, rfl, ?_⟩
  rintro x rfl
  show CallThen _ _ _ _ _ _
  refine call_pure_frz ?_
  refine ⟨_, pure_args ex12_1 ⟨wk_op ⟨.refl _, Wk.nil 1, .refl _, Wk.nil 1, .refl _, Wk.ff, .refl _, .refl _, .refl _, Wk.ff, Wk.nil 3, trivial⟩, wk_op ⟨.refl _, Wk.nil 1, .refl _, Wk.nil 1, .refl _, Wk.ff, .refl _, .refl _, .refl _, Wk.ff, Wk.nil 3, trivial⟩, Wk.ff, trivial⟩ rfl rfl, rfl, ?_⟩
  rintro x rfl
  refine ⟨⟨rfl, rfl, trivial⟩, ⟨rfl, trivial⟩, ?_⟩
  show CallThen _ _ _ _ _ _
  refine call_pure_frz ?_
  refine ⟨rfl, rfl, rfl, rfl, _, pure_args ex12_2 ⟨wk_op ⟨.refl _, .refl _, .refl _, Wk.nil 1, .refl _, Wk.ff, .refl _, .refl _, .refl _, Wk.ff, Wk.nil 3, trivial⟩, wk_op ⟨.refl _, .refl _, .refl _, Wk.nil 1, .refl _, Wk.ff, .refl _, .refl _, .refl _, Wk.ff, Wk.nil 3, trivial⟩, Wk.tt, trivial⟩ rfl rfl, rfl, ?_⟩
  rintro x rfl
  refine ⟨⟨rfl, trivial⟩, ⟨rfl, trivial⟩, ⟨rfl, trivial⟩, ?_⟩
  show CallThen _ _ _ _ _ _
  refine call_pure_frz ?_
  refine ⟨rfl, rfl, rfl, rfl, rfl, rfl, _, pure_args ex12_3 ⟨wk_op ⟨.refl _, .refl _, .refl _, .refl _, .refl _, Wk.ff, .refl _, .refl _, .refl _, Wk.ff, Wk.nil 3, trivial⟩, wk_op ⟨.refl _, .refl _, .refl _, Wk.nil 1, .refl _, Wk.ff, .refl _, .refl _, .refl _, Wk.ff, Wk.nil 3, trivial⟩, Wk.tt, trivial⟩ rfl rfl, rfl, ?_⟩
  rintro x rfl
  refine ⟨⟨rfl, trivial⟩, ⟨rfl, rfl, trivial⟩, ⟨rfl, trivial⟩, ?_⟩
  show CallThen _ _ _ _ _ _
  refine call_pure_frz ?_
  refine ⟨rfl, rfl, rfl, rfl, rfl, rfl, _, pure_args ex12_4 ⟨wk_op ⟨.refl _, .refl _, .refl _, Wk.nil 1, .refl _, Wk.ff, .refl _, .refl _, .refl _, Wk.ff, Wk.nil 3, trivial⟩, wk_op ⟨.refl _, .refl _, .refl _, .refl _, .refl _, Wk.ff, .refl _, .refl _, .refl _, Wk.ff, Wk.nil 3, trivial⟩, Wk.tt, trivial⟩ rfl rfl, rfl, ?_⟩
  rintro x rfl
  refine ⟨⟨rfl, trivial⟩, ⟨rfl, rfl, trivial⟩, ⟨rfl, trivial⟩, ⟨rfl, trivial⟩, ?_⟩
  show CallThen _ _ _ _ _ _
  refine call_pure_frz ?_
  refine ⟨rfl, rfl, rfl, rfl, rfl, rfl, rfl, rfl, _, pure_args ex12_5 ⟨wk_op ⟨.refl _, .refl _, .refl _, .refl _, .refl _, Wk.ff, .refl _, .refl _, .refl _, Wk.ff, Wk.nil 3, trivial⟩, wk_op ⟨.refl _, .refl _, .refl _, .refl _, .refl _, Wk.ff, .refl _, .refl _, .refl _, Wk.ff, Wk.nil 3, trivial⟩, Wk.tt, trivial⟩ rfl rfl, rfl, ?_⟩
  rintro x rfl
  iterate 12 refine ⟨fun g => absurd rfl (ne_of' g), fun _ => go 300 ?_⟩
  refine ⟨by decide, _, rfl, ?_⟩
  refine ⟨fun _ => go 300 ?_, fun g => absurd rfl (ne_of g)⟩
  refine ⟨by decide, _, rfl, ?_⟩
  refine ⟨fun _ => go 300 ?_, fun g => absurd rfl (ne_of g)⟩
  refine ⟨by decide, _, rfl, ⟨rfl, trivial⟩, ?_⟩
  show CallThen _ _ _ _ _ _
  refine call_pure_frz ?_
  refine ⟨rfl, rfl, _, pure_args sm12_0 ⟨.refl _, wk_op ⟨.refl _, .refl _, .refl _, Wk.nil 1, .refl _, Wk.ff, .refl _, .refl _, .refl _, Wk.ff, Wk.nil 3, trivial⟩, trivial⟩ rfl rfl, rfl, ?_⟩
  rintro x rfl
  refine ⟨fun _ => go 300 ?_, fun g => (by cases g)⟩
  refine ⟨by decide, _, rfl, ⟨rfl, rfl, trivial⟩, ?_⟩
  show CallThen _ _ _ _ _ _
  refine call_pure_frz ?_
  refine ⟨rfl, rfl, _, pure_args sm12_1 ⟨.refl _, wk_op ⟨.refl _, .refl _, .refl _, Wk.nil 1, .refl _, Wk.ff, .refl _, .refl _, .refl _, Wk.ff, Wk.nil 3, trivial⟩, trivial⟩ rfl rfl, rfl, ?_⟩
  rintro x rfl
  refine ⟨fun _ => go 300 ?_, fun g => (by cases g)⟩
  refine ⟨by decide, _, rfl, ⟨rfl, trivial⟩, ?_⟩
  show CallThen _ _ _ _ _ _
  refine call_pure_frz ?_
  refine ⟨rfl, rfl, _, pure_args sm12_2 ⟨.refl _, wk_op ⟨.refl _, .refl _, .refl _, Wk.nil 1, .refl _, Wk.ff, .refl _, .refl _, .refl _, Wk.ff, Wk.nil 3, trivial⟩, trivial⟩ rfl rfl, rfl, ?_⟩
  rintro x rfl
  refine ⟨fun _ => go 300 ?_, fun g => (by cases g)⟩
  refine ⟨by decide, _, rfl, ?_⟩
  refine ⟨fun _ => go 300 ?_, fun g => absurd rfl (ne_of g)⟩
  refine ⟨by decide, _, rfl, ⟨rfl, trivial⟩, ⟨rfl, rfl, trivial⟩, ?_⟩
  show CallThen _ _ _ _ _ _
  refine call_pure_frz ?_
  refine ⟨rfl, rfl, rfl, rfl, _, pure_args sm12_3 ⟨.refl _, wk_op ⟨.refl _, .refl _, .refl _, .refl _, .refl _, Wk.ff, .refl _, .refl _, .refl _, Wk.ff, Wk.nil 3, trivial⟩, trivial⟩ rfl rfl, rfl, ?_⟩
  rintro x rfl
  exact ⟨trivial, rfl, rfl, rfl, leaf_b rfl⟩

/-- Some truth value. -/
def isB (x : V) : Prop := ∃ b : Bool, x = .bool b
set_option maxHeartbeats 2000000 in
set_option maxRecDepth 100000 in
theorem w_Small (l : List PieceT) (top : Nat) (hl : l.length ≤ 1000000) (ht : top ≤ 1000000) : Pure Try.prog 12 [piecesV l, .int .i64 top] isB := by
  have ff : ∃ y, Wk .ff y ∧ y.pureB = true ∧ isB y := ⟨.bool false, Wk.ff, rfl, false, rfl⟩
  have tt : ∃ y, Wk .tt y ∧ y.pureB = true ∧ isB y := ⟨.bool true, Wk.tt, rfl, true, rfl⟩
  refine pure_wk (pure_fn 300 Try.func12 rfl rfl rfl fun B => ?_)
  refine ⟨fun g1 => go 300 ?_, fun g1 => go 300 ?_⟩
  · exact ⟨trivial, rfl, rfl, rfl, ff⟩
  show Goes _ _ _ _
  refine goes_iter (ι := Nat × Int) (fun i => i.1 ≤ l.length ∧ 0 ≤ i.2 ∧ i.2 ≤ top) (fun i => l.length - i.1) (fun i => [(6, .int .i64 i.1), (5, .int .i64 i.2), (0, piecesV l), (1, .int .i64 top)]) (fun _ => []) (0, 0) 300 (fun _ => rfl) (fun _ => rfl) ⟨⟨Nat.zero_le _, Int.le_refl _, Int.natCast_nonneg _⟩, ⟨⟨rfl, rfl⟩, ⟨rfl, rfl⟩, ⟨rfl, rfl⟩, ⟨rfl, rfl⟩, trivial⟩, trivial⟩ ?_
  rintro ⟨i, n⟩ ⟨k1, k2, k3⟩ next
  simp only at k1 k2 k3
  refine ⟨fun hlt => go 300 ?_, fun hge => go 300 ?_⟩
  · have hi : i < l.length := by simpa using hlt
    have hx : (l.map pieceV)[i]? = some (pieceV l[i]) := by simp [hi]
    show Goes _ _ _ _
    refine goes_draw 300 ⟨Int.natCast_nonneg i, _, hx, Int.natCast_nonneg i, _, hx, ?_⟩
    refine ⟨by kernel_rfl, ?_⟩
    refine ⟨fun g1 => go 300 ?_, fun g1 => go 300 ?_⟩ <;> refine ⟨fun g2 => go 300 ?_, fun g2 => go 300 ?_⟩
    all_goals
      simp only [decide_eq_true_eq, decide_eq_false_iff_not] at g1 g2
      refine ⟨by constructor <;> omega, ?_⟩
      refine ⟨fun g3 => go 300 ?_, fun g3 => go 300 ?_⟩
      · exact ⟨trivial, rfl, rfl, rfl, ff⟩
      simp only [decide_eq_false_iff_not] at g3
      refine ⟨by constructor <;> omega, by constructor <;> omega, ?_⟩
      refine ⟨fun g4 => go 300 ?_, fun g4 => go 300 ?_⟩
      · exact ⟨trivial, rfl, rfl, rfl, ff⟩
      simp only [decide_eq_false_iff_not] at g4
      refine ⟨Int.natCast_nonneg i, _, hx, by constructor <;> omega, by constructor <;> omega, by constructor <;> omega, ?_⟩
      refine ⟨fun g5 => go 300 ?_, fun g5 => go 300 ?_⟩
      · exact ⟨trivial, rfl, rfl, rfl, ff⟩
      simp only [decide_eq_false_iff_not] at g5
      refine ⟨by constructor <;> omega, by constructor <;> omega, Int.natCast_nonneg i, _, hx, by constructor <;> omega, by constructor <;> omega, ?_⟩
      show Goes _ _ _ _
      refine next (i + 1, _) _ _ ⟨⟨hi, ?_, ?_⟩, by simp only; omega, ⟨⟨rfl, rfl⟩, ⟨rfl, rfl⟩, ⟨rfl, rfl⟩, ⟨rfl, rfl⟩, trivial⟩, trivial⟩
      · simp only; omega
      · simp only; omega
  · exact ⟨trivial, rfl, rfl, rfl, tt⟩

/-- A list is the same as itself. -/
theorem w_same12 (l : List OpT) (hl : l.length ≤ 1000000) (hok : ∀ o ∈ l, o.Lt 1000000) : Pure Try.prog 16 [opsV l, opsV l] (fun x => x = .bool true) := by
  refine pure_wk (pure_fn 300 Try.func16 rfl rfl rfl fun B => ?_)
  refine ⟨fun g => absurd rfl (ne_of' g), fun _ => go 300 ?_⟩
  show Goes _ _ _ _
  refine goes_iter (ι := Nat) (fun i => i ≤ l.length) (fun i => l.length - i) (fun i => [(5, .int .i64 i), (0, opsV l), (1, opsV l)]) (fun _ => []) 0 300 (fun _ => rfl) (fun _ => rfl) ⟨Nat.zero_le _, ⟨⟨rfl, rfl⟩, ⟨rfl, rfl⟩, ⟨rfl, rfl⟩, trivial⟩, trivial⟩ ?_
  rintro i k1 next
  refine ⟨fun hlt => go 300 ?_, fun hge => go 300 ?_⟩
  · have hi : i < l.length := by simpa using hlt
    have hx : (l.map opV)[i]? = some (opV l[i]) := by simp [hi]
    have h := hok l[i] (List.getElem_mem hi)
    show Goes _ _ _ _
    refine goes_draw 300 ⟨Int.natCast_nonneg i, _, hx, Int.natCast_nonneg i, _, hx, ?_⟩
    refine ⟨by kernel_rfl, by kernel_rfl, by kernel_rfl, ?_⟩
    refine ⟨fun g => absurd rfl (ne_of' g), fun _ => go 300 ?_⟩
    show CallThen _ _ _ _ _ _
    refine call_pure (w_refSame (l[i]).path (l[i]).path h.path) rfl ?_
    rintro x rfl
    refine ⟨fun g => absurd g (by simp), fun _ => go 300 ?_⟩
    refine ⟨fun g => absurd rfl (ne_of' g), fun _ => go 300 ?_⟩
    show CallThen _ _ _ _ _ _
    refine call_pure (w_refSame (l[i]).to (l[i]).to h.to) rfl ?_
    rintro x rfl
    refine ⟨fun g => absurd g (by simp), fun _ => go 300 ?_⟩
    refine ⟨fun g => absurd rfl (ne_of' g), fun _ => go 300 ?_⟩
    refine ⟨fun g => absurd g (by simp), fun _ => go 300 ?_⟩
    refine ⟨fun g => absurd g (by simp), fun _ => go 300 ?_⟩
    refine ⟨fun g => absurd g (by simp), fun _ => go 300 ?_⟩
    refine ⟨fun g => absurd g (by simp), fun _ => go 300 ?_⟩
    refine ⟨fun g => absurd g (by simp), fun _ => go 300 ?_⟩
    show CallThen _ _ _ _ _ _
    refine call_pure (w_kitSamePieces (l[i]).pieces (l[i]).pieces h.pieces) rfl ?_
    rintro x rfl
    refine ⟨fun g => absurd g (by simp), fun _ => go 300 ?_⟩
    refine ⟨by constructor <;> omega, ?_⟩
    show Goes _ _ _ _
    exact next (i + 1) _ _ ⟨hi, by omega, ⟨⟨rfl, rfl⟩, ⟨rfl, rfl⟩, ⟨rfl, rfl⟩, trivial⟩, trivial⟩
  · exact ⟨trivial, rfl, rfl, rfl, leaf_tt rfl⟩
end Bow
/- W62: SquareTurned. -/
namespace Bow
open Go Go.Proofs

theorem sound_formed {o : OpT} (h : soundO o = true) : formedB o = true := by unfold soundO at h; rw [Bool.and_eq_true] at h; exact h.1
theorem behO_ok {b a : OpT} {prior : Bool} (ha : a.Ok) (hb : b.Ok) (ta : a.to.length ≤ 1000) (tb : b.to.length ≤ 1000) : ((behindO b a prior).1.length ≤ 2 ∧ ∀ o ∈ (behindO b a prior).1, o.Ok) := by
  unfold behindO
  cases sa : soundO a with
  | false => exact ⟨by simp, by simp⟩
  | true =>
    cases sb : soundO b with
    | false => exact ⟨by simp, by simp⟩
    | true =>
      have pa := may_len (formed_path (sound_formed sa))
      have pb := may_len (formed_path (sound_formed sb))
      have h := row_ok (prior := prior) ha hb (by omega) (by omega) ta tb
      have hl := row_len b a prior
      cases (rowO b a prior).all formedB with
      | false => exact ⟨by simp, by simp⟩
      | true =>
        refine ⟨by simpa using hl, fun o ho => ?_⟩
        obtain ⟨o', h1, rfl⟩ := List.mem_map.1 (by simpa using ho)
        exact bare_ok (h o' h1)
theorem right_puts {l : List PieceT} (h : rightP l = true) : putsLen l ≤ 1048576 := by
  unfold rightP at h
  rw [Bool.and_eq_true] at h
  have := (rightGo_ok h.2).2
  rcases this with rfl | this
  · exact Nat.zero_le _
  · omega
theorem behX_lt {b a : OpT} {prior : Bool} (ha : a.Ok) (hb : b.Ok) (ta : a.to.length ≤ 1000) (tb : b.to.length ≤ 1000) : ((behindX b a prior).1.length ≤ 2 ∧ ∀ o ∈ (behindX b a prior).1, o.Lt 1000000 ∧ ∀ p ∈ o.pieces, p.put.length ≤ 1000000000) := by
  unfold behindX
  cases bothEdit b a with
  | false =>
    obtain ⟨h1, h2⟩ := behO_ok (prior := prior) ha hb ta tb
    exact ⟨h1, fun o ho => ⟨(h2 o ho).lt, (h2 o ho).each⟩⟩
  | true =>
    obtain ⟨h1, h2⟩ := edit_lt (a := a) (prior := prior) hb
    simp only [cond_true]
    unfold behindE
    cases !soundO a || !soundO b with
    | true => exact ⟨by simp, by simp⟩
    | false =>
      cases decide ((transP b.pieces a.pieces prior).2.2 = 0) && formedB (editO b a prior) with
      | false => exact ⟨by simp, by simp⟩
      | true =>
        refine ⟨by simp, fun o ho => ?_⟩
        have : o = bareO (editO b a prior) := by simpa using ho
        subst this
        refine ⟨bare_lt h1, fun p hp => h2 p ?_⟩
        have : (bareO (editO b a prior)).pieces = [] ∨ (bareO (editO b a prior)).pieces = (editO b a prior).pieces := by
          unfold bareO
          cases (editO b a prior).kind == 1 <;> cases (editO b a prior).kind == 2 <;> cases (editO b a prior).kind == 3 <;> cases (editO b a prior).kind == 4 <;> cases (editO b a prior).kind == 5 <;> cases (editO b a prior).kind == 6 <;> simp [noOp]
        rcases this with e | e
        · rw [e] at hp; cases hp
        · rw [e] at hp; exact hp
theorem bothX_turn (a b : OpT) (prior : Bool) : bothX b a (!prior) = ((bothX a b prior).2.1, (bothX a b prior).1, (bothX b a (!prior)).2.2) ∧ (decide ((bothX a b prior).2.2 = 0) = decide ((bothX b a (!prior)).2.2 = 0)) := by
  unfold bothX
  rw [Bool.not_not]
  by_cases h1 : (behindX a b prior).2 = 0 <;> by_cases h2 : (behindX b a (!prior)).2 = 0 <;> simp [h1, h2]
theorem bothX_lt {a b : OpT} {prior : Bool} (ha : a.Ok) (hb : b.Ok) (ta : a.to.length ≤ 1000) (tb : b.to.length ≤ 1000) :
    ((bothX a b prior).1.length ≤ 2 ∧ ∀ o ∈ (bothX a b prior).1, o.Lt 1000000 ∧ ∀ p ∈ o.pieces, p.put.length ≤ 1000000000) ∧ ((bothX a b prior).2.1.length ≤ 2 ∧ ∀ o ∈ (bothX a b prior).2.1, o.Lt 1000000 ∧ ∀ p ∈ o.pieces, p.put.length ≤ 1000000000) := by
  have h1 := behX_lt (prior := prior) hb ha tb ta
  have h2 := behX_lt (prior := !prior) ha hb ta tb
  unfold bothX
  cases decide ((behindX a b prior).2 = 0) with
  | false => exact ⟨⟨by simp, by simp⟩, ⟨by simp, by simp⟩⟩
  | true =>
    cases decide ((behindX b a (!prior)).2 = 0) with
    | false => exact ⟨⟨by simp, by simp⟩, ⟨by simp, by simp⟩⟩
    | true => exact ⟨h1, h2⟩

set_option maxHeartbeats 2000000 in
set_option maxRecDepth 100000 in
theorem w_SquareTurned (a b : OpT) (prior : Bool) : Pure Try.prog 5 [opV a, opV b, .bool prior] (fun x => x = .bool true) := by
  refine pure_wk (pure_fn 300 Try.func5 rfl rfl rfl fun B => ?_)
  have hw := w_works12
  show CallThen _ _ _ _ _ _
  refine call_pure (w_LightX a 200 (by decide)) rfl ?_
  rintro x rfl
  refine ⟨fun g1 => go 300 ?_, fun g1 => go 300 ?_⟩
  · show CallThen _ _ _ _ _ _
    refine call_pure hw rfl ?_
    rintro x rfl
    exact ⟨trivial, rfl, rfl, rfl, leaf_b rfl⟩
  have ha := light_ok (top := 200) (o := a) (by simpa using g1) (by decide)
  have la := ((lightB_iff a 200).1 (by simpa using g1)).1
  show CallThen _ _ _ _ _ _
  refine call_pure (w_LightX b 200 (by decide)) rfl ?_
  rintro x rfl
  refine ⟨fun g2 => go 300 ?_, fun g2 => go 300 ?_⟩
  · show CallThen _ _ _ _ _ _
    refine call_pure hw rfl ?_
    rintro x rfl
    exact ⟨trivial, rfl, rfl, rfl, leaf_b rfl⟩
  have hb := light_ok (top := 200) (o := b) (by simpa using g2) (by decide)
  have lb := ((lightB_iff b 200).1 (by simpa using g2)).1
  have a1 := la.pieces
  have a2 := la.to
  have b1 := lb.pieces
  have b2 := lb.to
  show CallThen _ _ _ _ _ _
  refine call_pure (w_Small a.pieces 400 (by omega) (by decide)) rfl ?_
  rintro x ⟨s1, rfl⟩
  refine ⟨fun g3 => go 300 ?_, fun g3 => go 300 ?_⟩
  · show CallThen _ _ _ _ _ _
    refine call_pure hw rfl ?_
    rintro x rfl
    exact ⟨trivial, rfl, rfl, rfl, leaf_b rfl⟩
  show CallThen _ _ _ _ _ _
  refine call_pure (w_Small b.pieces 400 (by omega) (by decide)) rfl ?_
  rintro x ⟨s2, rfl⟩
  refine ⟨fun g4 => go 300 ?_, fun g4 => go 300 ?_⟩
  · show CallThen _ _ _ _ _ _
    refine call_pure hw rfl ?_
    rintro x rfl
    exact ⟨trivial, rfl, rfl, rfl, leaf_b rfl⟩
  have h1 := w_BothX a b prior ha hb ⟨by omega, by omega⟩
  have h2 := w_BothX b a (!prior) hb ha ⟨by omega, by omega⟩
  obtain ⟨t1, t2⟩ := bothX_turn a b prior
  obtain ⟨⟨l1, l2⟩, l3, l4⟩ := bothX_lt (prior := prior) ha hb (by omega) (by omega)
  rw [t1] at h2 t2
  generalize (bothX b a (!prior)).2.2 = f at h2 t2
  obtain ⟨⟨x, y, e⟩, hr⟩ : ∃ z, bothX a b prior = z := ⟨_, rfl⟩
  rw [hr] at h1 h2 t2 l1 l2 l3 l4
  show CallThen _ _ _ _ _ _
  refine call_pure h1 rfl ?_
  rintro z rfl
  show CallThen _ _ _ _ _ _
  refine call_pure h2 rfl ?_
  rintro z rfl
  refine ⟨fun _ => go 300 ?_, fun g => ?_⟩
  · show CallThen _ _ _ _ _ _
    refine call_pure (w_same12 x (by simp only at l1; omega) (fun o ho => (l2 o ho).1)) rfl ?_
    rintro z rfl
    refine ⟨fun _ => go 300 ?_, fun g => (by cases g)⟩
    show CallThen _ _ _ _ _ _
    refine call_pure (w_same12 y (by simp only at l3; omega) (fun o ho => (l4 o ho).1)) rfl ?_
    rintro z rfl
    refine ⟨fun _ => go 300 ?_, fun g => (by cases g)⟩
    show CallThen _ _ _ _ _ _
    refine call_pure hw rfl ?_
    rintro z rfl
    exact ⟨trivial, rfl, rfl, rfl, leaf_b rfl⟩
  · exfalso
    simp only at t2
    rw [t2] at g
    simp at g
end Bow
/- TD1: what is read as data at the program's types. -/
namespace Bow
open Go Go.Proofs

theorem take1 {vs : List V} {c : V} (h : vs.take 1 = [c]) : ∃ r, vs = c :: r ∧ vs.drop 1 = r := by
  cases vs with
  | nil => simp at h
  | cons x r => simp at h; subst h; exact ⟨r, rfl, rfl⟩

theorem map_exists {α β : Type} {f : α → V} {g : β → V} : ∀ {xs : List α}, (∀ x ∈ xs, ∃ y, f x = g y) → ∃ ys : List β, xs.map f = ys.map g
  | [], _ => ⟨[], rfl⟩
  | x :: xs, h => by
    obtain ⟨y, hy⟩ := h x List.mem_cons_self
    obtain ⟨ys, hys⟩ := map_exists (xs := xs) fun z hz => h z (List.mem_cons_of_mem _ hz)
    exact ⟨y :: ys, by simp [hy, hys]⟩

theorem vt_str {n : Nat} {vs : List V} (h : VT Try.prog n 9 vs) : ∃ s, vs = [.str s] := by
  cases n with
  | zero => exact h.elim
  | succ n =>
    obtain ⟨s, e, _⟩ : ∃ s : List UInt8, vs = [.str s] ∧ s.length ≤ maxLen := h
    exact ⟨s, e⟩
theorem vt_bool {n : Nat} {vs : List V} (h : VT Try.prog n 4 vs) : ∃ b, vs = [.bool b] := by
  cases n with
  | zero => exact h.elim
  | succ n => exact h
theorem vt_int {n : Nat} {vs : List V} (h : VT Try.prog n 3 vs) : ∃ i, vs = [.int .i64 i] ∧ (Lit.int .i64 i).wf = true := by
  cases n with
  | zero => exact h.elim
  | succ n => exact h
theorem vt_u64 {n : Nat} {vs : List V} (h : VT Try.prog n 23 vs) : ∃ i, vs = [.int .u64 i] := by
  cases n with
  | zero => exact h.elim
  | succ n =>
    obtain ⟨s, e, _⟩ : ∃ s : Int, vs = [.int .u64 s] ∧ (Lit.int .u64 s).wf = true := h
    exact ⟨s, e⟩
theorem vt_u8 {n : Nat} {vs : List V} (h : VT Try.prog n 5 vs) : ∃ i, vs = [.int .u8 i] := by
  cases n with
  | zero => exact h.elim
  | succ n =>
    obtain ⟨s, e, _⟩ : ∃ s : Int, vs = [.int .u8 s] ∧ (Lit.int .u8 s).wf = true := h
    exact ⟨s, e⟩
theorem rep_of_cells {w : World} {vs : List V} {cs : Array Value} (h : RowRep w β0 [] vs cs.toList) : Rep w β0 [] (.agg vs) (.agg cs) :=
  .agg vs cs (by simpa using h.1) fun j c v hj hv => h.2 j c v hj (by simpa using hv)

end Bow
/- TD2: operations that are read as data. -/
namespace Bow
open Go Go.Proofs

set_option maxRecDepth 100000 in
theorem vt_path {n : Nat} {vs : List V} (h : VT Try.prog n 22 vs) : ∃ l : List Int, vs = [pathV l] ∧ l.length ≤ maxLen ∧ ∀ i ∈ l, (Lit.int .i64 i).wf = true := by
  cases n with
  | zero => exact h.elim
  | succ n =>
    obtain ⟨xs, e, hl, hx⟩ : ∃ xs : List (List V), vs = [.sl 1 (xs.map (mkX Try.prog 3))] ∧ xs.length ≤ maxLen ∧ ∀ x ∈ xs, VT Try.prog n 3 x := h
    have key : ∀ xs : List (List V), (∀ x ∈ xs, VT Try.prog n 3 x) → ∃ l : List Int, xs.map (mkX Try.prog 3) = l.map intV ∧ ∀ i ∈ l, (Lit.int .i64 i).wf = true := by
      intro xs
      induction xs with
      | nil => intro _; exact ⟨[], rfl, by simp⟩
      | cons x xs ih =>
        intro hx
        obtain ⟨i, rfl, hw⟩ := vt_int (hx x List.mem_cons_self)
        obtain ⟨l, e, hl⟩ := ih fun z hz => hx z (List.mem_cons_of_mem _ hz)
        refine ⟨i :: l, by simp only [List.map_cons, e]; rfl, fun j hj => ?_⟩
        rcases List.mem_cons.1 hj with rfl | hj
        · exact hw
        · exact hl j hj
    obtain ⟨l, e1, e2⟩ := key xs hx
    refine ⟨l, by rw [e, e1]; rfl, ?_, e2⟩
    have := congrArg List.length e1
    simp at this
    omega
set_option maxRecDepth 100000 in
theorem vt_piece {n : Nat} {vs : List V} (h : VT Try.prog n 46 vs) : ∃ p, vs = (pieceV p).cells := by
  cases n with
  | zero => exact h.elim
  | succ n =>
    obtain ⟨h0, h1, h2, h3⟩ : VT Try.prog n 3 (vs.take 1) ∧ VT Try.prog n 3 ((vs.drop 1).take 1) ∧ VT Try.prog n 9 (((vs.drop 1).drop 1).take 1) ∧ ((vs.drop 1).drop 1).drop 1 = [] := h
    obtain ⟨a, e0, _⟩ := vt_int h0
    obtain ⟨b, e1, _⟩ := vt_int h1
    obtain ⟨s, e2⟩ := vt_str h2
    obtain ⟨r, rfl, d0⟩ := take1 e0
    rw [d0] at e1 e2 h3
    obtain ⟨r1, rfl, d1⟩ := take1 e1
    rw [d1] at e2 h3
    obtain ⟨r2, rfl, d2⟩ := take1 e2
    rw [d2] at h3
    subst h3
    exact ⟨⟨a, b, s⟩, rfl⟩
set_option maxRecDepth 100000 in
theorem vt_pieces {n : Nat} {vs : List V} (h : VT Try.prog n 24 vs) : ∃ l : List PieceT, vs = [piecesV l] := by
  cases n with
  | zero => exact h.elim
  | succ n =>
    obtain ⟨xs, e, _, hx⟩ : ∃ xs : List (List V), vs = [.sl 3 (xs.map (mkX Try.prog 46))] ∧ xs.length ≤ maxLen ∧ ∀ x ∈ xs, VT Try.prog n 46 x := h
    obtain ⟨l, hl⟩ := map_exists (f := mkX Try.prog 46) (g := pieceV) (xs := xs) fun x hm => by
      obtain ⟨a, rfl⟩ := vt_piece (hx x hm)
      exact ⟨a, rfl⟩
    exact ⟨l, by rw [e, hl]; rfl⟩

set_option maxRecDepth 100000 in
theorem vt_op {n : Nat} {vs : List V} (h : VT Try.prog n 26 vs) : ∃ o, vs = (opV o).cells := by
  cases n with
  | zero => exact h.elim
  | succ n =>
    obtain ⟨h0, h⟩ : VT Try.prog n 5 (vs.take 1) ∧ _ := h
    obtain ⟨a0, e0⟩ := vt_u8 h0
    obtain ⟨r, rfl, d0⟩ := take1 e0
    obtain ⟨h1, h⟩ : VT Try.prog n 22 (r.take 1) ∧ _ := h
    obtain ⟨a1, e1, _⟩ := vt_path h1
    obtain ⟨r, rfl, d0⟩ := take1 e1
    obtain ⟨h2, h⟩ : VT Try.prog n 3 (r.take 1) ∧ _ := h
    obtain ⟨a2, e2, _⟩ := vt_int h2
    obtain ⟨r, rfl, d0⟩ := take1 e2
    obtain ⟨h3, h⟩ : VT Try.prog n 22 (r.take 1) ∧ _ := h
    obtain ⟨a3, e3, _⟩ := vt_path h3
    obtain ⟨r, rfl, d0⟩ := take1 e3
    obtain ⟨h4, h⟩ : VT Try.prog n 23 (r.take 1) ∧ _ := h
    obtain ⟨a4, e4⟩ := vt_u64 h4
    obtain ⟨r, rfl, d0⟩ := take1 e4
    obtain ⟨h5, h⟩ : VT Try.prog n 4 (r.take 1) ∧ _ := h
    obtain ⟨a5, e5⟩ := vt_bool h5
    obtain ⟨r, rfl, d0⟩ := take1 e5
    obtain ⟨h6, h⟩ : VT Try.prog n 9 (r.take 1) ∧ _ := h
    obtain ⟨a6, e6⟩ := vt_str h6
    obtain ⟨r, rfl, d0⟩ := take1 e6
    obtain ⟨h7, h⟩ : VT Try.prog n 9 (r.take 1) ∧ _ := h
    obtain ⟨a7, e7⟩ := vt_str h7
    obtain ⟨r, rfl, d0⟩ := take1 e7
    obtain ⟨h8, h⟩ : VT Try.prog n 9 (r.take 1) ∧ _ := h
    obtain ⟨a8, e8⟩ := vt_str h8
    obtain ⟨r, rfl, d0⟩ := take1 e8
    obtain ⟨h9, h⟩ : VT Try.prog n 4 (r.take 1) ∧ _ := h
    obtain ⟨a9, e9⟩ := vt_bool h9
    obtain ⟨r, rfl, d0⟩ := take1 e9
    obtain ⟨h10, h⟩ : VT Try.prog n 24 (r.take 1) ∧ _ := h
    obtain ⟨a10, e10⟩ := vt_pieces h10
    obtain ⟨r, rfl, d0⟩ := take1 e10
    have h : r = [] := h
    subst h
    exact ⟨⟨a0, a1, a2, a3, a4, a5, a6, a7, a8, a9, a10⟩, rfl⟩
set_option maxRecDepth 100000 in
theorem vt_ops {n : Nat} {vs : List V} (h : VT Try.prog n 30 vs) : ∃ l : List OpT, vs = [.sl 11 (l.map opV)] ∧ l.length ≤ maxLen := by
  cases n with
  | zero => exact h.elim
  | succ n =>
    obtain ⟨xs, e, hl, hx⟩ : ∃ xs : List (List V), vs = [.sl 11 (xs.map (mkX Try.prog 26))] ∧ xs.length ≤ maxLen ∧ ∀ x ∈ xs, VT Try.prog n 26 x := h
    obtain ⟨l, e1⟩ := map_exists (f := mkX Try.prog 26) (g := opV) (xs := xs) fun x hm => by
      obtain ⟨a, rfl⟩ := vt_op (hx x hm)
      exact ⟨a, rfl⟩
    refine ⟨l, by rw [e, e1], ?_⟩
    have := congrArg List.length e1
    simp at this
    omega

set_option maxRecDepth 100000 in
/-- An operation that is handed over. -/
theorem op_arg {H : Type} {enc : TypeId × Value → H} {w : World} {r : Reach} {base b0 : Nat} {sp : Nat → Bool} {held : Bool} {v : Value} {d : DataW H} {p : List MemPlace} (ho : Value.okWide Try.prog w r b0 26 v) (h : DataW.Trod enc Try.prog w base sp held 26 v d p) :
    ∃ o : OpT, Rep w β0 [] (opV o) v := by
  obtain ⟨fuel, hf⟩ := h
  obtain ⟨cs, rfl, _, _⟩ : ∃ cs, v = .agg cs ∧ cs.size = Try.prog.cellsOf 26 ∧ Row.okWide Try.prog w r b0 26 cs := ho
  obtain ⟨vs, h1, _, h3⟩ := read_data (G := [26, 22, 24, 46, 3, 9, 23, 5, 4]) (by kernel_rfl) fuel _ _ _ (by kernel_rfl) hf
  obtain ⟨t, rfl⟩ := vt_op h3
  exact ⟨t, rep_of_cells h1⟩
set_option maxRecDepth 100000 in
/-- A list of operations that is handed over. -/
theorem ops_arg {H : Type} {enc : TypeId × Value → H} {w : World} {r : Reach} {base b0 : Nat} {sp : Nat → Bool} {held : Bool} {v : Value} {d : DataW H} {p : List MemPlace} (ho : Value.okWide Try.prog w r b0 30 v) (h : DataW.Trod enc Try.prog w base sp held 30 v d p) :
    ∃ l : List OpT, Rep w β0 [] (.sl 11 (l.map opV)) v ∧ l.length ≤ maxLen := by
  obtain ⟨a, len, cap, rfl⟩ := WideShapes.okWide_slice Try.underlying30 ho
  obtain ⟨fuel, hf⟩ := h
  obtain ⟨vs, h1, _, h3⟩ := read_data (G := [30, 26, 22, 24, 46, 3, 9, 23, 5, 4]) (by kernel_rfl) fuel _ _ _ (by kernel_rfl) hf
  obtain ⟨l, rfl, hl⟩ := vt_ops h3
  exact ⟨l, h1.2 0 _ _ rfl rfl, hl⟩
set_option maxRecDepth 100000 in
/-- A path that is handed over. -/
theorem path_arg {H : Type} {enc : TypeId × Value → H} {w : World} {r : Reach} {base b0 : Nat} {sp : Nat → Bool} {held : Bool} {v : Value} {d : DataW H} {p : List MemPlace} (ho : Value.okWide Try.prog w r b0 22 v) (h : DataW.Trod enc Try.prog w base sp held 22 v d p) :
    ∃ l : List Int, Rep w β0 [] (pathV l) v ∧ l.length ≤ maxLen ∧ ∀ i ∈ l, (Lit.int .i64 i).wf = true := by
  obtain ⟨a, len, cap, rfl⟩ := WideShapes.okWide_slice Try.underlying22 ho
  obtain ⟨fuel, hf⟩ := h
  obtain ⟨vs, h1, _, h3⟩ := read_data (G := [22, 3]) (by kernel_rfl) fuel _ _ _ (by kernel_rfl) hf
  obtain ⟨l, rfl, hl⟩ := vt_path h3
  exact ⟨l, h1.2 0 _ _ rfl rfl, hl⟩
end Bow
