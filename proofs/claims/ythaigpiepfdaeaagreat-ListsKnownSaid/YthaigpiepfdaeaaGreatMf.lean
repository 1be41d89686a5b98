/- The library, part 6: W60, SP20, W48, W61, W62, W63, W64, W65, W66, W68, W69, AE43, AE44, AE45, AE46, W76, W77, W78, SP28, W67. -/
import Derived.Test.YthaigpiepfdaeaaGreatMe
import Derived.Test.YthaigpiepfdaeaaGreatMd
import Derived.Test.YthaigpiepfdaeaaGreatMc
/- W60: two edits of one leaf; square.Behind and Both, whole. -/
namespace Bow
open Go Go.Proofs

set_option pp.maxSteps 300 in
set_option maxHeartbeats 8000000 in
set_option maxRecDepth 100000 in
theorem w_rowE (b a : OpT) (prior : Bool) (ha : a.Ok) (_hb : b.Ok) (sa : soundO a = true) (sb : soundO b = true) (he : bothEdit b a = true) :
    Fun Tryz.prog 181 [] [opV b, opV a, .bool prior] (fun x T => ∃ g, x = .tup [.osl (.loc 2) g 0 1, .int .i64 (transP b.pieces a.pieces prior).2.2] ∧ T = [some (.box (opV (editO b a prior)).cells), some (.box (opV a).cells), some (.vec g 11 [opV (editO b a prior)])]) := by
  unfold bothEdit at he
  simp only [Bool.and_eq_true, decide_eq_true_eq] at he
  obtain ⟨k1, k2, k3⟩ := he
  have fa : formedB a = true := by unfold soundO at sa; rw [Bool.and_eq_true] at sa; exact sa.1
  have fb : formedB b = true := by unfold soundO at sb; rw [Bool.and_eq_true] at sb; exact sb.1
  have pa := may_len (formed_path fa)
  obtain ⟨l1, l2⟩ := right_bounds (formed_pieces fa k1)
  obtain ⟨l3, l4⟩ := right_bounds (formed_pieces fb k2)
  have hw : wonO b a = false := by unfold wonO; simp [k1, k2]
  have ct := w_Trans b.pieces a.pieces prior (by omega) (by omega) l4 l2
  have ee : editO b a prior = { b with pieces := (transP b.pieces a.pieces prior).1 } := rfl
  rw [ee]
  clear ee
  obtain ⟨⟨r1, r2, e⟩, hr⟩ : ∃ r, transP b.pieces a.pieces prior = r := ⟨_, rfl⟩
  rw [hr] at ct ⊢
  refine fun_fn 300 Tryz.func181 rfl rfl rfl fun imps B hi => ?_
  have : imps = [] := List.length_eq_zero_iff.1 hi
  subst this
  refine ⟨fun g1 => absurd (eq_of g1) (by omega), fun g1 => go 300 ?_⟩
  show CallThen _ _ _ _ _ _
  refine call_pure (w_won b a ha) rfl ?_
  rw [hw]
  rintro x rfl
  refine ⟨fun g2 => (by cases g2), fun g2 => go 300 ?_⟩
  refine ⟨fun g3 => go 300 ?_, fun g3 => absurd (eq_of' g3) (by omega)⟩
  refine ⟨fun g4 => go 300 ?_, fun g4 => absurd k1 (ne_of g4)⟩
  refine ⟨fun g5 => go 300 ?_, fun g5 => absurd k2 (ne_of g5)⟩
  show CallThen _ _ _ _ _ _
  refine call_pure (w_pathSame a.path b.path (by omega)) rfl ?_
  rw [decide_eq_true k3]
  rintro x rfl
  refine ⟨fun g6 => go 300 ?_, fun g6 => (by cases g6)⟩
  show CallThen _ _ _ _ _ _
  refine call_pure ct rfl ?_
  rintro x rfl
  refine ⟨⟨rfl, trivial⟩, ?_⟩
  exact ⟨trivial, rfl, rfl, _, rfl, rfl⟩

theorem edit_lt {b a : OpT} {prior : Bool} (hb : b.Ok) : (editO b a prior).Lt 1000000 ∧ ∀ p ∈ (editO b a prior).pieces, p.put.length ≤ 1000000000 := by
  obtain ⟨h1, h2⟩ := right_bounds (trans_right b.pieces a.pieces prior).1
  exact ⟨⟨hb.lt.path, hb.lt.to, hb.lt.label, hb.lt.key, hb.lt.value, by show (transP b.pieces a.pieces prior).1.length ≤ _; omega⟩, h2⟩
theorem behZ' {e : Int} {R : List OpT × Int} (h : R = ([], e)) : ∃ y, Wk (.tup [.nilsl, .int .i64 e]) y ∧ y.pureB = true ∧ y = BehV R := ⟨BehV ([], e), Wk.tup ⟨Wk.nil 11, .refl _, trivial⟩, rfl, by rw [h]⟩
set_option pp.maxSteps 300 in
set_option maxHeartbeats 4000000 in
set_option maxRecDepth 100000 in
theorem w_BehindE (b a : OpT) (prior : Bool) (ha : a.Ok) (hb : b.Ok) (he : bothEdit b a = true) :
    Pure Tryz.prog 142 [opV b, opV a, .bool prior] (fun x => x = BehV (behindE b a prior)) := by
  obtain ⟨R, hR⟩ : ∃ R, behindE b a prior = R := ⟨_, rfl⟩
  rw [hR]
  obtain ⟨hlt, hput⟩ := edit_lt (a := a) (prior := prior) hb
  refine pure_wk (pure_fn 300 Tryz.func142 rfl rfl rfl fun B => ?_)
  show CallThen _ _ _ _ _ _
  refine call_pure (w_sound a ha) rfl ?_
  rintro x rfl
  refine ⟨fun g1 => go 300 ?_, fun g1 => go 300 ?_⟩
  · have g1 : soundO a = false := by simpa using g1
    exact ⟨trivial, rfl, rfl, rfl, behZ' (by rw [← hR]; unfold behindE; rw [g1]; rfl)⟩
  have sa : soundO a = true := by simpa using g1
  show CallThen _ _ _ _ _ _
  refine call_pure (w_sound b hb) rfl ?_
  rintro x rfl
  refine ⟨fun g2 => go 300 ?_, fun g2 => go 300 ?_⟩
  · have g2 : soundO b = false := by simpa using g2
    exact ⟨trivial, rfl, rfl, rfl, behZ' (by rw [← hR]; unfold behindE; rw [sa, g2]; rfl)⟩
  have sb : soundO b = true := by simpa using g2
  have hrow := w_rowE b a prior ha hb sa sb he
  have e0 : R = bif decide ((transP b.pieces a.pieces prior).2.2 = 0) && formedB (editO b a prior) then ([bareO (editO b a prior)], 0) else ([], 3) := by
    rw [← hR]; unfold behindE; rw [sa, sb]; rfl
  obtain ⟨o, ho⟩ : ∃ o, editO b a prior = o := ⟨_, rfl⟩
  obtain ⟨e, hee⟩ : ∃ e, (transP b.pieces a.pieces prior).2.2 = e := ⟨_, rfl⟩
  rw [ho, hee] at hrow e0
  rw [ho] at hlt hput
  show CallThen _ _ _ _ _ _
  refine call_sub [] hrow rfl rfl trivial rfl rfl rfl ?_
  rintro x T1 ⟨G, rfl, rfl⟩
  refine ⟨rfl, ?_⟩
  refine ⟨fun g3 => go 300 ?_, fun g3 => go 300 ?_⟩
  · have g3 := ne_of' g3
    exact ⟨trivial, rfl, rfl, rfl, behZ' (by rw [e0, decide_eq_false g3]; rfl)⟩
  have g3 := eq_of' g3
  rw [decide_eq_true g3] at e0
  refine ⟨rfl, ?_⟩
  show Goes _ _ _ _
  refine goes_loop ?_
  refine go 300 ?_
  refine ⟨fun _ => go 300 ?_, fun h => absurd (not_lt_of h) (by decide)⟩
  refine ⟨rfl, by decide, by decide, rfl, _, rfl, ?_⟩
  show CallThen _ _ _ _ _ _
  refine call_pure (w_Formed o hlt hput) rfl ?_
  rintro x rfl
  refine ⟨fun g4 => go 300 ?_, fun g4 => go 300 ?_⟩
  · have g4 : formedB o = false := by simpa using g4
    exact ⟨trivial, rfl, rfl, rfl, behZ' (by rw [e0, g4]; rfl)⟩
  have g4 : formedB o = true := by simpa using g4
  rw [g4] at e0
  show CallThen _ _ _ _ _ _
  refine call_pure (w_Bare o hlt) rfl ?_
  rintro x rfl
  refine ⟨rfl, by decide, by decide, rfl, _, rfl, ?_⟩
  refine ⟨⟨by decide, by decide⟩, ?_⟩
  show Goes _ _ _ _
  refine goes_inLoop ?_
  refine go 300 ?_
  refine ⟨fun h => absurd (lt_of h) (by decide), fun _ => go 300 ?_⟩
  have hres : BehV ([bareO o], 0) = BehV R := by rw [e0]; rfl
  exact ⟨trivial, rfl, rfl, rfl, rfl, rfl, BehV ([bareO o], 0), Wk.refl _, rfl, hres⟩
theorem w_BehindX (b a : OpT) (prior : Bool) (ha : a.Ok) (hb : b.Ok) (hto : a.to.length ≤ 1000 ∧ b.to.length ≤ 1000) :
    Pure Tryz.prog 142 [opV b, opV a, .bool prior] (fun x => x = BehV (behindX b a prior)) := by
  unfold behindX
  cases he : bothEdit b a with
  | true => exact w_BehindE b a prior ha hb he
  | false => exact w_Behind b a prior ha hb he hto

set_option maxRecDepth 100000 in
theorem w_BothX (a b : OpT) (prior : Bool) (ha : a.Ok) (hb : b.Ok) (hto : a.to.length ≤ 1000 ∧ b.to.length ≤ 1000) :
    Pure Tryz.prog 96 [opV a, opV b, .bool prior] (fun x => x = BothV (bothX a b prior)) := by
  refine pure_wk (pure_fn 300 Tryz.func96 rfl rfl rfl fun B => ?_)
  show CallThen _ _ _ _ _ _
  refine call_pure (w_BehindX a b prior hb ha ⟨hto.2, hto.1⟩) rfl ?_
  rintro x rfl
  refine ⟨fun g1 => go 300 ?_, fun g1 => go 300 ?_⟩
  · have g1 : (behindX a b prior).2 ≠ 0 := ne_of' g1
    have e : bothX a b prior = ([], [], (behindX a b prior).2) := by unfold bothX; rw [decide_eq_false g1]; rfl
    rw [e]
    exact ⟨trivial, rfl, rfl, rfl, bothZ _⟩
  have g1 : (behindX a b prior).2 = 0 := eq_of' g1
  show CallThen _ _ _ _ _ _
  refine call_pure (w_BehindX b a (!prior) ha hb hto) rfl ?_
  rintro x rfl
  refine ⟨fun g2 => go 300 ?_, fun g2 => go 300 ?_⟩
  · have g2 : (behindX b a (!prior)).2 ≠ 0 := ne_of' g2
    have e : bothX a b prior = ([], [], (behindX b a (!prior)).2) := by unfold bothX; rw [decide_eq_true g1, decide_eq_false g2]; rfl
    rw [e]
    exact ⟨trivial, rfl, rfl, rfl, bothZ _⟩
  have g2 : (behindX b a (!prior)).2 = 0 := eq_of' g2
  have e : bothX a b prior = ((behindX a b prior).1, (behindX b a (!prior)).1, 0) := by unfold bothX; rw [decide_eq_true g1, decide_eq_true g2]; rfl
  rw [e]
  exact ⟨trivial, rfl, rfl, rfl, BothV ((behindX a b prior).1, (behindX b a (!prior)).1, 0), Wk.refl _, rfl, rfl⟩
end Bow
/- SP20: a bare operation does what it did, in plain Lean. -/
namespace Bow
open Go

theorem kinds (o : OpT) : o.kind = 1 ∨ o.kind = 2 ∨ o.kind = 3 ∨ o.kind = 4 ∨ o.kind = 5 ∨ o.kind = 6 ∨ (o.kind ≠ 1 ∧ o.kind ≠ 2 ∧ o.kind ≠ 3 ∧ o.kind ≠ 4 ∧ o.kind ≠ 5 ∧ o.kind ≠ 6) := by omega
end Bow
/- W48: operations that say the same. -/
namespace Bow
open Go Go.Proofs

set_option maxRecDepth 100000 in
theorem w_refSamePieces (xs ys : List PieceT) (hl : xs.length ≤ 1000000) : Pure Tryz.prog 99 [piecesV xs, piecesV ys] (fun x => x = .bool (decide (xs = ys))) := by
  refine pure_wk (pure_fn 300 Tryz.func99 rfl rfl rfl fun B => ?_)
  refine ⟨fun g1 => go 300 ?_, fun g1 => go 300 ?_⟩
  · have g1 := ne_of' g1
    exact ⟨trivial, rfl, rfl, rfl, leaf_ff (decide_eq_false fun e => g1 (by rw [e]))⟩
  have g1 : xs.length = ys.length := by have := eq_of' g1; simp at this; omega
  show Goes _ _ _ _
  refine goes_iter (ι := Nat) (fun i => i ≤ xs.length ∧ (xs.drop i = ys.drop i ↔ xs = ys)) (fun i => xs.length - i) (fun i => [(5, .int .i64 i), (0, piecesV xs), (1, piecesV ys)]) (fun _ => []) 0 300 (fun _ => rfl) (fun _ => rfl) ⟨⟨Nat.zero_le _, by simp⟩, ⟨⟨rfl, rfl⟩, ⟨rfl, rfl⟩, ⟨rfl, rfl⟩, trivial⟩, trivial⟩ ?_
  rintro i ⟨k1, k2⟩ next
  refine ⟨fun hlt => go 300 ?_, fun hge => go 300 ?_⟩
  · have hi : i < xs.length := by simpa using hlt
    have hi' : i < ys.length := by omega
    have hx : (xs.map pieceV)[i]? = some (pieceV xs[i]) := by simp [hi]
    have hy : (ys.map pieceV)[i]? = some (pieceV ys[i]) := by simp [hi']
    rw [attrs_take hi hi'] at k2
    show Goes _ _ _ _
    refine goes_draw 300 ⟨Int.natCast_nonneg i, _, hx, Int.natCast_nonneg i, _, hy, ?_⟩
    refine ⟨by kernel_rfl, ?_⟩
    refine ⟨by kernel_rfl, ?_⟩
    refine ⟨fun g2 => go 300 ?_, fun g2 => go 300 ?_⟩
    · refine ⟨trivial, rfl, rfl, rfl, leaf_ff (decide_eq_false fun e => ?_)⟩
      have := (k2.2 e).1
      rw [this] at g2
      simp at g2
    · refine ⟨by constructor <;> omega, ?_⟩
      have he : xs[i] = ys[i] := by
        simp at g2
        exact PieceT.ext g2.1 g2.2.1 g2.2.2
      exact next (i + 1) _ _ ⟨⟨hi, by rw [← k2]; exact ⟨fun h => ⟨he, h⟩, fun h => h.2⟩⟩, by omega, ⟨⟨rfl, rfl⟩, ⟨rfl, rfl⟩, ⟨rfl, rfl⟩, trivial⟩, trivial⟩
  · have hi : i = xs.length := by have : xs.length ≤ i := by simpa using hge
                                  omega
    subst hi
    refine ⟨trivial, rfl, rfl, rfl, leaf_tt (decide_eq_true (k2.1 ?_))⟩
    rw [List.drop_eq_nil_of_le (Nat.le_refl _), List.drop_eq_nil_of_le (by omega)]

def eqO (x y : OpT) : Bool := decide (x.kind = y.kind) && (decide (x.path = y.path) && (decide (x.at_ = y.at_) && (decide (x.to = y.to) && (decide (x.id = y.id) && ((x.leaf == y.leaf) && (decide (x.label = y.label) && (decide (x.key = y.key) && (decide (x.value = y.value) && ((x.gone == y.gone) && decide (x.pieces = y.pieces))))))))))
def sameO (a b : OpT) : Bool := eqO (bareO a) (bareO b)
set_option maxHeartbeats 2000000 in
set_option maxRecDepth 100000 in
theorem w_SameO (a b : OpT) (ha : a.Lt 1000000) (hb : b.Lt 1000000) : Pure Tryz.prog 63 [opV a, opV b] (fun x => x = .bool (sameO a b)) := by
  have la := bare_lt ha
  have h1 := w_pathSame (bareO a).path (bareO b).path la.path
  have h2 := w_pathSame (bareO a).to (bareO b).to la.to
  have h3 := w_EqualPiece (bareO a).pieces (bareO b).pieces la.pieces
  refine pure_wk (pure_fn 300 Tryz.func63 rfl rfl rfl fun B => ?_)
  show Goes _ _ _ _
  refine goes_draw 300 ⟨_, w_Bare a ha, rfl, _, w_Bare b hb, rfl, ?_⟩
  refine ⟨by kernel_rfl, ?_⟩
  repeat' first
    | (refine ⟨fun _ => go 300 ?_, fun _ => go 300 ?_⟩)
    | (show CallThen _ _ _ _ _ _; refine call_pure h1 rfl ?_; rintro z rfl)
    | (show CallThen _ _ _ _ _ _; refine call_pure h2 rfl ?_; rintro z rfl)
    | (show CallThen _ _ _ _ _ _; refine call_pure h3 rfl ?_; rintro z rfl)
    | (refine ⟨trivial, rfl, rfl, rfl, leaf_ff ?_⟩)
    | (refine ⟨trivial, rfl, rfl, rfl, leaf_b ?_⟩)
    | fail
  all_goals (unfold sameO eqO; simp_all)

set_option maxHeartbeats 2000000 in
set_option maxRecDepth 100000 in
theorem w_refSameO (a b : OpT) (ha : a.Lt 1000000) (hb : b.Lt 1000000) : Pure Tryz.prog 41 [opV a, opV b] (fun x => x = .bool (sameO a b)) := by
  have la := bare_lt ha
  have h1 := w_refSame (bareO a).path (bareO b).path la.path
  have h2 := w_refSame (bareO a).to (bareO b).to la.to
  have h3 := w_refSamePieces (bareO a).pieces (bareO b).pieces la.pieces
  refine pure_wk (pure_fn 300 Tryz.func41 rfl rfl rfl fun B => ?_)
  show CallThen _ _ _ _ _ _
  refine call_pure (w_refBare a ha) rfl ?_
  rintro z rfl
  show CallThen _ _ _ _ _ _
  refine call_pure (w_refBare b hb) rfl ?_
  rintro z rfl
  repeat' first
    | (refine ⟨fun _ => go 300 ?_, fun _ => go 300 ?_⟩)
    | (show CallThen _ _ _ _ _ _; refine call_pure h1 rfl ?_; rintro z rfl)
    | (show CallThen _ _ _ _ _ _; refine call_pure h2 rfl ?_; rintro z rfl)
    | (show CallThen _ _ _ _ _ _; refine call_pure h3 rfl ?_; rintro z rfl)
    | (refine ⟨trivial, rfl, rfl, rfl, leaf_ff ?_⟩)
    | (refine ⟨trivial, rfl, rfl, rfl, leaf_b ?_⟩)
    | fail
  all_goals (unfold sameO eqO; simp_all)
end Bow
/- W61: the laws of chapter 12: what they use; the examples. -/
namespace Bow
open Go Go.Proofs

/-- Some truth value. -/
def isB (x : V) : Prop := ∃ b : Bool, x = .bool b
set_option maxHeartbeats 2000000 in
set_option maxRecDepth 100000 in
theorem w_Small (l : List PieceT) (top : Nat) (hl : l.length ≤ 1000000) (ht : top ≤ 1000000) : Pure Tryz.prog 94 [piecesV l, .int .i64 top] isB := by
  have ff : ∃ y, Wk .ff y ∧ y.pureB = true ∧ isB y := ⟨.bool false, Wk.ff, rfl, false, rfl⟩
  have tt : ∃ y, Wk .tt y ∧ y.pureB = true ∧ isB y := ⟨.bool true, Wk.tt, rfl, true, rfl⟩
  refine pure_wk (pure_fn 300 Tryz.func94 rfl rfl rfl fun B => ?_)
  refine ⟨fun g1 => go 300 ?_, fun g1 => go 300 ?_⟩
  · exact ⟨trivial, rfl, rfl, rfl, ff⟩
  show Goes _ _ _ _
  refine goes_iter (ι := Nat × Int) (fun i => i.1 ≤ l.length ∧ 0 ≤ i.2 ∧ i.2 ≤ top) (fun i => l.length - i.1) (fun i => [(6, .int .i64 i.1), (5, .int .i64 i.2), (0, piecesV l), (1, .int .i64 top)]) (fun _ => []) (0, 0) 300 (fun _ => rfl) (fun _ => rfl) ⟨⟨Nat.zero_le _, Int.le_refl _, Int.natCast_nonneg _⟩, ⟨⟨rfl, rfl⟩, ⟨rfl, rfl⟩, ⟨rfl, rfl⟩, ⟨rfl, rfl⟩, trivial⟩, trivial⟩ ?_
  rintro ⟨i, n⟩ ⟨k1, k2, k3⟩ next
  simp only at k1 k2 k3
  refine ⟨fun hlt => go 300 ?_, fun hge => go 300 ?_⟩
  · have hi : i < l.length := by simpa using hlt
    have hx : (l.map pieceV)[i]? = some (pieceV l[i]) := by simp [hi]
    show Goes _ _ _ _
    refine goes_draw 300 ⟨Int.natCast_nonneg i, _, hx, Int.natCast_nonneg i, _, hx, ?_⟩
    refine ⟨by kernel_rfl, ?_⟩
    refine ⟨fun g1 => go 300 ?_, fun g1 => go 300 ?_⟩ <;> refine ⟨fun g2 => go 300 ?_, fun g2 => go 300 ?_⟩
    all_goals
      simp only [decide_eq_true_eq, decide_eq_false_iff_not] at g1 g2
      refine ⟨by constructor <;> omega, ?_⟩
      refine ⟨fun g3 => go 300 ?_, fun g3 => go 300 ?_⟩
      · exact ⟨trivial, rfl, rfl, rfl, ff⟩
      simp only [decide_eq_false_iff_not] at g3
      refine ⟨by constructor <;> omega, by constructor <;> omega, ?_⟩
      refine ⟨fun g4 => go 300 ?_, fun g4 => go 300 ?_⟩
      · exact ⟨trivial, rfl, rfl, rfl, ff⟩
      simp only [decide_eq_false_iff_not] at g4
      refine ⟨Int.natCast_nonneg i, _, hx, by constructor <;> omega, by constructor <;> omega, by constructor <;> omega, ?_⟩
      refine ⟨fun g5 => go 300 ?_, fun g5 => go 300 ?_⟩
      · exact ⟨trivial, rfl, rfl, rfl, ff⟩
      simp only [decide_eq_false_iff_not] at g5
      refine ⟨by constructor <;> omega, by constructor <;> omega, Int.natCast_nonneg i, _, hx, by constructor <;> omega, by constructor <;> omega, ?_⟩
      show Goes _ _ _ _
      refine next (i + 1, _) _ _ ⟨⟨hi, ?_, ?_⟩, by simp only; omega, ⟨⟨rfl, rfl⟩, ⟨rfl, rfl⟩, ⟨rfl, rfl⟩, ⟨rfl, rfl⟩, trivial⟩, trivial⟩
      · simp only; omega
      · simp only; omega
  · exact ⟨trivial, rfl, rfl, rfl, tt⟩

end Bow
/- W62: SquareTurned. -/
namespace Bow
open Go Go.Proofs

theorem right_puts {l : List PieceT} (h : rightP l = true) : putsLen l ≤ 1048576 := by
  unfold rightP at h
  rw [Bool.and_eq_true] at h
  have := (rightGo_ok h.2).2
  rcases this with rfl | this
  · exact Nat.zero_le _
  · omega
end Bow
/- W63: lists of operations: joined (slices.Concat), made bare; which are too many. -/
namespace Bow
open Go Go.Proofs

theorem w_GrowOp (n : Nat) (h : n ≤ 10000000) : Fun Tryz.prog 169 [] [.nilsl, .int .i64 n] (fun x T => ∃ g, x = .osl (.loc 0) g 0 0 ∧ T = [some (.vec g 11 [])]) := by
  refine fun_fn 100 Tryz.func169 rfl rfl rfl fun imps B hi => ?_
  have : imps = [] := List.length_eq_zero_iff.1 hi
  subst this
  refine ⟨fun g1 => go 100 ?_, fun g1 => go 100 ?_⟩
  · have := lt_of g1; omega
  show Goes _ _ _ _
  refine goes_cap0 100 rfl rfl rfl rfl rfl ?_
  refine ⟨by constructor <;> omega, by constructor <;> omega, ?_⟩
  refine ⟨fun g2 => go 100 ?_, fun g2 => ?_⟩
  · have g2 := lt_of g2
    show Goes _ _ _ _
    refine goes_cap0 100 rfl rfl rfl rfl rfl ?_
    show Goes _ _ _ _
    refine goes_nilcut 100 rfl rfl rfl rfl rfl rfl rfl ?_
    show Goes _ _ _ _
    refine goes_growTo 100 n rfl rfl rfl rfl (congrArg (V.int .i64) (by omega)) (by omega) rfl rfl rfl rfl rfl (Nat.le_trans (Nat.mul_le_mul_right _ h) (by decide)) ?_
    show Goes _ _ _ _
    refine goes_cut (h := 0) 100 rfl rfl rfl rfl rfl rfl rfl rfl (Nat.zero_le _) ?_
    exact ⟨trivial, rfl, rfl, 2, rfl, rfl⟩
  · refine goes_own 0 11 rfl ?_
    refine go 100 ?_
    exact ⟨trivial, rfl, rfl, 0, rfl, rfl⟩
set_option maxRecDepth 100000 in
theorem w_ConcatOp (ls : List (List V)) (h : ls.flatten.length ≤ 1000000) (hl : ls.length ≤ 1000000) : Pure Tryz.prog 128 [.sl 1 (ls.map (V.sl 11))] (fun x => x = .sl 11 ls.flatten) := by
  refine pure_fn 100 Tryz.func128 rfl rfl rfl fun B => ?_
  show Goes _ _ _ _
  refine goes_iter (ι := Nat) (fun i => i ≤ ls.length) (fun i => ls.length - i) (fun i => [(3, .int .i64 (ls.take i).flatten.length), (11, .int .i64 i), (10, .int .i64 (ls.map (V.sl 11)).length), (9, .sl 1 (ls.map (V.sl 11))), (0, .sl 1 (ls.map (V.sl 11)))]) (fun _ => []) 0 100 (fun _ => rfl) (fun _ => rfl) ⟨Nat.zero_le _, ?_, trivial⟩ ?_
  · exact ⟨⟨rfl, rfl⟩, ⟨rfl, rfl⟩, ⟨rfl, rfl⟩, ⟨rfl, rfl⟩, ⟨rfl, rfl⟩, trivial⟩
  intro i k1 next
  have hb1 := flatten_take_le ls i
  refine ⟨fun hlt => go 100 ?_, fun hge => go 100 ?_⟩
  · have hi : i < ls.length := by simpa using hlt
    have hx : (ls.map (V.sl 11))[i]? = some (.sl 11 ls[i]) := by simp [hi]
    have hb2 := flatten_take_le ls (i + 1)
    have hs := flatten_take_succ hi
    have hsl : (ls.take (i + 1)).flatten.length = (ls.take i).flatten.length + ls[i].length := by rw [hs, List.length_append]
    refine ⟨Int.natCast_nonneg i, _, hx, ?_⟩
    refine ⟨by constructor <;> omega, ?_⟩
    refine ⟨fun g1 => go 100 ?_, fun g1 => go 100 ?_⟩
    · have := lt_of g1; omega
    refine ⟨by constructor <;> omega, ?_⟩
    refine next (i + 1) _ _ ⟨by omega, by omega, ?_, trivial⟩
    exact ⟨⟨by simp only [lk]; exact congrArg (V.int .i64) (by omega), rfl⟩, ⟨rfl, rfl⟩, ⟨rfl, rfl⟩, ⟨rfl, rfl⟩, ⟨rfl, rfl⟩, trivial⟩
  · have hi : i = ls.length := by have : ls.length ≤ i := by simpa using hge
                                  omega
    subst hi
    rw [List.take_length]
    show CallThen _ _ _ _ _ _
    refine call_sub [] (w_GrowOp ls.flatten.length (by omega)) rfl rfl trivial rfl rfl rfl ?_
    rintro x T1 ⟨g, rfl, rfl⟩
    refine ⟨rfl, ?_⟩
    show Goes _ _ _ _
    refine goes_iter (ι := Nat × Nat) (fun i => i.1 ≤ ls.length) (fun i => ls.length - i.1) (fun i => [(6, .osl (.loc 0) i.2 0 (ls.take i.1).flatten.length), (27, .int .i64 i.1), (26, .int .i64 (ls.map (V.sl 11)).length), (25, .sl 1 (ls.map (V.sl 11)))]) (fun i => [some (.vec i.2 11 (ls.take i.1).flatten)]) (0, g) 100 (fun _ => rfl) (fun _ => rfl) ⟨Nat.zero_le _, ?_, ?_⟩ ?_
    · exact ⟨⟨rfl, rfl⟩, ⟨rfl, rfl⟩, ⟨rfl, rfl⟩, ⟨rfl, rfl⟩, trivial⟩
    · exact ⟨⟨rfl, rfl⟩, trivial⟩
    rintro ⟨i, g⟩ k1 next
    have hb1 := flatten_take_le ls i
    simp only at k1 hb1
    refine ⟨fun hlt => go 100 ?_, fun hge => go 100 ?_⟩
    · have hi : i < ls.length := by simpa using hlt
      have hx : (ls.map (V.sl 11))[i]? = some (.sl 11 ls[i]) := by simp [hi]
      have hb2 := flatten_take_le ls (i + 1)
      have hs := flatten_take_succ hi
      have hsl : (ls.take (i + 1)).flatten.length = (ls.take i).flatten.length + ls[i].length := by rw [hs, List.length_append]
      refine ⟨Int.natCast_nonneg i, _, hx, ?_⟩
      simp only
      refine ⟨rfl, rfl, Nat.le_trans (Nat.mul_le_mul_right _ (show _ ≤ 1000000 by omega)) (by decide), ?_⟩
      refine ⟨by constructor <;> omega, ?_⟩
      refine next (i + 1, bump g) _ _ ⟨by simp only; omega, by simp only; omega, ?_, ?_⟩
      · exact ⟨⟨by simp only [lk]; exact congrArg (V.osl _ _ _) hsl.symm, rfl⟩, ⟨rfl, rfl⟩, ⟨rfl, rfl⟩, ⟨rfl, rfl⟩, trivial⟩
      · exact ⟨⟨by rw [hs], rfl⟩, trivial⟩
    · have hi : i = ls.length := by have : ls.length ≤ i := by simpa using hge
                                    omega
      subst hi
      exact ⟨trivial, rfl, rfl, rfl, rfl, rfl, by simp only [List.take_length]⟩

theorem w_much1 (l : List OpT) : Pure Tryz.prog 174 [opsV l] (fun x => x = .bool (decide (4096 < l.length))) := by
  refine pure_wk (pure_fn 300 Tryz.func174 rfl rfl rfl fun B => ?_)
  refine ⟨trivial, rfl, rfl, rfl, leaf_b ?_⟩
  simp only [List.length_map]
  exact decide_eq_decide.2 ⟨fun h => by omega, fun h => by omega⟩
/-- The first place where a predicate holds, or -1. -/
def findL (f : List OpT → Bool) : Nat → List (List OpT) → Int
  | _, [] => -1
  | i, x :: xs => bif f x then i else findL f (i + 1) xs
theorem findL_any (f : List OpT → Bool) : ∀ (xs : List (List OpT)) (i : Nat), decide (0 ≤ findL f i xs) = xs.any f
  | [], i => by simp [findL]
  | x :: xs, i => by
    rw [findL, List.any_cons]
    cases h : f x with
    | true => simp
    | false => simpa using findL_any f xs (i + 1)
def listsV (l : List (List OpT)) : V := .sl 1 (l.map opsV)
set_option maxRecDepth 100000 in
theorem w_IndexMuch (xs : List (List OpT)) (hl : xs.length ≤ 1000000) :
    Pure Tryz.prog 207 [listsV xs, .fn (.func 174) [] []] (fun x => x = .int .i64 (findL (fun l => decide (4096 < l.length)) 0 xs)) := by
  refine pure_fn 100 Tryz.func207 rfl rfl rfl fun B => ?_
  show Goes _ _ _ _
  refine goes_iter (ι := Nat) (fun i => i ≤ xs.length ∧ findL (fun l => decide (4096 < l.length)) i (xs.drop i) = findL (fun l => decide (4096 < l.length)) 0 xs) (fun i => xs.length - i) (fun i => [(8, .int .i64 i), (7, .int .i64 (xs.map opsV).length), (1, .fn (.func 174) [] []), (0, listsV xs)]) (fun _ => []) 0 200 (fun _ => rfl) (fun _ => rfl) ⟨⟨Nat.zero_le _, rfl⟩, ?_, ?_⟩ ?_
  · exact ⟨⟨rfl, rfl⟩, ⟨rfl, rfl⟩, ⟨rfl, rfl⟩, ⟨rfl, rfl⟩, trivial⟩
  · trivial
  · rintro i ⟨h1, h2⟩ next
    refine ⟨fun hlt => go 200 ?_, fun hge => go 200 ?_⟩
    · have hi : i < xs.length := by simpa using hlt
      have hx : (xs.map opsV)[i]? = some (opsV xs[i]) := by simp [hi]
      rw [drop_cons hi, findL] at h2
      refine ⟨Int.natCast_nonneg i, _, hx, ?_⟩
      show CallThen _ _ _ _ _ _
      refine call_pure (w_much1 xs[i]) rfl ?_
      rintro x rfl
      refine ⟨fun h => go 200 ?_, fun h => go 200 ?_⟩
      · rw [h] at h2
        exact ⟨trivial, rfl, rfl, rfl, by rw [← h2]; rfl⟩
      · rw [h] at h2
        refine ⟨by constructor <;> omega, ?_⟩
        show Goes _ _ _ _
        exact next (i + 1) _ _ ⟨⟨hi, h2⟩, by omega, ⟨⟨rfl, rfl⟩, ⟨rfl, rfl⟩, ⟨rfl, rfl⟩, ⟨rfl, rfl⟩, trivial⟩, trivial⟩
    · have hi : xs.length ≤ i := by simpa using hge
      rw [List.drop_eq_nil_of_le hi] at h2
      exact ⟨trivial, rfl, rfl, rfl, by rw [← h2]; rfl⟩
theorem w_much (xs : List (List OpT)) (hl : xs.length ≤ 1000000) : Pure Tryz.prog 139 [listsV xs] (fun x => x = .bool (xs.any fun l => decide (4096 < l.length))) := by
  have hc : Pure Tryz.prog 173 [listsV xs, .fn (.func 174) [] []] (fun x => x = .bool (xs.any fun l => decide (4096 < l.length))) := by
    refine pure_fn 100 Tryz.func173 rfl rfl rfl fun B => ?_
    show CallThen _ _ _ _ _ _
    refine call_pure (w_IndexMuch xs hl) rfl ?_
    rintro x rfl
    exact ⟨trivial, rfl, rfl, rfl, by rw [← findL_any _ xs 0]; rfl⟩
  refine pure_fn 100 Tryz.func139 rfl rfl rfl fun B => ?_
  show CallThen _ _ _ _ _ _
  refine call_pure hc rfl ?_
  rintro x rfl
  exact ⟨trivial, rfl, rfl, rfl, rfl⟩

set_option maxRecDepth 100000 in
theorem w_lbare (l : List OpT) (hl : l.length ≤ 1000000) (hok : ∀ o ∈ l, o.Lt 1000000) : Pure Tryz.prog 91 [opsV l] (fun x => x = opsV (bareL l)) := by
  refine pure_wk (pure_fn 300 Tryz.func91 rfl rfl rfl fun B => ?_)
  show Goes _ _ _ _
  refine goes_own 3 11 rfl ?_
  refine goes_iter (ι := Nat × Nat) (fun i => i.1 ≤ l.length) (fun i => l.length - i.1) (fun i => [(8, .int .i64 i.1), (7, .int .i64 (l.map opV).length), (6, opsV l), (3, .osl (.loc 0) i.2 0 i.1)]) (fun i => [some (.vec i.2 11 ((bareL (l.take i.1)).map opV))]) (0, 0) 300 (fun _ => rfl) (fun _ => rfl) ⟨Nat.zero_le _, ⟨⟨rfl, rfl⟩, ⟨rfl, rfl⟩, ⟨rfl, rfl⟩, ⟨rfl, rfl⟩, trivial⟩, ⟨⟨rfl, rfl⟩, trivial⟩⟩ ?_
  rintro ⟨i, g⟩ k1 next
  simp only at k1
  have hbl : (bareL (l.take i)).length = i := by simp [bareL]; omega
  refine ⟨fun hlt => go 300 ?_, fun hge => go 300 ?_⟩
  · have hi : i < l.length := by simpa using hlt
    have hx : (l.map opV)[i]? = some (opV l[i]) := by simp [hi]
    refine ⟨Int.natCast_nonneg i, _, hx, ?_⟩
    show CallThen _ _ _ _ _ _
    refine call_pure (w_Bare l[i] (hok _ (List.getElem_mem hi))) rfl ?_
    rintro x rfl
    refine ⟨⟨rfl, trivial⟩, rfl, rfl, rfl, (by rw [List.length_map]; exact hbl.symm), Nat.le_trans (Nat.mul_le_mul_right _ (show _ ≤ 1000001 by rw [List.length_map, hbl]; simp only [List.length_cons, List.length_nil]; omega)) (by decide), ?_⟩
    refine ⟨by constructor <;> omega, ?_⟩
    show Goes _ _ _ _
    have e : (bareL (l.take (i + 1))).map opV = (bareL (l.take i)).map opV ++ [opV (bareO l[i])] := by
      rw [List.take_succ_eq_append_getElem hi]
      simp only [bareL, List.map_append, List.map_cons, List.map_nil]
    refine next (i + 1, bump g) _ _ ⟨hi, by simp only; omega, ⟨⟨rfl, rfl⟩, ⟨rfl, rfl⟩, ⟨rfl, rfl⟩, ⟨?_, rfl⟩, trivial⟩, ⟨⟨?_, rfl⟩, trivial⟩⟩
    · simp only [lk]
      exact congrArg (V.osl _ _ _) (by rw [List.length_map, hbl]; rfl)
    · exact congrArg (fun z => some (HObj.vec (bump g) 11 z)) e.symm
  · have hi : i = l.length := by have : l.length ≤ i := by simpa using hge
                                 omega
    subst hi
    refine ⟨trivial, rfl, rfl, rfl, by simp [bareL], rfl, opsV (bareL l), ?_, rfl, rfl⟩
    show Wk (.sl 11 ((bareL (l.take l.length)).map opV)) _
    rw [List.take_length]
    exact .refl _
end Bow
/- W64: lists.bring, Both. -/
namespace Bow
open Go Go.Proofs

/-- Operations of a size that may be asked about. -/
def OkL (l : List OpT) : Prop := ∀ o ∈ l, o.Ok ∧ o.to.length ≤ 1000
theorem bare_formed_ok {o : OpT} (h : formedB o = true) : (bareO o).Ok ∧ (bareO o).to.length ≤ 1000 := by
  have hp := may_len (formed_path h)
  have nil : ∀ k : Int, (noOp k).Ok := fun k => ⟨⟨Nat.zero_le _, Nat.zero_le _, Nat.zero_le _, Nat.zero_le _, Nat.zero_le _, Nat.zero_le _⟩, Nat.zero_le _⟩
  unfold bareO
  cases k1 : o.kind == 1 with
  | true =>
    have hk : o.kind = 1 := eq_of_beq k1
    have hl : o.label.length ≤ 64 := by
      unfold formedB at h
      rw [hk] at h
      simp only [Bool.and_eq_true] at h
      have := h.2
      simp at this
      omega
    exact ⟨⟨⟨by show o.path.length ≤ _; omega, Nat.zero_le _, by show o.label.length ≤ _; omega, Nat.zero_le _, Nat.zero_le _, Nat.zero_le _⟩, Nat.zero_le _⟩, Nat.zero_le _⟩
  | false => cases k2 : o.kind == 2 with
    | true => exact ⟨⟨⟨by show o.path.length ≤ _; omega, Nat.zero_le _, Nat.zero_le _, Nat.zero_le _, Nat.zero_le _, Nat.zero_le _⟩, Nat.zero_le _⟩, Nat.zero_le _⟩
    | false => cases k3 : o.kind == 3 with
      | true =>
        have ht := may_len (good_to h (eq_of_beq k3))
        exact ⟨⟨⟨by show o.path.length ≤ _; omega, by show o.to.length ≤ _; omega, Nat.zero_le _, Nat.zero_le _, Nat.zero_le _, Nat.zero_le _⟩, Nat.zero_le _⟩, by show o.to.length ≤ _; omega⟩
      | false => cases k4 : o.kind == 4 with
        | true =>
          have hk : o.kind = 4 := eq_of_beq k4
          have hl : o.key.length ≤ 64 ∧ (o.gone = true ∨ o.value.length ≤ 256) := by
            unfold formedB at h
            rw [hk] at h
            simp [keyOk] at h
            exact ⟨h.2.1.2, h.2.2.imp id (fun h => by omega)⟩
          refine ⟨⟨⟨by show o.path.length ≤ _; omega, Nat.zero_le _, Nat.zero_le _, by show o.key.length ≤ _; omega, ?_, Nat.zero_le _⟩, Nat.zero_le _⟩, Nat.zero_le _⟩
          show (bif o.gone then [] else o.value : List UInt8).length ≤ _
          rcases hl.2 with hg | hg
          · rw [hg]; exact Nat.zero_le _
          · cases o.gone with
            | true => exact Nat.zero_le _
            | false => show o.value.length ≤ _; omega
        | false => cases k5 : o.kind == 5 with
          | true =>
            have hk : o.kind = 5 := eq_of_beq k5
            have hl : o.label.length ≤ 64 := by
              unfold formedB at h
              rw [hk] at h
              simp at h
              omega
            exact ⟨⟨⟨by show o.path.length ≤ _; omega, Nat.zero_le _, by show o.label.length ≤ _; omega, Nat.zero_le _, Nat.zero_le _, Nat.zero_le _⟩, Nat.zero_le _⟩, Nat.zero_le _⟩
          | false => cases k6 : o.kind == 6 with
            | true =>
              have hr := formed_pieces h (eq_of_beq k6)
              have h1 := right_puts hr
              have h2 := (right_bounds hr).1
              exact ⟨⟨⟨by show o.path.length ≤ _; omega, Nat.zero_le _, Nat.zero_le _, Nat.zero_le _, Nat.zero_le _, by show o.pieces.length ≤ _; omega⟩, h1⟩, Nat.zero_le _⟩
            | false => exact ⟨nil _, Nat.zero_le _⟩
theorem behX_okL (b a : OpT) (p : Bool) : OkL (behindX b a p).1 := by
  unfold behindX
  cases bothEdit b a with
  | false =>
    simp only [cond_false]
    unfold behindO
    cases !soundO a || !soundO b with
    | true => intro o ho; simp at ho
    | false =>
      cases hf : (rowO b a p).all formedB with
      | false => intro o ho; simp at ho
      | true =>
        intro o ho
        simp only [cond_true, cond_false] at ho
        obtain ⟨o', h1, rfl⟩ := List.mem_map.1 ho
        exact bare_formed_ok (List.all_eq_true.1 hf o' h1)
  | true =>
    simp only [cond_true]
    unfold behindE
    cases !soundO a || !soundO b with
    | true => intro o ho; simp at ho
    | false =>
      cases hf : decide ((transP b.pieces a.pieces p).2.2 = 0) && formedB (editO b a p) with
      | false => intro o ho; simp at ho
      | true =>
        intro o ho
        simp only [cond_true, cond_false, List.mem_singleton] at ho
        subst ho
        exact bare_formed_ok (Bool.and_eq_true_iff.1 hf).2
theorem okL_nil : OkL [] := fun o ho => by cases ho
theorem OkL.app {x y : List OpT} (hx : OkL x) (hy : OkL y) : OkL (x ++ y) := fun o ho => by
  rcases List.mem_append.1 ho with h | h
  · exact hx o h
  · exact hy o h
theorem bothX_okL (a b : OpT) (p : Bool) : OkL (bothX a b p).1 ∧ OkL (bothX a b p).2.1 := by
  unfold bothX
  cases decide ((behindX a b p).2 = 0) with
  | false => exact ⟨okL_nil, okL_nil⟩
  | true =>
    cases decide ((behindX b a (!p)).2 = 0) with
    | false => exact ⟨okL_nil, okL_nil⟩
    | true => exact ⟨behX_okL _ _ _, behX_okL _ _ _⟩
theorem OkL.tail {a : OpT} {x : List OpT} (h : OkL (a :: x)) : OkL x := fun o ho => h o (List.mem_cons_of_mem _ ho)
theorem OkL.head {a : OpT} {x : List OpT} (h : OkL (a :: x)) : OkL [a] := fun o ho => by rw [List.mem_singleton] at ho; exact ho ▸ h a List.mem_cons_self

theorem bringF_okL (prior : Bool) : ∀ (n : Nat) (xs ys : List OpT) (r), bringF prior n xs ys = some r → OkL xs → OkL ys → OkL r.1 ∧ OkL r.2.1
  | 0, _, _, _, h, _, _ => by cases h
  | n + 1, xs, ys, r, h, ox, oy => by
    rw [bringF_succ] at h
    unfold bringS at h
    cases hm : muchP xs ys with
    | true => rw [hm] at h; simp at h; subst h; exact ⟨okL_nil, okL_nil⟩
    | false =>
      rw [hm, cond_false] at h
      match xs, ys, h, ox, oy with
      | [], ys, h, _, oy => simp at h; subst h; exact ⟨okL_nil, oy⟩
      | a :: xs, [], h, ox, _ => simp at h; subst h; exact ⟨ox, okL_nil⟩
      | [a], [b], h, _, _ => simp at h; subst h; exact bothX_okL _ _ _
      | a :: a' :: xs, b :: ys, h, ox, oy =>
        simp only at h
        cases h1 : bringF prior n [a] (b :: ys) with
        | none => rw [h1] at h; cases h
        | some r1 =>
          rw [h1] at h
          obtain ⟨x1, y1, e1⟩ := r1
          obtain ⟨o1, o2⟩ := bringF_okL prior n _ _ _ h1 ox.head oy
          simp only at h
          cases he : !decide (e1 = 0) with
          | true => rw [he] at h; simp at h; subst h; exact ⟨okL_nil, okL_nil⟩
          | false =>
            rw [he, cond_false] at h
            cases h2 : bringF prior n (a' :: xs) y1 with
            | none => rw [h2] at h; cases h
            | some r2 =>
              rw [h2] at h
              obtain ⟨z, w, e2⟩ := r2
              obtain ⟨o3, o4⟩ := bringF_okL prior n _ _ _ h2 ox.tail o2
              simp only at h
              cases he : !decide (e2 = 0) with
              | true => rw [he] at h; simp at h; subst h; exact ⟨okL_nil, okL_nil⟩
              | false =>
                rw [he, cond_false] at h
                cases hmm : muchP (x1 ++ z) w with
                | true => rw [hmm] at h; simp at h; subst h; exact ⟨okL_nil, okL_nil⟩
                | false => rw [hmm] at h; simp at h; subst h; exact ⟨o1.app o3, o4⟩
      | [a], b :: b' :: ys, h, ox, oy =>
        simp only at h
        cases h1 : bringF prior n [a] [b] with
        | none => rw [h1] at h; cases h
        | some r1 =>
          rw [h1] at h
          obtain ⟨x1, y1, e1⟩ := r1
          obtain ⟨o1, o2⟩ := bringF_okL prior n _ _ _ h1 ox oy.head
          simp only at h
          cases he : !decide (e1 = 0) with
          | true => rw [he] at h; simp at h; subst h; exact ⟨okL_nil, okL_nil⟩
          | false =>
            rw [he, cond_false] at h
            cases h2 : bringF prior n x1 (b' :: ys) with
            | none => rw [h2] at h; cases h
            | some r2 =>
              rw [h2] at h
              obtain ⟨z, w, e2⟩ := r2
              obtain ⟨o3, o4⟩ := bringF_okL prior n _ _ _ h2 o1 oy.tail
              simp only at h
              cases he : !decide (e2 = 0) with
              | true => rw [he] at h; simp at h; subst h; exact ⟨okL_nil, okL_nil⟩
              | false =>
                rw [he, cond_false] at h
                cases hmm : muchP z (y1 ++ w) with
                | true => rw [hmm] at h; simp at h; subst h; exact ⟨okL_nil, okL_nil⟩
                | false => rw [hmm] at h; simp at h; subst h; exact ⟨o3, o2.app o4⟩
theorem w_Concat2 (x z : List OpT) (h : x.length + z.length ≤ 1000000) : Pure Tryz.prog 128 [listsV [x, z]] (fun v => v = opsV (x ++ z)) :=
  (w_ConcatOp [x.map opV, z.map opV] (by simp; omega) (by simp)).mono fun v hv => by rw [hv]; simp [opsV]
theorem w_much2 (x z : List OpT) : Pure Tryz.prog 139 [listsV [x, z]] (fun v => v = .bool (muchP x z)) :=
  (w_much [x, z] (by simp)).mono fun v hv => by rw [hv]; simp [muchP]
theorem bothZ' {e : Int} {R : List OpT × List OpT × Int} (h : R = ([], [], e)) : ∃ y, Wk (.tup [.nilsl, .nilsl, .int .i64 e]) y ∧ y.pureB = true ∧ y = BothV R := ⟨BothV ([], [], e), Wk.tup ⟨Wk.nil 11, Wk.nil 11, .refl _, trivial⟩, rfl, by rw [h]⟩
end Bow
/- W65: lists.bring's walk. -/
namespace Bow
open Go Go.Proofs

theorem muchP_le {x y : List OpT} (h : muchP x y = false) : x.length ≤ 4096 ∧ y.length ≤ 4096 := by
  unfold muchP at h
  simp only [Bool.or_eq_false_iff, decide_eq_false_iff_not] at h
  omega
theorem cut1 (o : OpT) (l : List OpT) : V.sl 11 ((((o :: l).map opV).drop (1 : Int).toNat).take (((((o :: l).map opV).length : Nat) : Int).toNat - (1 : Int).toNat)) = opsV l := by
  show V.sl 11 ((l.map opV).take (((((o :: l).map opV).length : Nat) : Int).toNat - (1 : Int).toNat)) = V.sl 11 (l.map opV)
  rw [List.take_of_length_le]
  simp
set_option maxHeartbeats 4000000 in
set_option maxRecDepth 100000 in
theorem w_bring (prior : Bool) : ∀ (n : Nat) (xs ys : List OpT) (R), bringF prior n xs ys = some R → OkL xs → OkL ys → Pure Tryz.prog 90 [opsV xs, opsV ys, .bool prior] (fun x => x = BothV R)
  | 0, _, _, _, h, _, _ => by cases h
  | n + 1, xs, ys, R, h, ox, oy => by
    have cm := w_much2 xs ys
    rw [bringF_succ] at h
    unfold bringS at h
    refine pure_wk (pure_fn 300 Tryz.func90 rfl rfl rfl fun B => ?_)
    refine ⟨⟨rfl, rfl, trivial⟩, ?_⟩
    show CallThen _ _ _ _ _ _
    refine call_pure_frz ?_
    refine ⟨rfl, rfl, _, cm, rfl, ?_⟩
    rintro x rfl
    refine ⟨fun g1 => go 300 ?_, fun g1 => go 300 ?_⟩
    · rw [g1] at h
      simp only [cond_true, Option.some.injEq] at h
      exact ⟨trivial, rfl, rfl, rfl, bothZ' h.symm⟩
    rw [g1, cond_false] at h
    have hlen := muchP_le g1
    match xs, ys, h, ox, oy, hlen with
    | [], ys, h, _, _, _ =>
      simp only [Option.some.injEq] at h
      refine ⟨fun g2 => go 300 ?_, fun g2 => absurd rfl (ne_of g2)⟩
      exact ⟨trivial, rfl, rfl, rfl, BothV ([], ys, 0), Wk.refl _, rfl, by rw [h]⟩
    | a :: xs, [], h, _, _, _ =>
      simp only [Option.some.injEq] at h
      refine ⟨fun g2 => absurd (eq_of g2) (by simp; omega), fun g2 => go 300 ?_⟩
      refine ⟨fun g3 => go 300 ?_, fun g3 => absurd rfl (ne_of g3)⟩
      exact ⟨trivial, rfl, rfl, rfl, BothV (a :: xs, [], 0), Wk.refl _, rfl, by rw [h]⟩
    | [a], [b], h, ox, oy, _ =>
      simp only [Option.some.injEq] at h
      have cb := w_BothX a b prior (ox a List.mem_cons_self).1 (oy b List.mem_cons_self).1 ⟨(ox a List.mem_cons_self).2, (oy b List.mem_cons_self).2⟩
      rw [h] at cb
      refine ⟨fun g2 => absurd (eq_of g2) (by simp), fun g2 => go 300 ?_⟩
      refine ⟨fun g3 => absurd (eq_of g3) (by simp), fun g3 => go 300 ?_⟩
      refine ⟨fun g4 => absurd (lt_of g4) (by simp), fun g4 => go 300 ?_⟩
      refine ⟨fun g5 => absurd (lt_of g5) (by simp), fun g5 => go 300 ?_⟩
      show Goes _ _ _ _
      refine goes_draw 300 ⟨by decide, _, rfl, by decide, _, rfl, _, cb, rfl, ?_⟩
      refine ⟨by kernel_rfl, ?_⟩
      exact ⟨trivial, rfl, rfl, rfl, BothV R, Wk.refl _, rfl, rfl⟩
    | a :: a' :: xs, b :: ys, h, ox, oy, hlen =>
      simp only at h
      obtain ⟨r1, h1⟩ : ∃ r1, bringF prior n [a] (b :: ys) = r1 := ⟨_, rfl⟩
      rw [h1] at h
      match r1, h1, h with
      | none, _, h => cases h
      | some (x1, y1, e1), h1, h =>
      simp only at h
      have c1 := w_bring prior n _ _ _ h1 ox.head oy
      obtain ⟨o1, o2⟩ := bringF_okL prior n _ _ _ h1 ox.head oy
      refine ⟨fun g2 => absurd (eq_of g2) (by simp; omega), fun g2 => go 300 ?_⟩
      refine ⟨fun g3 => absurd (eq_of g3) (by simp; omega), fun g3 => go 300 ?_⟩
      refine ⟨fun g4 => go 300 ?_, fun g4 => absurd (not_lt_of g4) (by simp; omega)⟩
      refine ⟨by decide, by decide, by simp; omega, ?_⟩
      show CallThen _ _ _ _ _ _
      refine call_pure c1 rfl ?_
      rintro x rfl
      refine ⟨fun g5 => go 300 ?_, fun g5 => go 300 ?_⟩
      · have g5 := ne_of' g5
        rw [decide_eq_false g5] at h
        simp only [Bool.not_false, cond_true, Option.some.injEq] at h
        exact ⟨trivial, rfl, rfl, rfl, bothZ' h.symm⟩
      have g5 := eq_of' g5
      subst g5
      simp only [decide_true, Bool.not_true, cond_false] at h
      obtain ⟨r2, h2⟩ : ∃ r2, bringF prior n (a' :: xs) y1 = r2 := ⟨_, rfl⟩
      rw [h2] at h
      match r2, h2, h with
      | none, _, h => cases h
      | some (z, w, e2), h2, h =>
      simp only at h
      have c2 := w_bring prior n _ _ _ h2 ox.tail o2
      refine ⟨by decide, by simp only [List.length_map, List.length_cons]; omega, Int.le_refl _, ?_⟩
      show CallThen _ _ _ _ _ _
      refine call_pure (pure_args c2 ⟨Wk.of_eq (cut1 a (a' :: xs)), .refl _, .refl _, trivial⟩ rfl rfl) rfl ?_
      rintro x rfl
      refine ⟨fun g6 => go 300 ?_, fun g6 => go 300 ?_⟩
      · have g6 := ne_of' g6
        rw [decide_eq_false g6] at h
        simp only [Bool.not_false, cond_true, Option.some.injEq] at h
        exact ⟨trivial, rfl, rfl, rfl, bothZ' h.symm⟩
      have g6 := eq_of' g6
      subst g6
      simp only [decide_true, Bool.not_true, cond_false] at h
      have i1 := (bringF_inv prior n _ _ _ _ h1).s
      have i2 := (bringF_inv prior n _ _ _ _ h2).s
      simp only [List.length_cons, List.length_nil] at i1 i2 hlen
      refine ⟨⟨rfl, rfl, trivial⟩, ?_⟩
      show CallThen _ _ _ _ _ _
      refine call_pure_frz ?_
      refine ⟨rfl, rfl, _, w_Concat2 x1 z (by omega), rfl, ?_⟩
      rintro x rfl
      refine ⟨⟨rfl, rfl, trivial⟩, ?_⟩
      show CallThen _ _ _ _ _ _
      refine call_pure_frz ?_
      refine ⟨rfl, rfl, _, w_much2 (x1 ++ z) w, rfl, ?_⟩
      rintro x rfl
      refine ⟨fun g7 => go 300 ?_, fun g7 => go 300 ?_⟩
      · have g7 : muchP (x1 ++ z) w = false := by simpa using g7
        rw [g7] at h
        simp only [cond_false, Option.some.injEq] at h
        exact ⟨trivial, rfl, rfl, rfl, BothV (x1 ++ z, w, 0), Wk.refl _, rfl, by rw [h]⟩
      · have g7 : muchP (x1 ++ z) w = true := by simpa using g7
        rw [g7] at h
        simp only [cond_true, Option.some.injEq] at h
        exact ⟨trivial, rfl, rfl, rfl, bothZ' h.symm⟩
    | [a], b :: b' :: ys, h, ox, oy, hlen =>
      simp only at h
      obtain ⟨r1, h1⟩ : ∃ r1, bringF prior n [a] [b] = r1 := ⟨_, rfl⟩
      rw [h1] at h
      match r1, h1, h with
      | none, _, h => cases h
      | some (x1, y1, e1), h1, h =>
      simp only at h
      have c1 := w_bring prior n _ _ _ h1 ox oy.head
      obtain ⟨o1, o2⟩ := bringF_okL prior n _ _ _ h1 ox oy.head
      refine ⟨fun g2 => absurd (eq_of g2) (by simp), fun g2 => go 300 ?_⟩
      refine ⟨fun g3 => absurd (eq_of g3) (by simp; omega), fun g3 => go 300 ?_⟩
      refine ⟨fun g4 => absurd (lt_of g4) (by simp), fun g4 => go 300 ?_⟩
      refine ⟨fun g4 => go 300 ?_, fun g4 => absurd (not_lt_of g4) (by simp; omega)⟩
      refine ⟨by decide, by decide, by simp; omega, ?_⟩
      show CallThen _ _ _ _ _ _
      refine call_pure c1 rfl ?_
      rintro x rfl
      refine ⟨fun g5 => go 300 ?_, fun g5 => go 300 ?_⟩
      · have g5 := ne_of' g5
        rw [decide_eq_false g5] at h
        simp only [Bool.not_false, cond_true, Option.some.injEq] at h
        exact ⟨trivial, rfl, rfl, rfl, bothZ' h.symm⟩
      have g5 := eq_of' g5
      subst g5
      simp only [decide_true, Bool.not_true, cond_false] at h
      obtain ⟨r2, h2⟩ : ∃ r2, bringF prior n x1 (b' :: ys) = r2 := ⟨_, rfl⟩
      rw [h2] at h
      match r2, h2, h with
      | none, _, h => cases h
      | some (z, w, e2), h2, h =>
      simp only at h
      have c2 := w_bring prior n _ _ _ h2 o1 oy.tail
      refine ⟨by decide, by simp only [List.length_map, List.length_cons]; omega, Int.le_refl _, ?_⟩
      show CallThen _ _ _ _ _ _
      refine call_pure (pure_args c2 ⟨.refl _, Wk.of_eq (cut1 b (b' :: ys)), .refl _, trivial⟩ rfl rfl) rfl ?_
      rintro x rfl
      refine ⟨fun g6 => go 300 ?_, fun g6 => go 300 ?_⟩
      · have g6 := ne_of' g6
        rw [decide_eq_false g6] at h
        simp only [Bool.not_false, cond_true, Option.some.injEq] at h
        exact ⟨trivial, rfl, rfl, rfl, bothZ' h.symm⟩
      have g6 := eq_of' g6
      subst g6
      simp only [decide_true, Bool.not_true, cond_false] at h
      have i1 := (bringF_inv prior n _ _ _ _ h1).s
      have i2 := (bringF_inv prior n _ _ _ _ h2).s
      simp only [List.length_cons, List.length_nil] at i1 i2 hlen
      refine ⟨⟨rfl, rfl, trivial⟩, ?_⟩
      show CallThen _ _ _ _ _ _
      refine call_pure_frz ?_
      refine ⟨rfl, rfl, _, w_Concat2 y1 w (by omega), rfl, ?_⟩
      rintro x rfl
      refine ⟨⟨rfl, rfl, trivial⟩, ?_⟩
      show CallThen _ _ _ _ _ _
      refine call_pure_frz ?_
      refine ⟨rfl, rfl, _, w_much2 z (y1 ++ w), rfl, ?_⟩
      rintro x rfl
      refine ⟨fun g7 => go 300 ?_, fun g7 => go 300 ?_⟩
      · have g7 : muchP z (y1 ++ w) = false := by simpa using g7
        rw [g7] at h
        simp only [cond_false, Option.some.injEq] at h
        exact ⟨trivial, rfl, rfl, rfl, BothV (z, y1 ++ w, 0), Wk.refl _, rfl, by rw [h]⟩
      · have g7 : muchP z (y1 ++ w) = true := by simpa using g7
        rw [g7] at h
        simp only [cond_true, Option.some.injEq] at h
        exact ⟨trivial, rfl, rfl, rfl, bothZ' h.symm⟩
theorem bringX_inv (prior : Bool) (xs ys : List OpT) : (bringX prior xs ys).1.length + (bringX prior xs ys).2.1.length ≤ xs.length + ys.length := by
  obtain ⟨n, h⟩ := bringX_spec prior xs ys
  obtain ⟨⟨x, y, e⟩, hr⟩ : ∃ r, bringX prior xs ys = r := ⟨_, rfl⟩
  rw [hr] at h ⊢
  by_cases he : e = 0
  · subst he
    exact (bringF_inv prior n _ _ _ _ h).s
  · obtain ⟨q1, q2⟩ := bringF_err h he
    simp only [q1, q2, List.length_nil]
    omega
theorem bringX_okL {prior : Bool} {xs ys : List OpT} (ox : OkL xs) (oy : OkL ys) : OkL (bringX prior xs ys).1 ∧ OkL (bringX prior xs ys).2.1 := by
  obtain ⟨n, h⟩ := bringX_spec prior xs ys
  exact bringF_okL prior n _ _ _ h ox oy
theorem bareL_len (l : List OpT) : (bareL l).length = l.length := by simp [bareL]
theorem bareL_okL {l : List OpT} (h : OkL l) : OkL (bareL l) := fun o ho => by
  obtain ⟨o', h1, rfl⟩ := List.mem_map.1 ho
  refine ⟨bare_ok (h o' h1).1, ?_⟩
  have := (h o' h1).2
  unfold bareO
  cases o'.kind == 1 <;> cases o'.kind == 2 <;> cases o'.kind == 3 <;> cases o'.kind == 4 <;> cases o'.kind == 5 <;> cases o'.kind == 6 <;> simp [noOp] <;> omega
set_option maxRecDepth 100000 in
theorem w_listsBoth (xs ys : List OpT) (prior : Bool) (ox : OkL xs) (oy : OkL ys) (hl : xs.length + ys.length ≤ 1000000) : Pure Tryz.prog 31 [opsV xs, opsV ys, .bool prior] (fun x => x = BothV (listsX prior xs ys)) := by
  obtain ⟨n, h⟩ := bringX_spec prior xs ys
  have cb := w_bring prior n xs ys _ h ox oy
  have hi := bringX_inv prior xs ys
  obtain ⟨o1, o2⟩ := bringX_okL (prior := prior) ox oy
  refine pure_fn 300 Tryz.func31 rfl rfl rfl fun B => ?_
  show CallThen _ _ _ _ _ _
  refine call_pure cb rfl ?_
  rintro x rfl
  show CallThen _ _ _ _ _ _
  refine call_pure (w_lbare _ (by omega) (fun o ho => (o1 o ho).1.lt)) rfl ?_
  rintro x rfl
  show CallThen _ _ _ _ _ _
  refine call_pure (w_lbare _ (by omega) (fun o ho => (o2 o ho).1.lt)) rfl ?_
  rintro x rfl
  exact ⟨trivial, rfl, rfl, rfl, rfl⟩
end Bow
/- W66: the laws of chapter 13: what they use; the examples; which lists say the same. -/
namespace Bow
open Go Go.Proofs

theorem okE_op (o : OpT) : okE 11 (opV o) := ⟨rfl, rfl⟩
theorem okLK {l : List OpT} (h : (l.all fun o => Nat.ble o.path.length 1000000 && Nat.ble o.to.length 1000 && Nat.ble o.label.length 1000000 && Nat.ble o.key.length 1000000 && Nat.ble o.value.length 1000000 && Nat.ble o.pieces.length 1000000 && Nat.ble (putsLen o.pieces) 1000000) = true) : OkL l := by
  intro o ho
  have := List.all_eq_true.1 h o ho
  simp only [Bool.and_eq_true, Nat.ble_eq] at this
  obtain ⟨⟨⟨⟨⟨⟨h1, h2⟩, h3⟩, h4⟩, h5⟩, h6⟩, h7⟩ := this
  exact ⟨⟨⟨h1, by omega, h3, h4, h5, h6⟩, by omega⟩, h2⟩
/-- Numbers that are the same as themselves. -/
theorem w_SameInts (p : List Int) (hp : p.length ≤ 1000000) : Pure Tryz.prog 76 [pathV p, pathV p] (fun x => x = .bool true) := by
  refine pure_wk (pure_fn 300 Tryz.func76 rfl rfl rfl fun B => ?_)
  refine ⟨fun g => absurd rfl (ne_of' g), fun _ => go 300 ?_⟩
  show Goes _ _ _ _
  refine goes_iter (ι := Nat) (fun i => i ≤ p.length) (fun i => p.length - i) (fun i => [(5, .int .i64 i), (0, pathV p), (1, pathV p)]) (fun _ => []) 0 300 (fun _ => rfl) (fun _ => rfl) ⟨Nat.zero_le _, ⟨⟨rfl, rfl⟩, ⟨rfl, rfl⟩, ⟨rfl, rfl⟩, trivial⟩, trivial⟩ ?_
  rintro i k1 next
  refine ⟨fun hlt => go 300 ?_, fun hge => go 300 ?_⟩
  · have hi : i < p.length := by simpa using hlt
    have hx : (p.map intV)[i]? = some (intV p[i]) := by simp [hi]
    show Goes _ _ _ _
    refine goes_draw 300 ⟨Int.natCast_nonneg i, _, hx, Int.natCast_nonneg i, _, hx, ?_⟩
    refine ⟨by kernel_rfl, ?_⟩
    refine ⟨fun g => absurd rfl (ne_of' g), fun _ => go 300 ?_⟩
    refine ⟨by constructor <;> omega, ?_⟩
    show Goes _ _ _ _
    exact next (i + 1) _ _ ⟨hi, by omega, ⟨⟨rfl, rfl⟩, ⟨rfl, rfl⟩, ⟨rfl, rfl⟩, trivial⟩, trivial⟩
  · exact ⟨trivial, rfl, rfl, rfl, leaf_tt rfl⟩
theorem ex13_0 : Pure Tryz.prog 31 [opsV [noOp 1, { noOp 1 with at_ := 2 }], opsV [{ noOp 2 with path := [1] }], .bool true] (fun x => x = BothV ([noOp 1, { noOp 1 with at_ := 2 }], [{ noOp 2 with path := [3] }], 0)) := by
  have h := w_listsBoth [noOp 1, { noOp 1 with at_ := 2 }] [{ noOp 2 with path := [1] }] true (okLK (by decide)) (okLK (by decide)) (by decide)
  have e : bringX true [noOp 1, { noOp 1 with at_ := 2 }] [{ noOp 2 with path := [1] }] = ([noOp 1, { noOp 1 with at_ := 2 }], [{ noOp 2 with path := [3] }], 0) := bringX_eq (n := 9) (by kernel_rfl)
  rwa [show listsX true [noOp 1, { noOp 1 with at_ := 2 }] [{ noOp 2 with path := [1] }] = ([noOp 1, { noOp 1 with at_ := 2 }], [{ noOp 2 with path := [3] }], 0) by unfold listsX; rw [e]; kernel_rfl] at h
theorem ex13_1 : Pure Tryz.prog 31 [opsV [{ noOp 2 with path := [0] }, { noOp 2 with path := [0] }], opsV [{ noOp 5 with path := [0] }, { noOp 5 with path := [1] }], .bool true] (fun x => x = BothV ([{ noOp 2 with path := [0] }, { noOp 2 with path := [0] }], [], 0)) := by
  have h := w_listsBoth [{ noOp 2 with path := [0] }, { noOp 2 with path := [0] }] [{ noOp 5 with path := [0] }, { noOp 5 with path := [1] }] true (okLK (by decide)) (okLK (by decide)) (by decide)
  have e : bringX true [{ noOp 2 with path := [0] }, { noOp 2 with path := [0] }] [{ noOp 5 with path := [0] }, { noOp 5 with path := [1] }] = ([{ noOp 2 with path := [0] }, { noOp 2 with path := [0] }], [], 0) := bringX_eq (n := 9) (by kernel_rfl)
  rwa [show listsX true [{ noOp 2 with path := [0] }, { noOp 2 with path := [0] }] [{ noOp 5 with path := [0] }, { noOp 5 with path := [1] }] = ([{ noOp 2 with path := [0] }, { noOp 2 with path := [0] }], [], 0) by unfold listsX; rw [e]; kernel_rfl] at h
theorem ex13_2 : Pure Tryz.prog 31 [opsV [], opsV [{ noOp 2 with path := [1] }], .bool true] (fun x => x = BothV ([], [{ noOp 2 with path := [1] }], 0)) := by
  have h := w_listsBoth [] [{ noOp 2 with path := [1] }] true (okLK (by decide)) (okLK (by decide)) (by decide)
  have e : bringX true [] [{ noOp 2 with path := [1] }] = ([], [{ noOp 2 with path := [1] }], 0) := bringX_eq (n := 9) (by kernel_rfl)
  rwa [show listsX true [] [{ noOp 2 with path := [1] }] = ([], [{ noOp 2 with path := [1] }], 0) by unfold listsX; rw [e]; kernel_rfl] at h
set_option pp.maxSteps 300 in
set_option maxHeartbeats 4000000 in
set_option maxRecDepth 100000 in
theorem w_works13 : Pure Tryz.prog 33 [] (fun x => x = .bool true) := by
  refine pure_wk (pure_fn 20 Tryz.func33 rfl rfl rfl fun B => ?_)
  refine ⟨⟨rfl, rfl, trivial⟩, ⟨rfl, trivial⟩, ?_⟩
  refine ⟨rfl, rfl, ⟨rfl, trivial⟩, ?_⟩
  show CallThen _ _ _ _ _ _
  refine call_pure_frz ?_
  refine ⟨rfl, rfl, rfl, rfl, _, pure_args ex13_0 ⟨Wk.sl ⟨⟨⟨.refl _, Wk.nil 1, .refl _, Wk.nil 1, .refl _, Wk.ff, .refl _, .refl _, .refl _, Wk.ff, Wk.nil 3, trivial⟩, okE_op _⟩, ⟨⟨.refl _, Wk.nil 1, .refl _, Wk.nil 1, .refl _, Wk.ff, .refl _, .refl _, .refl _, Wk.ff, Wk.nil 3, trivial⟩, okE_op _⟩, trivial⟩, Wk.sl ⟨⟨⟨.refl _, .refl _, .refl _, Wk.nil 1, .refl _, Wk.ff, .refl _, .refl _, .refl _, Wk.ff, Wk.nil 3, trivial⟩, okE_op _⟩, trivial⟩, Wk.tt, trivial⟩ rfl rfl, rfl, ?_⟩
  rintro x rfl
  show Goes _ _ _ _
  refine go 22 ?_
  refine ⟨⟨rfl, trivial⟩, ⟨rfl, trivial⟩, ?_⟩
  refine ⟨rfl, rfl, rfl, rfl, ⟨rfl, rfl, trivial⟩, ?_⟩
  refine ⟨⟨rfl, trivial⟩, ⟨rfl, trivial⟩, ?_⟩
  refine ⟨rfl, rfl, rfl, rfl, ⟨rfl, rfl, trivial⟩, ?_⟩
  show CallThen _ _ _ _ _ _
  refine call_pure_frz ?_
  refine ⟨rfl, rfl, rfl, rfl, _, pure_args ex13_1 ⟨Wk.sl ⟨⟨⟨.refl _, .refl _, .refl _, Wk.nil 1, .refl _, Wk.ff, .refl _, .refl _, .refl _, Wk.ff, Wk.nil 3, trivial⟩, okE_op _⟩, ⟨⟨.refl _, .refl _, .refl _, Wk.nil 1, .refl _, Wk.ff, .refl _, .refl _, .refl _, Wk.ff, Wk.nil 3, trivial⟩, okE_op _⟩, trivial⟩, Wk.sl ⟨⟨⟨.refl _, .refl _, .refl _, Wk.nil 1, .refl _, Wk.ff, .refl _, .refl _, .refl _, Wk.ff, Wk.nil 3, trivial⟩, okE_op _⟩, ⟨⟨.refl _, .refl _, .refl _, Wk.nil 1, .refl _, Wk.ff, .refl _, .refl _, .refl _, Wk.ff, Wk.nil 3, trivial⟩, okE_op _⟩, trivial⟩, Wk.tt, trivial⟩ rfl rfl, rfl, ?_⟩
  rintro x rfl
  show Goes _ _ _ _
  refine go 18 ?_
  refine ⟨⟨rfl, trivial⟩, ?_⟩
  refine ⟨rfl, rfl, ⟨rfl, trivial⟩, ?_⟩
  show CallThen _ _ _ _ _ _
  refine call_pure_frz ?_
  refine ⟨rfl, rfl, _, pure_args ex13_2 ⟨Wk.nil 11, Wk.sl ⟨⟨⟨.refl _, .refl _, .refl _, Wk.nil 1, .refl _, Wk.ff, .refl _, .refl _, .refl _, Wk.ff, Wk.nil 3, trivial⟩, okE_op _⟩, trivial⟩, Wk.tt, trivial⟩ rfl rfl, rfl, ?_⟩
  rintro x rfl
  show Goes _ _ _ _
  refine go 40 ?_
  iterate 4 refine ⟨fun _ => go 60 ?_, fun g => absurd rfl (ne_of g)⟩
  refine ⟨by decide, _, rfl, ?_⟩
  iterate 2 refine ⟨fun _ => go 60 ?_, fun g => absurd rfl (ne_of g)⟩
  refine ⟨by decide, _, rfl, ⟨rfl, trivial⟩, ?_⟩
  show CallThen _ _ _ _ _ _
  refine call_pure_frz ?_
  refine ⟨rfl, rfl, _, w_SameInts [3] (by decide), rfl, ?_⟩
  rintro x rfl
  iterate 4 refine ⟨fun _ => go 60 ?_, fun g => absurd g (by decide)⟩
  exact ⟨trivial, rfl, rfl, rfl, leaf_b (by decide)⟩
end Bow
/- W68: which lists say the same; chapter 13's few. -/
namespace Bow
open Go Go.Proofs

def sameL : List OpT → List OpT → Bool
  | [], [] => true
  | a :: x, b :: y => sameO a b && sameL x y
  | _, _ => false
theorem sameL_len : ∀ {x y : List OpT}, x.length ≠ y.length → sameL x y = false
  | [], [], h => absurd rfl h
  | [], _ :: _, _ => rfl
  | _ :: _, [], _ => rfl
  | a :: x, b :: y, h => by
    rw [sameL, sameL_len (x := x) (y := y) (fun e => h (by simp [e])), Bool.and_false]
theorem sameL_drop {x y : List OpT} {i : Nat} (h : i < x.length) (h' : i < y.length) : sameL (x.drop i) (y.drop i) = (sameO x[i] y[i] && sameL (x.drop (i + 1)) (y.drop (i + 1))) := by
  rw [List.drop_eq_getElem_cons h, List.drop_eq_getElem_cons h', sameL]
theorem op_at {l : List OpT} {i : Nat} (h : i < l.length) : (l.map opV)[i]? = some (opV l[i]) := by simp [h]
set_option maxRecDepth 100000 in
theorem w_EqualOp (x y : List OpT) (hl : x.length ≤ 1000000) (hx : ∀ o ∈ x, o.Lt 1000000) (hy : ∀ o ∈ y, o.Lt 1000000) :
    Pure Tryz.prog 140 [opsV x, opsV y, .fn (.func 63) [] []] (fun v => v = .bool (sameL x y)) := by
  refine pure_wk (pure_fn 300 Tryz.func140 rfl rfl rfl fun B => ?_)
  refine ⟨fun g => go 300 ?_, fun g => go 300 ?_⟩
  · have := ne_of' g
    exact ⟨trivial, rfl, rfl, rfl, leaf_ff (sameL_len fun e => this (by simp [e]))⟩
  have hlen : x.length = y.length := by have := eq_of' g; simp at this; omega
  show Goes _ _ _ _
  refine goes_iter (ι := Nat) (fun i => i ≤ x.length ∧ sameL x y = sameL (x.drop i) (y.drop i)) (fun i => x.length - i) (fun i => [(17, .int .i64 i), (16, .int .i64 x.length), (15, opsV x), (0, opsV x), (1, opsV y), (2, .fn (.func 63) [] [])]) (fun _ => []) 0 300 (fun _ => rfl) (fun _ => rfl) ⟨⟨Nat.zero_le _, rfl⟩, ⟨⟨rfl, rfl⟩, ⟨?_, rfl⟩, ⟨rfl, rfl⟩, ⟨rfl, rfl⟩, ⟨rfl, rfl⟩, ⟨rfl, rfl⟩, trivial⟩, trivial⟩ ?_
  · show V.int _ _ = _
    simp
  rintro i ⟨k1, k2⟩ next
  refine ⟨fun hlt => go 300 ?_, fun hge => go 300 ?_⟩
  · have hi : i < x.length := by have := lt_of hlt; omega
    have hi' : i < y.length := by omega
    refine ⟨Int.natCast_nonneg i, _, op_at hi, Int.natCast_nonneg i, _, op_at hi', ?_⟩
    show CallThen _ _ _ _ _ _
    refine call_pure (w_SameO x[i] y[i] (hx _ (List.getElem_mem hi)) (hy _ (List.getElem_mem hi'))) rfl ?_
    rintro v rfl
    rw [sameL_drop hi hi'] at k2
    refine ⟨fun g1 => go 300 ?_, fun g1 => go 300 ?_⟩
    · have g1 : sameO x[i] y[i] = false := by simpa using g1
      exact ⟨trivial, rfl, rfl, rfl, leaf_ff (by rw [k2, g1]; rfl)⟩
    have g1 : sameO x[i] y[i] = true := by simpa using g1
    refine ⟨by constructor <;> omega, ?_⟩
    show Goes _ _ _ _
    refine next (i + 1) _ _ ⟨⟨hi, by rw [k2, g1, Bool.true_and]⟩, by omega, ⟨⟨rfl, rfl⟩, ⟨rfl, rfl⟩, ⟨rfl, rfl⟩, ⟨rfl, rfl⟩, ⟨rfl, rfl⟩, ⟨rfl, rfl⟩, trivial⟩, trivial⟩
  · have hi : i = x.length := by have := not_lt_of hge; omega
    refine ⟨trivial, rfl, rfl, rfl, leaf_tt ?_⟩
    rw [k2, List.drop_of_length_le (by omega), List.drop_of_length_le (by omega)]
    rfl
theorem w_listsSame (x y : List OpT) (hl : x.length ≤ 1000000) (hx : ∀ o ∈ x, o.Lt 1000000) (hy : ∀ o ∈ y, o.Lt 1000000) : Pure Tryz.prog 92 [opsV x, opsV y] (fun v => v = .bool (sameL x y)) := by
  refine pure_fn 300 Tryz.func92 rfl rfl rfl fun B => ?_
  show CallThen _ _ _ _ _ _
  refine call_pure (w_EqualOp x y hl hx hy) rfl ?_
  rintro v rfl
  exact ⟨trivial, rfl, rfl, rfl, rfl⟩
set_option maxRecDepth 100000 in
theorem w_ref13Same (x y : List OpT) (hl : x.length ≤ 1000000) (hx : ∀ o ∈ x, o.Lt 1000000) (hy : ∀ o ∈ y, o.Lt 1000000) : Pure Tryz.prog 93 [opsV x, opsV y] (fun v => v = .bool (sameL x y)) := by
  refine pure_wk (pure_fn 300 Tryz.func93 rfl rfl rfl fun B => ?_)
  refine ⟨fun g => go 300 ?_, fun g => go 300 ?_⟩
  · have := ne_of' g
    exact ⟨trivial, rfl, rfl, rfl, leaf_ff (sameL_len fun e => this (by simp [e]))⟩
  have hlen : x.length = y.length := by have := eq_of' g; simp at this; omega
  show Goes _ _ _ _
  refine goes_iter (ι := Nat) (fun i => i ≤ x.length ∧ sameL x y = sameL (x.drop i) (y.drop i)) (fun i => x.length - i) (fun i => [(5, .int .i64 i), (0, opsV x), (1, opsV y)]) (fun _ => []) 0 300 (fun _ => rfl) (fun _ => rfl) ⟨⟨Nat.zero_le _, rfl⟩, ⟨⟨rfl, rfl⟩, ⟨rfl, rfl⟩, ⟨rfl, rfl⟩, trivial⟩, trivial⟩ ?_
  rintro i ⟨k1, k2⟩ next
  refine ⟨fun hlt => go 300 ?_, fun hge => go 300 ?_⟩
  · have hi : i < x.length := by have := lt_of hlt; simp at this; omega
    have hi' : i < y.length := by omega
    show Goes _ _ _ _
    refine goes_draw 300 ⟨Int.natCast_nonneg i, _, op_at hi, Int.natCast_nonneg i, _, op_at hi', _, w_refSameO x[i] y[i] (hx _ (List.getElem_mem hi)) (hy _ (List.getElem_mem hi')), rfl, ?_⟩
    rw [sameL_drop hi hi'] at k2
    refine ⟨by kernel_rfl, ?_⟩
    refine ⟨fun g1 => go 300 ?_, fun g1 => go 300 ?_⟩
    · have g1 : sameO x[i] y[i] = false := by simpa using g1
      exact ⟨trivial, rfl, rfl, rfl, leaf_ff (by rw [k2, g1]; rfl)⟩
    have g1 : sameO x[i] y[i] = true := by simpa using g1
    refine ⟨by constructor <;> omega, ?_⟩
    show Goes _ _ _ _
    refine next (i + 1) _ _ ⟨⟨hi, by rw [k2, g1, Bool.true_and]⟩, by omega, ⟨⟨rfl, rfl⟩, ⟨rfl, rfl⟩, ⟨rfl, rfl⟩, trivial⟩, trivial⟩
  · have hi : i = x.length := by have := not_lt_of hge; simp at this; omega
    refine ⟨trivial, rfl, rfl, rfl, leaf_tt ?_⟩
    rw [k2, List.drop_of_length_le (by omega), List.drop_of_length_le (by omega)]
    rfl
theorem w_same13 (x y : List OpT) (hl : x.length ≤ 1000000) (hx : ∀ o ∈ x, o.Lt 1000000) (hy : ∀ o ∈ y, o.Lt 1000000) : Pure Tryz.prog 86 [opsV x, opsV y] (fun v => v = .bool (sameL x y)) := by
  refine pure_fn 300 Tryz.func86 rfl rfl rfl fun B => ?_
  show CallThen _ _ _ _ _ _
  refine call_pure (w_ref13Same x y hl hx hy) rfl ?_
  rintro v rfl
  exact ⟨trivial, rfl, rfl, rfl, rfl⟩
theorem sameO_refl (o : OpT) : sameO o o = true := by
  unfold sameO eqO
  simp
theorem sameL_refl : ∀ l : List OpT, sameL l l = true
  | [] => rfl
  | o :: l => by rw [sameL, sameO_refl, sameL_refl l]; rfl
end Bow
/- W69: the laws ListsSame and ListsJoined, walked. -/
namespace Bow
open Go Go.Proofs

theorem lt_mono {o : OpT} {a b : Nat} (h : o.Lt a) (hab : a ≤ b) : o.Lt b := ⟨Nat.le_trans h.path hab, Nat.le_trans h.to hab, Nat.le_trans h.label hab, Nat.le_trans h.key hab, Nat.le_trans h.value hab, Nat.le_trans h.pieces hab⟩
theorem lightL_lt {l : List OpT} {c : Nat} (h : LightL l c 60) : ∀ o ∈ l, o.Lt 1000000 := fun o ho => lt_mono (h.ops o ho).1 (by decide)
theorem lightL_ok {l : List OpT} {c : Nat} (h : LightL l c 60) : OkL l := fun o ho => by
  obtain ⟨h1, h2⟩ := h.ops o ho
  have := h1.to
  exact ⟨⟨lt_mono h1 (by decide), by omega⟩, by omega⟩
set_option maxRecDepth 100000 in
theorem w_few (l : List OpT) (top : Nat) (ht : top ≤ 1000000) : Pure Tryz.prog 84 [opsV l, .int .i64 top] (fun x => ∃ b : Bool, x = .bool b ∧ (b = true → LightL l top 60)) := by
  have bad : ∃ y, Wk .ff y ∧ y.pureB = true ∧ ∃ b : Bool, y = .bool b ∧ (b = true → LightL l top 60) := ⟨_, Wk.ff, rfl, false, rfl, fun h => by cases h⟩
  refine pure_wk (pure_fn 300 Tryz.func84 rfl rfl rfl fun B => ?_)
  show CallThen _ _ _ _ _ _
  refine call_pure (w_LightList l top 60 ht (by decide)) rfl ?_
  rintro x ⟨b, rfl, hb⟩
  refine ⟨fun g => go 300 ?_, fun g => go 300 ?_⟩
  · exact ⟨trivial, rfl, rfl, rfl, bad⟩
  have hl := hb (by simpa using g)
  have hlen := hl.len
  show Goes _ _ _ _
  refine goes_iter (ι := Nat) (fun i => i ≤ l.length) (fun i => l.length - i) (fun i => [(5, .int .i64 i), (0, opsV l)]) (fun _ => []) 0 300 (fun _ => rfl) (fun _ => rfl) ⟨Nat.zero_le _, ⟨⟨rfl, rfl⟩, ⟨rfl, rfl⟩, trivial⟩, trivial⟩ ?_
  rintro i k1 next
  refine ⟨fun hlt => go 300 ?_, fun hge => go 300 ?_⟩
  · have hi : i < l.length := by simpa using hlt
    have hp := (hl.ops _ (List.getElem_mem hi)).1.pieces
    refine ⟨Int.natCast_nonneg i, _, op_at hi, ?_⟩
    show CallThen _ _ _ _ _ _
    refine call_pure (w_Small l[i].pieces 100 (by omega) (by decide)) rfl ?_
    rintro x ⟨s, rfl⟩
    refine ⟨fun g => go 300 ?_, fun g => go 300 ?_⟩
    · exact ⟨trivial, rfl, rfl, rfl, bad⟩
    refine ⟨by constructor <;> omega, ?_⟩
    show Goes _ _ _ _
    exact next (i + 1) _ _ ⟨hi, by omega, ⟨⟨rfl, rfl⟩, ⟨rfl, rfl⟩, trivial⟩, trivial⟩
  · exact ⟨trivial, rfl, rfl, rfl, .bool true, Wk.tt, rfl, true, rfl, fun _ => hl⟩
set_option maxRecDepth 100000 in
theorem w_ListsSame (x y : List OpT) (_hx : x.length ≤ maxLen) (_hy : y.length ≤ maxLen) : Pure Tryz.prog 32 [opsV x, opsV y] (fun v => v = .bool true) := by
  refine pure_wk (pure_fn 300 Tryz.func32 rfl rfl rfl fun B => ?_)
  have hw := w_works13
  show CallThen _ _ _ _ _ _
  refine call_pure (w_LightList x 50 60 (by decide) (by decide)) rfl ?_
  rintro v ⟨b1, rfl, h1⟩
  refine ⟨fun g1 => go 300 ?_, fun g1 => go 300 ?_⟩
  · show CallThen _ _ _ _ _ _
    refine call_pure hw rfl ?_
    rintro v rfl
    exact ⟨trivial, rfl, rfl, rfl, leaf_b rfl⟩
  have h1 := h1 (by simpa using g1)
  show CallThen _ _ _ _ _ _
  refine call_pure (w_LightList y 50 60 (by decide) (by decide)) rfl ?_
  rintro v ⟨b2, rfl, h2⟩
  refine ⟨fun g2 => go 300 ?_, fun g2 => go 300 ?_⟩
  · show CallThen _ _ _ _ _ _
    refine call_pure hw rfl ?_
    rintro v rfl
    exact ⟨trivial, rfl, rfl, rfl, leaf_b rfl⟩
  have h2 := h2 (by simpa using g2)
  have l1 := h1.len
  have t1 := lightL_lt h1
  have t2 := lightL_lt h2
  show CallThen _ _ _ _ _ _
  refine call_pure (w_listsSame x y (by omega) t1 t2) rfl ?_
  rintro v rfl
  show CallThen _ _ _ _ _ _
  refine call_pure (w_ref13Same x y (by omega) t1 t2) rfl ?_
  rintro v rfl
  refine ⟨fun _ => go 300 ?_, fun g => ?_⟩
  · show CallThen _ _ _ _ _ _
    refine call_pure (w_listsSame x x (by omega) t1 t1) rfl ?_
    rintro v rfl
    rw [sameL_refl]
    refine ⟨fun _ => go 300 ?_, fun g => (by cases g)⟩
    show CallThen _ _ _ _ _ _
    refine call_pure hw rfl ?_
    rintro v rfl
    exact ⟨trivial, rfl, rfl, rfl, leaf_b rfl⟩
  · exfalso
    simp at g
set_option maxHeartbeats 2000000 in
set_option maxRecDepth 100000 in
theorem w_ListsJoined (cs us vs : List OpT) (prior : Bool) (_h1 : cs.length ≤ maxLen) (_h2 : us.length ≤ maxLen) (_h3 : vs.length ≤ maxLen) : Pure Tryz.prog 30 [opsV cs, opsV us, opsV vs, .bool prior] (fun v => v = .bool true) := by
  refine pure_wk (pure_fn 300 Tryz.func30 rfl rfl rfl fun B => ?_)
  have hw := w_works13
  show CallThen _ _ _ _ _ _
  refine call_pure (w_few us 4 (by decide)) rfl ?_
  rintro v ⟨b1, rfl, h1⟩
  refine ⟨fun g1 => go 300 ?_, fun g1 => go 300 ?_⟩
  · show CallThen _ _ _ _ _ _
    refine call_pure hw rfl ?_
    rintro v rfl
    exact ⟨trivial, rfl, rfl, rfl, leaf_b rfl⟩
  have h1 := h1 (by simpa using g1)
  show CallThen _ _ _ _ _ _
  refine call_pure (w_few vs 4 (by decide)) rfl ?_
  rintro v ⟨b2, rfl, h2⟩
  refine ⟨fun g2 => go 300 ?_, fun g2 => go 300 ?_⟩
  · show CallThen _ _ _ _ _ _
    refine call_pure hw rfl ?_
    rintro v rfl
    exact ⟨trivial, rfl, rfl, rfl, leaf_b rfl⟩
  have h2 := h2 (by simpa using g2)
  show CallThen _ _ _ _ _ _
  refine call_pure (w_few cs 4 (by decide)) rfl ?_
  rintro v ⟨b3, rfl, h3⟩
  refine ⟨fun g3 => go 300 ?_, fun g3 => go 300 ?_⟩
  · show CallThen _ _ _ _ _ _
    refine call_pure hw rfl ?_
    rintro v rfl
    exact ⟨trivial, rfl, rfl, rfl, leaf_b rfl⟩
  have h3 := h3 (by simpa using g3)
  have l1 := h1.len
  have l2 := h2.len
  have l3 := h3.len
  have o1 := lightL_ok h1
  have o2 := lightL_ok h2
  have o3 := lightL_ok h3
  have c1 := w_listsBoth cs us prior o3 o1 (by omega)
  have c3 := w_listsBoth cs (us ++ vs) prior o3 (o1.app o2) (by simp; omega)
  have i1 := bringX_inv prior cs us
  have i3 := bringX_inv prior cs (us ++ vs)
  have ok1 := bringX_okL (prior := prior) o3 o1
  have ok3 := bringX_okL (prior := prior) o3 (o1.app o2)
  obtain ⟨⟨x, p, e⟩, r1⟩ : ∃ r, listsX prior cs us = r := ⟨_, rfl⟩
  obtain ⟨⟨z, w, g⟩, r3⟩ : ∃ r, listsX prior cs (us ++ vs) = r := ⟨_, rfl⟩
  have ex : x = bareL (bringX prior cs us).1 := by unfold listsX at r1; simp only [Prod.mk.injEq] at r1; exact r1.1.symm
  have ep : p = bareL (bringX prior cs us).2.1 := by unfold listsX at r1; simp only [Prod.mk.injEq] at r1; exact r1.2.1.symm
  have ox : OkL x := ex ▸ bareL_okL ok1.1
  have op : OkL p := ep ▸ bareL_okL ok1.2
  have lx : x.length + p.length ≤ 8 := by rw [ex, ep, bareL_len, bareL_len]; omega
  have c2 := w_listsBoth x vs prior ox o2 (by omega)
  have i2 := bringX_inv prior x vs
  have ok2 := bringX_okL (prior := prior) ox o2
  obtain ⟨⟨y, q, f⟩, r2⟩ : ∃ r, listsX prior x vs = r := ⟨_, rfl⟩
  have ey : y = bareL (bringX prior x vs).1 := by unfold listsX at r2; simp only [Prod.mk.injEq] at r2; exact r2.1.symm
  have eq : q = bareL (bringX prior x vs).2.1 := by unfold listsX at r2; simp only [Prod.mk.injEq] at r2; exact r2.2.1.symm
  have oy : OkL y := ey ▸ bareL_okL ok2.1
  have oq : OkL q := eq ▸ bareL_okL ok2.2
  have ly : y.length + q.length ≤ 12 := by rw [ey, eq, bareL_len, bareL_len]; omega
  have law : e = 0 → f = 0 → g = 0 → y = z ∧ w = p ++ q := fun he hf hg => by subst he hf hg; exact joined_law r1 r2 r3
  rw [r1] at c1
  rw [r2] at c2
  rw [r3] at c3
  clear r1 r2 r3 ex ep ey eq ok1 ok2 ok3 i1 i2 i3
  have hroom : ∀ n : Nat, n ≤ 1000000 → room n 400 := fun n h => Nat.le_trans (Nat.mul_le_mul_right _ h) (by decide)
  have e3 : opsV (us ++ vs) = .sl 11 (us.map opV ++ vs.map opV) := by unfold opsV; rw [List.map_append]
  rw [e3] at c3
  have er : opsV (p ++ q) = .sl 11 (p.map opV ++ q.map opV) := by unfold opsV; rw [List.map_append]
  have okPQ := op.app oq
  have c4 := w_same13 y y (by omega) (fun o ho => (oy o ho).1.lt) (fun o ho => (oy o ho).1.lt)
  have c5 := w_same13 (p ++ q) (p ++ q) (by simp; omega) (fun o ho => (okPQ o ho).1.lt) (fun o ho => (okPQ o ho).1.lt)
  rw [sameL_refl] at c4 c5
  refine ⟨Nat.le_trans (Nat.mul_le_mul_right _ (show (us.map opV).length ≤ 1000000 by simp; omega)) (by decide), ?_⟩
  refine ⟨rfl, rfl, Nat.le_trans (Nat.mul_le_mul_right _ (show (us.map opV).length + (vs.map opV).length ≤ 1000000 by simp; omega)) (by decide), ?_⟩
  show CallThen _ _ _ _ _ _
  refine call_pure c1 rfl ?_
  rintro v rfl
  show CallThen _ _ _ _ _ _
  refine call_pure c2 rfl ?_
  rintro v rfl
  show CallThen _ _ _ _ _ _
  refine call_pure_frz ?_
  refine ⟨rfl, by simp, _, c3, rfl, ?_⟩
  rintro v rfl
  refine ⟨fun g4 => go 60 ?_, fun g4 => go 60 ?_⟩
  · show CallThen _ _ _ _ _ _
    refine call_pure hw rfl ?_
    rintro v rfl
    exact ⟨trivial, rfl, rfl, rfl, leaf_b rfl⟩
  refine ⟨fun g5 => go 60 ?_, fun g5 => go 60 ?_⟩
  · show CallThen _ _ _ _ _ _
    refine call_pure hw rfl ?_
    rintro v rfl
    exact ⟨trivial, rfl, rfl, rfl, leaf_b rfl⟩
  refine ⟨fun g6 => go 60 ?_, fun g6 => go 60 ?_⟩
  · show CallThen _ _ _ _ _ _
    refine call_pure hw rfl ?_
    rintro v rfl
    exact ⟨trivial, rfl, rfl, rfl, leaf_b rfl⟩
  obtain ⟨hyz, hwr⟩ := law (eq_of' g4) (eq_of' g5) (eq_of' g6)
  have c4' : Pure Tryz.prog 86 [opsV y, opsV z] (fun v => v = .bool true) := by rw [← hyz]; exact c4
  have c5' : Pure Tryz.prog 86 [.sl 11 (p.map opV ++ q.map opV), opsV w] (fun v => v = .bool true) := by rw [hwr, ← er]; exact c5
  refine ⟨Nat.le_trans (Nat.mul_le_mul_right _ (show (p.map opV).length ≤ 1000000 by simp; omega)) (by decide), ?_⟩
  refine ⟨rfl, rfl, Nat.le_trans (Nat.mul_le_mul_right _ (show (p.map opV).length + (q.map opV).length ≤ 1000000 by simp; omega)) (by decide), ?_⟩
  show CallThen _ _ _ _ _ _
  refine call_pure c4' rfl ?_
  rintro v rfl
  refine ⟨fun _ => go 60 ?_, fun g => (by cases g)⟩
  show CallThen _ _ _ _ _ _
  refine call_pure_frz ?_
  refine ⟨rfl, by simp, _, c5', rfl, ?_⟩
  rintro v rfl
  refine ⟨fun _ => go 60 ?_, fun g => (by cases g)⟩
  show CallThen _ _ _ _ _ _
  refine call_pure hw rfl ?_
  rintro v rfl
  exact ⟨trivial, rfl, rfl, rfl, leaf_b rfl⟩
end Bow
/- AE43: own memory that stands elsewhere, read: its length, an element's place, what lies there; pointers held against nil; a range over a function that holds own objects. -/
namespace Bow
open Go

section
variable {c : Cx} {E : Env} {T : Heap} {ops : Array Oper} {i : Nat} {rest : List Nat} {k : List Item} {o : Oper}

theorem goes_lenA {t e : TypeId} {x : Operand} {r g off l sz : Nat} {xs : List V} (n : Nat) (ho : lget ops.toList i = some o) (hg : o.guard = none) (hop : o.op = .call { callee := .builtin .len, args := #[x], argTypes := #[t] }) (hx : opd E x = .osl (.abs r) g off l)
    (ht : tyU c.P t = some (.slice e)) (hi : r ∉ c.imps) (hB : c.B r = some (.vec g sz xs)) (h : putE c.nt o.dst (.int .i64 l) E False fun E' => evp c n (.inRegion ops rest :: k) E' T) : Goes c (.inRegion ops (i :: rest) :: k) E T := by
  refine goes_opTo n ho hg hop (OpTo.still fun o hop w β H m a hs => ⟨.int .i64 l, ?_, .int _ _⟩) (fun cl h => by cases h) h
  have hr := opd_rep hs x
  have hH : H[r]? = some (some (.vec g sz xs)) := hs.baseAt hi hB
  simp only [hx, V.conv, Ref.conv] at hr
  generalize hq : a.eval x = q at hr
  cases hr with
  | oslNil => simp [execOp, hop, resolve, invoke, builtin, Builtin.len_, hq, run_underlying (tyU_sound ht), goInt]
  | oslBlk => simp [execOp, hop, resolve, invoke, builtin, Builtin.len_, hq, run_underlying (tyU_sound ht), goInt]
  | oslStale _ _ _ _ g' sz' xs' _ hH' hg =>
    rw [hH] at hH'
    injection hH' with hH'
    injection hH' with hH'
    injection hH' with e0 _ _
    omega
  | oslDead _ _ _ _ _ hd => rw [hH] at hd; cases hd

theorem goes_indexA {t e : TypeId} {x ix : Operand} {r g off l sz : Nat} {xs : List V} {kk : IntKind} {j : Int} {ti : TypeInfo} (n : Nat) (ho : lget ops.toList i = some o) (hg : o.guard = none) (hop : o.op = .indexAddr t x ix) (hx : opd E x = .osl (.abs r) g off l) (hix : opd E ix = .int kk j)
    (ht : tyU c.P t = some (.slice e)) (hti : tyI c.P e = some ti) (hsz : (Nat.beq sz ti.size && Nat.ble 1 sz) = true) (hi : r ∉ c.imps) (hB : c.B r = some (.vec g sz xs)) (h0 : 0 ≤ j) (hl : j < l)
    (h : putE c.nt o.dst (.eptr (.abs r) g (off + j.toNat) 0) E False fun E' => evp c n (.inRegion ops rest :: k) E' T) : Goes c (.inRegion ops (i :: rest) :: k) E T := by
  simp only [Bool.and_eq_true] at hsz
  have hsz := Nat.eq_of_beq_eq_true hsz.1
  refine goes_opTo n ho hg hop (OpTo.still fun o hop w β H m a hs => ?_) (fun cl h => by cases h) h
  have h1 := opd_rep hs x
  have h2 := opd_rep hs ix
  have hH : H[r]? = some (some (.vec g sz xs)) := hs.baseAt hi hB
  simp only [hx, V.conv, Ref.conv] at h1
  simp only [hix] at h2
  have e2 := rep_int h2
  generalize hq : a.eval x = q at h1
  cases h1 with
  | oslNil _ _ _ _ _ hH' hβ => omega
  | oslBlk _ _ _ _ sz' xs' b N ad cap hH' hβ hl' hN hcap ha hlen =>
    rw [hH] at hH'
    injection hH' with hH'
    injection hH' with hH'
    injection hH' with _ e3 e4
    subst e3 e4
    have := ha (by omega)
    subst this
    refine ⟨.pointer (some ⟨b, (off + j.toNat) * sz, none⟩), ?_, ?_⟩
    · have : (⟨b, off * sz, none⟩ : Addr).add (j.toNat * sz) = ⟨b, (off + j.toNat) * sz, none⟩ := by rw [add_none, Nat.add_mul]
      simp [execOp, hop, hq, e2, Instr.indexAt, asIntOf, run_underlying (tyU_sound ht), h0, hl, run_sizeOf' (tyI_sound hti), ← hsz, this]
    · simp only [V.conv, Ref.conv]
      exact .eptrLive r g _ 0 sz xs b N hH hβ (by omega)
  | oslStale _ _ _ _ g' sz' xs' _ hH' hg =>
    rw [hH] at hH'
    injection hH' with hH'
    injection hH' with hH'
    injection hH' with e0 _ _
    omega
  | oslDead _ _ _ _ _ hd => rw [hH] at hd; cases hd

/-! ### Pointers held against nil -/
end
end Bow
/- AE44: regions that draw their order and hold a call that hands back own memory. -/
namespace Bow
open Go

/-- A call that hands back a slice of own memory, into a reserved name. -/
theorem fact_call_make {c : Cx} {ops : Array Oper} {i : Nat} {o : Oper} {E : Env} {T : Heap} {gs : List Tmp} {f : Operand} {args : Array Operand} {ts : Array TypeId} {g : FuncId} {first cap : List V} {p sz : Nat} {xs : List V} (ho : ops[i]? = some o) (hg : Guarded ops o E gs true)
    (hop : o.op = .call { callee := .value f, args := args, argTypes := ts }) (hf : opd E f = .fn (.func g) first cap) (ha : V.pureL (first ++ args.toList.map (opd E) ++ cap) = true) (hd : T[p]? = some (some (.vec 0 0 [])))
    (h : Fun c.P g [] (first ++ args.toList.map (opd E) ++ cap) fun x T' => ∃ g0, x = .osl (.loc 0) g0 0 xs.length ∧ T' = [some (.vec g0 sz xs)]) :
    Fact c ops i E T ⟨o.dst, gs ++ tmpsOf o.op.operands.toList, [], .osl (.loc p) 2 0 xs.length, [(p, some (.vec 2 sz xs))], some p⟩ := by
  intro E' T' e1 e2 e3 w β H m a b cs rest k hs b1 b2 b4
  obtain ⟨q, q1, q2, q3⟩ := b4 p rfl
  have hag := opd_agree (E := E) (E' := E') (xs := o.op.operands.toList) fun t ht => e2 t (List.mem_append_right _ ht)
  rw [hop] at hag
  have hf' : opd E' f = .fn (.func g) first cap := by rw [hag f (by simp [Op.operands, Call.operands])]; exact hf
  have ha' : args.toList.map (opd E') = args.toList.map (opd E) := List.map_congr_left fun z hz => hag z (by simp [Op.operands, Call.operands]; exact .inr (by simpa using hz))
  obtain ⟨va, vc, hq, hl, hr⟩ := fn_rep hs hf' args
  rw [ha'] at hl hr
  unfold Fun at h
  obtain ⟨hen, h⟩ := h
  have hs0 : SRel [] 0 w β H [] ⟨[], [], fun r => (H[r]?).getD none, []⟩ bare := by
    refine ⟨hs.hrel, rfl, fun k => by simp [lk, V.conv]; exact .undef _, rfl, List.nodup_nil, by simp, rfl, fun r h _ => ?_, fun r h1 => ?_, by simp, by simp, by simp, rfl, by simp⟩
    · simp [h]
    · simp [List.getElem?_eq_none h1]
  obtain ⟨x, T1, v, w', β', H', m', fr, ⟨g0, rfl, rfl⟩, k1, k2, k3, k4, k5, k6⟩ := h w β H [] _ _ (b.atR a (.inRegion ops (i :: rest) :: k) :: cs) hs0 hl (fun j x v hj hv => by
    have h1 := hr j x v hj hv
    have hx := pureL_mem' _ ha x (List.mem_of_getElem? hj)
    rw [pure_conv _ _ hx] at h1 ⊢
    exact h1)
  have hm1 : m'.length = 1 := k1.mlen
  obtain ⟨r', rfl⟩ : ∃ r', m' = [r'] := by
    match m', hm1 with
    | [r'], _ => exact ⟨r', rfl⟩
  have hr' : H'[r']? = some (some (.vec g0 sz xs)) := k1.loc 0 r' _ rfl rfl
  have hr'l := lt_of_get hr'
  have hnew : H.length ≤ r' := by
    rcases Nat.lt_or_ge r' H.length with h1 | h1
    · exfalso
      obtain ⟨o1, ho1, _⟩ := k2.evo r' _ h1 hr'
      have h2 : (H[r']?).getD none = none := k1.own 0 r' (Nat.zero_le _) rfl
      rw [ho1] at h2
      cases h2
    · exact h1
  have hql := hs.lt q1
  have hqr : q ≠ r' := fun e => by omega
  have hHq : H[q]? = some (some (.vec 0 0 [])) := hs.loc p q _ q1 (q3.trans hd)
  have hlen : H.length ≤ H'.length := k2.len
  have hbase : ∀ r, r < H'.length → r ≠ r' → H'[r]? = some ((H[r]?).getD none) := fun r hr hne => k1.base r hr (by simpa using hne)
  have hold : ∀ r, r < H.length → H'[r]? = H[r]? := fun r hr => by
    rw [hbase r (Nat.lt_of_lt_of_le hr hlen) (by omega)]
    simp [hr]
  have hH'q : H'[q]? = some (some (.vec 0 0 [])) := by rw [hold q hql]; exact hHq
  have hβ'q : β' q = .none := k2.virt q hql q2
  have hob := k1.hrel.obj r' _ hr'
  obtain ⟨H2, hH2⟩ : ∃ H2 : Heap, H2 = (H'.set r' none).set q (some (.vec 2 sz xs)) := ⟨_, rfl⟩
  obtain ⟨β2, hβ2⟩ : ∃ β2 : Nat → Loc, β2 = upd β' q (β' r') := ⟨_, rfl⟩
  have hβq : β2 q = β' r' := by rw [hβ2]; exact upd_same _ _ _
  have hβn : ∀ r, r ≠ q → β2 r = β' r := fun r hr => by rw [hβ2]; exact upd_ne hr
  have hH2l : H2.length = H'.length := by rw [hH2]; simp
  have hH2q : H2[q]? = some (some (.vec 2 sz xs)) := by rw [hH2]; exact List.getElem?_set_self (by simp; omega)
  have hH2r : H2[r']? = some none := by rw [hH2, List.getElem?_set_ne hqr, List.getElem?_set_self hr'l]
  have hH2n : ∀ r, r ≠ q → r ≠ r' → H2[r]? = H'[r]? := fun r h1 h2 => by rw [hH2, List.getElem?_set_ne (fun e => h1 e.symm), List.getElem?_set_ne (fun e => h2 e.symm)]
  have hcase : ∀ (r : Nat) (o : HObj), H2[r]? = some (some o) → (r = q ∧ o = .vec 2 sz xs) ∨ (r ≠ q ∧ r ≠ r' ∧ H'[r]? = some (some o)) := fun r o hr => by
    by_cases h1 : r = q
    · subst h1
      rw [hH2q] at hr
      injection hr with hr
      injection hr with hr
      exact .inl ⟨rfl, hr.symm⟩
    · by_cases h2 : r = r'
      · subst h2
        rw [hH2r] at hr
        cases hr
      · rw [hH2n r h1 h2] at hr
        exact .inr ⟨h1, h2, hr⟩
  have f : Fr0 w' β' H' w' β2 H2 := by
    refine ⟨rfl, rfl, rfl, Nat.le_refl _, by rw [hH2l]; exact Nat.le_refl _, ?_, fun _ _ _ => rfl, ?_, fun r hr => hβn r (hr.ne hH'q (fun h => h)), fun r s hs => ?_⟩
    · intro r o' _ ho'
      rcases hcase r o' ho' with ⟨rfl, rfl⟩ | ⟨h1, _, h3⟩
      · exact ⟨_, hH'q, ⟨Nat.zero_le _, fun e => by omega⟩, fun hn => absurd hβ'q hn⟩
      · exact ⟨o', h3, Evo.refl _, fun _ _ => hβn r h1⟩
    · rintro bb ⟨r, M, ⟨o', hl', hln⟩, hb⟩
      rcases hcase r o' hl' with ⟨rfl, _⟩ | ⟨h1, _, h3⟩
      · rw [hβq] at hb
        exact .inr ⟨r', M, ⟨_, hr', fun h => h⟩, hb⟩
      · rw [hβn r h1] at hb
        exact .inr ⟨r, M, ⟨_, h3, hln⟩, hb⟩
    · rcases hcase r _ hs with ⟨_, h2⟩ | ⟨h1, _, h3⟩
      · cases h2
      · exact ⟨h3, hβn r h1⟩
  have hrel : HRel w' β2 H2 := by
    refine k1.hrel.step0 f ?_ ?_
    · intro r o' ho'
      rcases hcase r o' ho' with ⟨rfl, rfl⟩ | ⟨h1, _, h3⟩
      · refine .inr ?_
        rw [hβq]
        cases hb : β' r' with
        | none => trivial
        | nil => rw [hb] at hob; exact hob
        | blk bb N =>
          rw [hb] at hob
          obtain ⟨vs, e, _, c2, c3, c4, c5, c6, c7⟩ := hob
          exact ⟨vs, e, tyG_two _, c2, c3, c4, c5, c6, fun i x j c v h1 h2 h3 => (c7 i x j c v h1 h2 h3).mono0 f⟩
      · exact .inl ⟨h3, hβn r h1, fun _ _ _ => rfl⟩
    · rintro r s bb M M' ⟨o1, h1⟩ ⟨o2, h2⟩ hb hb'
      rcases hcase r o1 h1 with ⟨rfl, _⟩ | ⟨n1, n2, l1⟩
      · rcases hcase s o2 h2 with ⟨rfl, _⟩ | ⟨n3, n4, l2⟩
        · rfl
        · rw [hβq] at hb
          rw [hβn s n3] at hb'
          exact absurd (k1.hrel.inj r' s bb M M' ⟨_, hr'⟩ ⟨_, l2⟩ hb hb').symm n4
      · rcases hcase s o2 h2 with ⟨rfl, _⟩ | ⟨n3, n4, l2⟩
        · rw [hβq] at hb'
          rw [hβn r n1] at hb
          exact absurd (k1.hrel.inj r r' bb M M' ⟨_, l1⟩ ⟨_, hr'⟩ hb hb') n2
        · rw [hβn r n1] at hb
          rw [hβn s n3] at hb'
          exact k1.hrel.inj r s bb M M' ⟨_, l1⟩ ⟨_, l2⟩ hb hb'
  have ft : Fr0 w β H w' β2 H2 := k2.toFr0.trans f
  have hml : m.length = T'.length := hs.mlen
  have hpT : p < T'.length := by have := lt_of_get q1; omega
  have hT'p : T'[p]? = some (some (.vec 0 0 [])) := q3.trans hd
  have hsr : SRel c.imps c.nt w' β2 H2 m ⟨E', T'.set p (some (.vec 2 sz xs)), c.B, c.D⟩ a := by
    refine ⟨hrel, hs.size, fun k => (hs.env k).mono0 ft, by simpa using hml, hs.nodup, fun j r ob hj hob' => ?_, hs.imp, fun r hr hm => ?_, fun r hr => hs.fut r (by omega), hs.own, fun p hp => by simpa using hs.scE p hp, fun j ob hob' => ?_, hs.defs, fun j n hj => ?_⟩
    · by_cases hjp : j = p
      · subst hjp
        rw [q1] at hj
        injection hj with hj
        subst hj
        simp only at hob'
        rw [List.getElem?_set_self hpT] at hob'
        injection hob' with hob'
        subst hob'
        exact hH2q
      · simp only at hob'
        rw [List.getElem?_set_ne (fun e => hjp e.symm)] at hob'
        have hrq : r ≠ q := fun e => hjp (hs.inj hj (e ▸ q1))
        have hrl := hs.lt hj
        rw [hH2n r hrq (by omega), hold r hrl]
        exact hs.loc j r ob hj hob'
    · have hrq : r ≠ q := fun e => hm (e ▸ List.mem_of_getElem? q1)
      by_cases hrr : r = r'
      · subst hrr
        have : c.B r = none := hs.fut r hnew
        simp only
        rw [hH2r, this]
      · rw [hH2n r hrq hrr]
        rcases Nat.lt_or_ge r H.length with h1 | h1
        · rw [hold r h1]
          exact hs.base r h1 hm
        · have : c.B r = none := hs.fut r h1
          simp only
          rw [hbase r (by omega) hrr, this, List.getElem?_eq_none h1]
          rfl
    · simp only [List.length_set] at hob' ⊢
      by_cases hjp : j = p
      · subst hjp
        rw [List.getElem?_set_self hpT] at hob'
        injection hob' with hob'
        injection hob' with hob'
        subst hob'
        trivial
      · rw [List.getElem?_set_ne (fun e => hjp e.symm)] at hob'
        exact hs.scT j ob hob'
    · obtain ⟨r, b', N', d1, d2, d3, d4⟩ := hs.marks j n hj
      have hnp : n ≠ p := fun e => by
        subst e
        simp only at d2
        rw [hT'p] at d2
        cases d2
      have hrq : r ≠ q := fun e => hnp (hs.inj d1 (e ▸ q1))
      refine ⟨r, b', N', d1, by simp only; rw [List.getElem?_set_ne (fun e => hnp e.symm)]; exact d2, ?_, d4⟩
      rw [hβn r hrq]
      have hH0 := hs.loc n r _ d1 d2
      exact dfr_stays k2 (by simpa [HObj.conv] using hH0) d3 (by rw [hold r (hs.lt d1), hH0]; rfl)
  refine ⟨v, w', β2, H2, call_steps ho (hg.wanted (fun t ht => e2 t (List.mem_append_left _ ht)) hs) hop hq hen k4 k6, hsr, ft, fun s hsl hn hne => ?_, ?_⟩
  · have hsq : s ≠ q := fun e => hne p rfl (e ▸ q1)
    rw [hβn s hsq]
    exact k2.virt s hsl hn
  · simp only [V.conv, Ref.conv, q1]
    simp only [V.conv, Ref.conv, List.getElem?_cons_zero] at k3
    have hv : ∀ g2 sz2 xs2, H'[r']? = some (some (.vec g2 sz2 xs2)) → g2 = g0 ∧ sz2 = sz ∧ xs2 = xs := fun g2 sz2 xs2 h2 => by
      rw [hr'] at h2
      injection h2 with h2
      injection h2 with h2
      injection h2 with e0 e1 e2
      exact ⟨e0.symm, e1.symm, e2.symm⟩
    generalize hn : xs.length = n at k3
    cases k3 with
    | oslNil _ _ sz2 xs2 ad hH' hβ =>
      exact .oslNil q 2 sz xs ad hH2q (hβq.trans hβ)
    | oslBlk _ _ _ _ sz2 xs2 bb N ad cap' hH' hβ hl' hN hcap ha hlen' =>
      obtain ⟨_, rfl, rfl⟩ := hv _ _ _ hH'
      exact .oslBlk q 2 0 n sz2 xs2 bb N ad cap' hH2q (hβq.trans hβ) hl' hN hcap ha hlen'
    | oslStale _ _ _ _ g' sz' xs' _ hH' hg' =>
      obtain ⟨e, _, _⟩ := hv _ _ _ hH'
      omega
    | oslDead _ _ _ _ _ hd' => rw [hr'] at hd'; cases hd'

/-! ### The evaluation of such a region -/
/-- A call of one of these functions. -/
def isMk (mk : List FuncId) : Op → Bool
  | .call { callee := .value (.func h), .. } => memN mk h
  | _ => false
def evdN (mk : List FuncId) (c : Cx) (ops : List Oper) (gt : List Tmp) : List Oper → Nat → Env → Heap → (Env → Heap → List Sig → Prop) → Prop
  | [], _, E, T, K => K E T []
  | o :: os, p, E, T, K =>
    let next (x : V) (T' : Heap) (g touch keys : List Nat) : Prop := bif (makesS o.op || isMk mk o.op) then putR c.nt gt o.dst x E fun E' => evdN mk c ops gt os (p + 1) E' T' fun En Tn ss => K En Tn (⟨o.dst, g, touch, keys⟩ :: ss) else putR c.nt gt o.dst x E fun E' => evdN mk c ops gt os p E' T' fun En Tn ss => K En Tn (⟨o.dst, g, touch, keys⟩ :: ss)
    gK ops o E (fun g => next (.tup []) T g [] []) fun g =>
      lfix (g ++ tmpsOf o.op.operands.toList) fun g =>
      bif makes E o.op then evMk c o.op E T p fun x ob kills tc => lfix tc fun tc => lfix (keysOf kills) fun ks => appC T (kills ++ [(p, some ob)]) fun T' => next x T' g (p :: tc) (p :: ks)
      else bif isMk mk o.op then match o.op with
        | .call { callee := .value f, args, .. } => match opd E f with
          | .fn (.func h) first cap => opds E args.toList fun vs => ∃ (sz : Nat) (xs : List V), Fun c.P h [] (first ++ vs ++ cap) (fun x T' => ∃ g0, x = .osl (.loc 0) g0 0 xs.length ∧ T' = [some (.vec g0 sz xs)]) ∧ V.pureL (first ++ vs ++ cap) = true ∧ lget T p = some (some (.vec 0 0 [])) ∧
            appC T [(p, some (.vec 2 sz xs))] fun T' => next (.osl (.loc p) 2 0 xs.length) T' g [p] [p]
          | _ => False
        | _ => False
      else match o.op with
        | .call { callee := .value f, args, .. } => match opd E f with
          | .fn (.func h) first cap => opds E args.toList fun vs => frzAll (first ++ vs ++ cap) T False fun ws _ => lfix (keysOf (killsOf (first ++ vs ++ cap))) fun ks =>
            ∃ x, Pure c.P h ws (fun y => y = x) ∧ V.pureL ws = true ∧ bif flatB x then next x T g ks [] else appC T (killsOf (first ++ vs ++ cap)) fun T' => next x T' g ks ks
          | _ => False
        | op => evOp c op E T False fun x T' => lfix (touch E op) fun tc => lfix (wr E op) fun ks => next x T' g tc ks

theorem evdN_sound {mk : List FuncId} {c : Cx} {ops : Array Oper} {gt : List Tmp} : ∀ (os : List Oper) (i p : Nat) (E : Env) (T : Heap) (K : Env → Heap → List Sig → Prop), evdN mk c ops.toList gt os p E T K → (∀ k, os[k]? = ops[i + k]?) → i + os.length = ops.size →
    ∃ rs ss En Tn, RunP c ops i p E T rs ss En Tn ∧ K En Tn ss
  | [], i, p, E, T, K, h, _, hi => ⟨[], [], E, T, ⟨by simpa using hi, rfl, rfl⟩, h⟩
  | o :: os, i, p, E, T, K, h, hos, hi => by
    unfold evdN at h
    extract_lets next at h
    have ho : ops[i]? = some o := by have := hos 0; simpa using this.symm
    have hos' : ∀ k, os[k]? = ops[i + 1 + k]? := fun k => by have := hos (k + 1); rw [List.getElem?_cons_succ] at this; rw [this, sa]
    have hi' : i + 1 + os.length = ops.size := by simp at hi; omega
    have hlt : i < ops.size := by simp at hi; omega
    -- what follows, from a fact
    have go : ∀ (r : Rec) (g tc ks : List Nat), Fact c ops i E T r → r.dst = o.dst → next r.x (app T r.eff) g tc ks → (∀ t ∈ r.reads, t ∈ g) → (∀ k ∈ r.touch, k ∈ tc) → (∀ k ∈ keysOf r.eff, k ∈ ks) →
        (∀ q, r.virt = some q → q = p ∧ p ∈ tc ∧ p < T.length ∧ (makesS o.op || isMk mk o.op) = true) → ∃ rs ss En Tn, RunP c ops i p E T rs ss En Tn ∧ K En Tn ss := by
      intro r g tc ks hf hd hn h1 h2 h3 h4
      have hn : putR c.nt gt o.dst r.x E fun E' => evdN mk c ops.toList gt os (bif (makesS o.op || isMk mk o.op) then p + 1 else p) E' (app T r.eff) fun En Tn ss => K En Tn (⟨o.dst, g, tc, ks⟩ :: ss) := by
        have h0 := hn
        simp only [next] at h0
        cases hm : (makesS o.op || isMk mk o.op) <;> (rw [hm] at h0; exact h0)
      obtain ⟨x', hk, hdst, hx⟩ := putR_sound hn
      obtain ⟨rs, ss, En, Tn, k1, k2⟩ := evdN_sound os (i + 1) _ _ _ _ hk hos' hi'
      refine ⟨{ r with x := x' } :: rs, ⟨o.dst, g, tc, ks⟩ :: ss, En, Tn, ⟨hf.put hx, by rw [hd]; exact hdst, ⟨hd.symm, h1, h2, h3, fun q hq => ?_⟩, hlt, (bif (makesS o.op || isMk mk o.op) then p + 1 else p), ?_, ?_, ?_⟩, k2⟩
      · obtain ⟨e, hp, _⟩ := h4 q hq
        rw [e]
        exact hp
      · cases (makesS o.op || isMk mk o.op) <;> simp
      · intro q hq
        obtain ⟨e, _, hp, hm⟩ := h4 q hq
        rw [hm]
        exact ⟨e, Nat.le_refl _, hp⟩
      · rw [hd]
        exact k1
    rcases gK_sound h with ⟨gs, hg, h⟩ | ⟨gs, hg, h⟩
    · exact go _ gs [] [] (fact_skip ho hg) rfl h (fun t ht => ht) (fun k hk => hk) (fun k hk => hk) (fun q hq => by cases hq)
    · rw [lfix_eq] at h
      cases hm : makes E o.op with
      | true =>
        rw [hm] at h
        simp only [cond_true] at h
        obtain ⟨x, ob, kills, tc, hk, hf, hp⟩ := fact_mk (gs := gs) ho hg h
        rw [lfix_eq, lfix_eq, appC_eq] at hk
        refine go _ _ _ _ hf rfl hk (fun t ht => ht) (fun k hk => List.mem_cons_of_mem _ hk) (fun k hk => ?_) (fun q hq => ?_)
        · rw [keysOf_append] at hk
          rcases List.mem_append.1 hk with h | h
          · exact List.mem_cons_of_mem _ h
          · simp only [keysOf, List.mem_singleton] at h
            rw [h]
            exact List.mem_cons_self
        · injection hq with hq
          subst hq
          exact ⟨rfl, List.mem_cons_self, hp, by rw [makes_S hm]; rfl⟩
      | false =>
        rw [hm] at h
        simp only [cond_false] at h
        cases hmk : isMk mk o.op with
        | true =>
          simp only [hmk, cond_true] at h
          split at h
          · rename_i f args ts hop
            split at h
            · rename_i h' first cap hfv
              rw [opds_eq] at h
              obtain ⟨sz, xs, hfu, hpl, hlp, hk⟩ := h
              rw [appC_eq] at hk
              rw [lget_eq] at hlp
              exact go _ _ _ _ (fact_call_make ho hg hop hfv hpl hlp hfu) rfl hk (fun t ht => ht) (fun k hk => by cases hk) (fun k hk => hk) (fun q hq => by
                injection hq with hq
                subst hq
                exact ⟨rfl, List.mem_singleton.2 rfl, lt_of_get hlp, by rw [hmk]; simp⟩)
            · exact h.elim
          · exact h.elim
        | false =>
        simp only [hmk, cond_false] at h
        split at h
        · rename_i f args ts hop
          split at h
          · rename_i h' first cap hfv
            rw [opds_eq] at h
            rcases frzAll_det (F := False) _ T _ h with h | ⟨ws, h, hdet⟩
            · exact h.elim
            rw [lfix_eq] at h
            obtain ⟨x, hpu, hpl, hk⟩ := h
            cases hx : flatB x with
            | true =>
              rw [hx] at hk
              exact go _ _ _ _ (fact_call_flat ho hg hop hfv hpl hx hdet hpu) rfl hk (fun t ht => ht) (fun k hk => hk) (fun k hk => by cases hk) (fun q hq => by cases hq)
            | false =>
              rw [hx] at hk
              simp only [cond_false] at hk
              rw [appC_eq] at hk
              exact go _ _ _ _ (fact_call_frz ho hg hop hfv hpl hdet hpu) rfl hk (fun t ht => ht) (fun k hk => hk) (fun k hk => hk) (fun q hq => by cases hq)
          · exact h.elim
        · rcases fact_op ho hg hm h with h | ⟨x, eff, hk, hf, hw⟩
          · exact h.elim
          rw [lfix_eq, lfix_eq] at hk
          refine go _ _ _ _ hf rfl hk (fun t ht => ht) (fun k hk => hk) (fun k hk => ?_) (fun q hq => by cases hq)
          have : ∀ (es : List (Nat × Option HObj)), k ∈ keysOf es → ∃ e ∈ es, e.1 = k := by
            intro es
            induction es with
            | nil => intro h; cases h
            | cons e es ih =>
              intro h
              rcases List.mem_cons.1 h with rfl | h
              · exact ⟨e, List.mem_cons_self, rfl⟩
              · obtain ⟨e', h1, h2⟩ := ih h
                exact ⟨e', List.mem_cons_of_mem _ h1, h2⟩
          obtain ⟨e, he, rfl⟩ := this eff hk
          exact hw e he

def dumsN (mk : List FuncId) : List Oper → Heap
  | [] => []
  | o :: os => bif (makesS o.op || isMk mk o.op) then some (dummyOf o.op) :: dumsN mk os else dumsN mk os
theorem dumsN_mem (mk : List FuncId) : ∀ (os : List Oper) (x : Option HObj), x ∈ dumsN mk os → ∃ d, x = some d ∧ (d = .box [] ∨ d = .vec 0 0 [])
  | [], x, h => by cases h
  | o :: os, x, h => by
    rw [dumsN] at h
    cases hb : (makesS o.op || isMk mk o.op) with
    | false => rw [hb] at h; exact dumsN_mem mk os x h
    | true =>
      rw [hb] at h
      rcases List.mem_cons.1 h with rfl | h
      · refine ⟨_, rfl, ?_⟩
        unfold dummyOf
        split <;> simp
      · exact dumsN_mem mk os x h
theorem goes_draw_ofN (mk : List FuncId) {c : Cx} {ops : Array Oper} {id : Nat} {k : List Item} {E : Env} {T : Heap} {rs : List Rec} {ss : List Sig} {En : Env} {Tn : Heap} (h : RunP c ops 0 T.length E (T ++ dumsN mk ops.toList) rs ss En Tn) (hc : chk ops.toList ss 0 [] [] = true) (hk : Goes c k En Tn) : Goes c (.code (.region id ops true) :: k) E T := by
  obtain ⟨hG, rfl, rfl, hp⟩ := good_of_run h
  refine goes_step fun w β H m a b cs hs h1 h2 h3 => ?_
  -- the draw
  have hsched : ∃ md t, Region.schedule (c.P.follows .mixedOrders) ops (w.tape w.drawn (.order b.fn id)) = Region.linearise md ops t := by
    unfold Region.schedule
    split
    · exact ⟨_, _, rfl⟩
    · exact ⟨_, _, rfl⟩
  obtain ⟨md, t, hmd⟩ := hsched
  have hf0 : Fr w β H { w with drawn := w.drawn + 1 } β H := Fr.of_heap rfl rfl rfl rfl
  have hs0 : SRel c.imps c.nt { w with drawn := w.drawn + 1 } β H m ⟨E, T, c.B, c.D⟩ a := hs.same hf0 (hs.hrel.of_heap rfl rfl rfl rfl)
  obtain ⟨β1, H1, m1, k1, k2, k3, k4⟩ := reserveAll (dumsN mk ops.toList) (dumsN_mem mk _) hs0
  have hml : m1.length = (T ++ dumsN mk ops.toList).length := k1.mlen
  have hzero : ∀ j, (fun _ : Nat => false) j = (Array.replicate ops.size false).getD j false := fun j => by
    by_cases hj : j < ops.size
    · simp [Array.getD, hj]
    · simp [Array.getD, hj]
  obtain ⟨w2, β2, H2, a2, g1, g2, g3, g4⟩ := run_draw md hG hc k1.scE ops.size t (Array.replicate ops.size false) (fun _ => false) { w with drawn := w.drawn + 1 } β1 H1 m1 a b cs k hzero (by simp)
    (by unfold unl; exact Nat.le_trans (List.length_filter_le _ _) (by simp)) (fun i hi => by cases hi) (by
      rw [envS_none _ _ _ fun _ _ => rfl, heapS_none _ _ _ fun _ _ => rfl]
      exact k1) (fun j r p hj _ hv => by
        obtain ⟨q, q1, q2, _⟩ := k4 p (hG.virt j r p hj hv) (by have := hp j r p hj hv; simpa using this)
        exact ⟨q, q1, q2⟩) (fun j r _ hj => by cases hj) h1 h2
  refine ⟨w2, β2, H2, m1, a2, k, ⟨_, _, c.B, c.D⟩, ?_, g2, ?_, hk⟩
  · refine .head stepR_region_draw ?_
    rw [hmd]
    exact g1.trans (.one stepR_region_end)
  · refine ⟨(hf0.toFr0.trans k2.toFr0).trans g3, fun r hr hn => ?_⟩
    have hn1 := k2.virt r hr hn
    refine g4 r (Nat.lt_of_lt_of_le hr k2.len) hn1 fun p hp hq => ?_
    by_cases hlt : p < T.length + (dumsN mk ops.toList).length
    · obtain ⟨q, q1, _, q3⟩ := k4 p hp hlt
      rw [hq] at q1
      injection q1 with q1
      omega
    · have := lt_of_get hq
      rw [hml, List.length_append] at this
      omega
theorem goes_drawN (mk : List FuncId) {c : Cx} {ops : Array Oper} {id : Nat} {k : List Item} {E : Env} {T : Heap} (n : Nat) (h : catC T (dumsN mk ops.toList) fun T0 => evdN mk c ops.toList (guardTmps ops.toList ops.toList) ops.toList T.length E T0 fun En Tn ss => chk ops.toList ss 0 [] [] = true ∧ evp c n k En Tn) :
    Goes c (.code (.region id ops true) :: k) E T := by
  rw [catC_eq] at h
  obtain ⟨rs, ss, En, Tn, h1, h2, h3⟩ := evdN_sound (mk := mk) ops.toList 0 T.length E _ _ h (fun k => by rw [Nat.zero_add, Array.getElem?_toList]) (by simp)
  exact goes_draw_ofN mk h1 h2 (evp_sound n _ _ _ _ h3)
end Bow
/- AE45: own memory under names: calls that hand back named memory, calls that write over it, calls that only read it; stores into it. -/
namespace Bow
open Go

def Ext (B B' : Base) : Prop := ∀ q o, B q = some o → B' q = some o
/-- What stands in B' and not in B. -/
def newPart (B B' : Base) : Base := fun q => match B q with | some _ => none | none => B' q
def Base.add (B N : Base) : Base := fun q => match B q with | some o => some o | none => N q
theorem Ext.refl (B : Base) : Ext B B := fun _ _ h => h
theorem Ext.trans {A B C : Base} (h : Ext A B) (k : Ext B C) : Ext A C := fun q o e => k q o (h q o e)
theorem Ext.add (B N : Base) : Ext B (B.add N) := fun q o h => by simp [Base.add, h]
theorem add_new {B N : Base} {q : Nat} {o : HObj} (h : N q = some o) (hb : B q = none) : (B.add N) q = some o := by simp [Base.add, h, hb]
theorem newPart_get {B B' : Base} {q : Nat} {o : HObj} (h : B' q = some o) (hb : B q = none) : newPart B B' q = some o := by simp [newPart, h, hb]
theorem newPart_old {B B' : Base} {q : Nat} {o : HObj} (h : newPart B B' q = some o) : B q = none ∧ B' q = some o := by
  unfold newPart at h
  split at h
  · cases h
  · rename_i hb; exact ⟨hb, h⟩
theorem newPart_ext {B B' B'' : Base} (h : Ext B' B'') : Ext (newPart B B') (newPart B B'') := fun q o e => by
  obtain ⟨h1, h2⟩ := newPart_old e
  exact newPart_get (h q o h2) h1
theorem newPart_add {B B' N : Base} (h : Ext B B') (hn : ∀ q o, N q = some o → B' q = none) : Ext N (newPart B (B'.add N)) := fun q o e => by
  refine newPart_get (add_new e (hn q o e)) ?_
  cases hb : B q with
  | none => rfl
  | some o' => have := h q o' hb; rw [hn q o e] at this; cases this
theorem Ext.eq_add {B B' : Base} (h : Ext B B') : B' = B.add (newPart B B') := by
  funext q
  unfold Base.add newPart
  cases hb : B q with
  | none => rfl
  | some o => exact h q o hb

mutual
theorem V.conv_pure (m : List Nat) : ∀ v : V, (v.conv m).pureB = true
  | .osl r _ _ _ | .ptr r _ | .eptr r _ _ _ | .yld r => by
    cases r with
    | loc k =>
      simp only [V.conv, Ref.conv]
      cases m[k]? <;> rfl
    | abs n => rfl
    | bad => rfl
  | .agg cs | .tup cs => by simp only [V.conv, V.pureB]; exact V.convL_pure m cs
  | .fn _ a c => by simp only [V.conv, V.pureB, Bool.and_eq_true]; exact ⟨V.convL_pure m a, V.convL_pure m c⟩
  | .iface _ v => by simp only [V.conv, V.pureB]; exact V.conv_pure m v
  | .int .. | .bool _ | .tt | .ff | .str _ | .sl .. | .nilsl | .iptr .. | .nilp | .nilf | .nili | .nilmap | .undef => rfl
theorem V.convL_pure (m : List Nat) : ∀ vs : List V, V.pureL (V.convL m vs) = true
  | [] => rfl
  | v :: vs => by simp only [V.convL, V.pureL, Bool.and_eq_true]; exact ⟨V.conv_pure m v, V.convL_pure m vs⟩
end

/-! ### Functions that hand back memory of their own, under names -/
@[irreducible] def FunN (P : Program) (g : FuncId) (args : List V) (Q : V → Base → Prop) : Prop :=
  Enterable P g ∧ ∀ (w : World) (β : Nat → Loc) (H : Heap) (B : Base) (vals : Array Value) (cs : List Frame), SRel [] 0 w β H [] ⟨[], [], B, []⟩ bare → args.length = vals.size →
    (∀ (j : Nat) (x : V) (v : Value), args[j]? = some x → vals[j]? = some v → Rep w β H x v) →
    ∃ (x : V) (N : Base) (v : Value) (w' : World) (β' : Nat → Loc) (H' : Heap) (fr : Frame), Q x N ∧ (∀ q o, N q = some o → B q = none) ∧ SRel [] 0 w' β' H' [] ⟨[], [], B.add N, []⟩ bare ∧ Fr w β H w' β' H' ∧ Rep w' β' H' x v ∧ x.pureB = true ∧
      Steps P (lone (Frame.enter P g vals .normal) cs w) (lone fr cs w') ∧ fr.fn = g ∧ fr.leaving P w' (.returned v)

theorem FunN.mono {P : Program} {g : FuncId} {args : List V} {Q Q' : V → Base → Prop} (h : FunN P g args Q) (hq : ∀ x N, Q x N → Q' x N) : FunN P g args Q' := by
  unfold FunN at *
  refine ⟨h.1, fun w β H B vals cs hs hl hr => ?_⟩
  obtain ⟨x, N, v, w', β', H', fr, k, r⟩ := h.2 w β H B vals cs hs hl hr
  exact ⟨x, N, v, w', β', H', fr, hq _ _ k, r⟩

/-- What a body's end has to be, there. -/
def XN (P : Program) (rs : Array ResultVar) (B : Base) (Q : V → Base → Prop) (e : Exit) (s : St) : Prop :=
  (match e with | .normal | .ret => True | _ => False) ∧ s.D = [] ∧ Ext B s.B ∧ resK P [] s.B rs.toList s.E s.T False fun xs => frz (resV xs) s.T False fun x _ => x.pureB = true ∧ ∃ y, Wk x y ∧ y.pureB = true ∧ Q y (newPart B s.B)

theorem funN_of_goes {P : Program} {g : FuncId} {fn : Func} {body : Code} {args : List V} {Q : V → Base → Prop} (n : Nat) (hf : P.funcs[g]? = some fn) (hn : (fn.name == "runtime.NumGoroutine") = false) (hb : fn.body = some body) (hnt : Nat.ble args.length fn.ntmps = true)
    (h : ∀ B : Base, evp { P := P, nt := fn.ntmps, fn := g, ro := none, imps := [], X := XN P fn.results B Q, B := B, D := [] } n [.code body] (env0 0 args) []) : FunN P g args Q := by
  unfold FunN
  refine ⟨⟨fn, hf, hn, by rw [hb]; rfl⟩, fun w β H B vals cs hs hl hr => ?_⟩
  have hnt := Nat.le_of_ble_eq_true hnt
  have gg := evp_sound _ _ _ _ _ (h B)
  unfold Goes at gg
  let b : Frame := { fn := g, tmps := #[], todo := [], defers := [], mode := .run, kind := .normal }
  let a : Act := { tmps := vals ++ Array.replicate (fn.ntmps - vals.size) Go.undef, defers := [] }
  have henter : Frame.enter P g vals .normal = b.atR a [.code body] := by
    simp [Frame.enter, Frame.atR, hf, hb, b, a]
  have hasz : a.tmps.size = fn.ntmps := by simp [a]; omega
  have hrc : ∀ (j : Nat) (x : V) (v : Value), args[j]? = some x → vals[j]? = some v → Rep w β H (x.conv []) v := fun j x v hj hv => by
    rw [conv_of_rep [] x (hr j x v hj hv)]
    exact hr j x v hj hv
  have hget : ∀ k, Rep w β H ((lk (env0 0 args) k).conv []) (a.tmps.getD k Go.undef) := by
    intro k
    rw [lk_env0]
    simp only [Nat.zero_le, if_true, Nat.sub_zero]
    cases hk : args[k]? with
    | none => exact .undef _
    | some x =>
      have hkl := lt_of_get hk
      have hkv : k < vals.size := by omega
      have e : a.tmps.getD k Go.undef = vals[k] := by
        simp only [a, Array.getD_eq_getD_getElem?]
        rw [Array.getElem?_append_left hkv]
        simp [hkv]
      rw [e]
      exact hrc k x vals[k] hk (Array.getElem?_eq_getElem hkv)
  have hs0 : SRel [] fn.ntmps w β H [] ⟨env0 0 args, [], B, []⟩ a := by
    refine ⟨hs.hrel, hasz, hget, hs.mlen, hs.nodup, hs.loc, hs.imp, hs.base, hs.fut, hs.own, fun p hp => ?_, hs.scT, rfl, by simp⟩
    obtain ⟨k, hk, hx⟩ := List.mem_iff_getElem.1 (env0_mem 0 args p hp)
    have hkv : k < vals.size := by omega
    exact sc_of_rep (m := []) p.2 (hrc k p.2 vals[k] (by rw [List.getElem?_eq_getElem hk, hx]) (Array.getElem?_eq_getElem hkv))
  obtain ⟨e, s', w', β', H', m', a', hX, hs', hfr, hend⟩ := gg w β H [] a b cs hs0 rfl rfl rfl
  obtain ⟨E', T1, B', D'⟩ := s'
  obtain ⟨he, hD, hB, hres⟩ := hX
  simp only at hD hB hres
  subst hD
  rcases resK_sound (c := { P := P, nt := fn.ntmps, fn := g, ro := none, imps := [], X := fun _ _ => True, B := B', D := [] }) _ _ _ _ hres with h | ⟨xs, hq, hx⟩
  · exact h.elim
  obtain ⟨vs, h1, h2, h3⟩ := hx w' β' H' m' a' hs'
  have hrun := run_results h1
  have hrep : Rep w' β' H' ((resV xs).conv m') (if h : vs.toArray.size = 1 then vs.toArray[0] else .tuple vs.toArray) := by
    by_cases h1 : vs.length = 1
    · rw [dif_pos (by simpa using h1)]
      match xs, h2, h3 with
      | [x], _, h3 => exact h3 0 x _ rfl (by simp [h1])
      | [], h2, _ => simp at h2; omega
      | _ :: _ :: _, h2, _ => simp at h2; omega
    · rw [dif_neg (by simpa using h1)]
      have e : resV xs = .tup xs := by
        match xs, h2 with
        | [x], h2 => simp at h2; omega
        | [], _ => rfl
        | _ :: _ :: _, _ => rfl
      rw [e]
      simp only [V.conv, V.convL_eq]
      refine .tup _ _ (by simp [h2]) fun j c v hj hv => ?_
      simp only [List.getElem?_map, Option.map_eq_some_iff] at hj
      obtain ⟨x, hj, rfl⟩ := hj
      exact h3 j x v hj (by simpa using hv)
  -- what is handed back is frozen; the rest is let go
  rcases frz_sound hq with hq | ⟨x', T2, hq, hfz⟩
  · exact hq.elim
  obtain ⟨H1, g1, g2, g3⟩ := hfz.2 _ _ _ _ _ _ _ _ _ _ hs'.bare
  obtain ⟨m2, H2, e1, e2, e3⟩ := SRel.dropTo (T := []) T2 g1 (by simp) (by simp) (by simp) (by simp)
  have hm2 : m2 = [] := List.length_eq_zero_iff.1 e1.mlen
  subst hm2
  have hrep' := (g3 0 _ x' _ rfl rfl hrep).mono e2
  obtain ⟨hp0, y, hw, hyp, hq⟩ := hq
  have hrep' := hw _ _ _ _ hrep'
  rw [hB.eq_add] at e1
  have hdef : a'.defers = [] := List.length_eq_zero_iff.1 hs'.defs
  cases e with
  | normal =>
    refine ⟨y, newPart B B', _, w', β', H2, { b.atR a' [] with mode := .returning }, hq, fun q o h => (newPart_old h).1, e1, (hfr.trans g2).trans e2, hrep', hyp, ?_, rfl, ?_⟩
    · rw [henter]
      exact Steps.trans hend (.one (stepR_end rfl))
    · exact ⟨rfl, hdef, rfl, fn, hf, hrun⟩
  | ret =>
    obtain ⟨k, hend⟩ := hend
    refine ⟨y, newPart B B', _, w', β', H2, { b.atR a' (.code .ret :: k) with mode := .returning }, hq, fun q o h => (newPart_old h).1, e1, (hfr.trans g2).trans e2, hrep', hyp, ?_, rfl, ?_⟩
    · rw [henter]
      exact Steps.trans hend (.one (stepR_ret rfl))
    · exact ⟨rfl, hdef, rfl, fn, hf, hrun⟩
  | exit id => exact he.elim
  | goto l => exact he.elim
  | panic ch => exact he.elim
  | outgrown => exact he.elim

section
variable {w w' : World} {β β' : Nat → Loc} {H H' : Heap}
/-- What a function with nothing of its own sees of a world. -/
theorem seen {imps : List Nat} {nt : Nat} {m : List Nat} {s : St} {a : Act} (hs : SRel imps nt w β H m s a) : SRel [] 0 w β H [] ⟨[], [], fun r => (H[r]?).getD none, []⟩ bare := by
  refine ⟨hs.hrel, rfl, fun k => by simp [lk, V.conv]; exact .undef _, rfl, List.nodup_nil, by simp, rfl, fun r h _ => ?_, fun r h1 => ?_, by simp, by simp, by simp, rfl, by simp⟩
  · simp [h]
  · simp [List.getElem?_eq_none h1]
end

/-- Out of a function whose objects all are there when it ends. -/
theorem funN_of_fun {P : Program} {g : FuncId} {args : List V} {Q : V → Heap → Prop} (h : Fun P g [] args Q) (ha : V.pureL args = true) (hl : ∀ x T', Q x T' → allLive T' = true) :
    FunN P g args fun x N => ∃ x' T' m', Q x' T' ∧ x = x'.conv m' ∧ m'.length = T'.length ∧ m'.Nodup ∧ ∀ (k q : Nat) (o : HObj), m'[k]? = some q → T'[k]? = some (some o) → N q = some (o.conv m') := by
  unfold Fun at h
  unfold FunN
  refine ⟨h.1, fun w β H B vals cs hs hlen hr => ?_⟩
  obtain ⟨x, T', v, w', β', H', m', fr, hq, k1, k2, k3, k4, k5, k6⟩ := h.2 w β H [] B vals cs hs hlen (fun j x v hj hv => by
    rw [pure_conv _ _ (pureL_mem _ ha x (List.mem_of_getElem? hj))]
    exact hr j x v hj hv)
  have hlive := hl x T' hq
  have hml : m'.length = T'.length := k1.mlen
  have hobj : ∀ (k q : Nat), m'[k]? = some q → ∃ o, T'[k]? = some (some o) ∧ H'[q]? = some (some (o.conv m')) := fun k q hk => by
    have hkT : k < T'.length := by have := lt_of_get hk; omega
    have e := List.getElem?_eq_getElem hkT
    obtain ⟨o, ho⟩ := allLive_get hlive k _ e
    rw [ho] at e
    exact ⟨o, e, k1.loc k q _ hk e⟩
  obtain ⟨N, hN⟩ : ∃ N : Base, N = fun q => if q ∈ m' then (H'[q]?).getD none else none := ⟨_, rfl⟩
  have hNm : ∀ (k q : Nat) (o : HObj), m'[k]? = some q → T'[k]? = some (some o) → N q = some (o.conv m') := fun k q o hk ho => by
    obtain ⟨o', e1, e2⟩ := hobj k q hk
    rw [ho] at e1
    injection e1 with e1
    injection e1 with e1
    subst e1
    rw [hN]
    simp [List.mem_of_getElem? hk, e2]
  have hNB : ∀ q o, N q = some o → q ∈ m' ∧ B q = none := fun q o h => by
    rw [hN] at h
    by_cases hm : q ∈ m'
    · obtain ⟨k, hk⟩ := List.getElem?_of_mem hm
      exact ⟨hm, k1.own k q (Nat.zero_le _) hk⟩
    · simp [hm] at h
  refine ⟨_, N, v, w', β', H', fr, ⟨x, T', m', hq, rfl, hml, k1.nodup, hNm⟩, fun q o h => (hNB q o h).2, ?_, k2, k3, V.conv_pure m' x, k4, k5, k6⟩
  refine ⟨k1.hrel, rfl, fun k => by simp [lk, V.conv]; exact .undef _, rfl, List.nodup_nil, by simp, rfl, fun r hr _ => ?_, fun r hr => ?_, by simp, by simp, by simp, rfl, by simp⟩
  · show H'[r]? = some ((B.add N) r)
    by_cases hm : r ∈ m'
    · obtain ⟨k, hk⟩ := List.getElem?_of_mem hm
      obtain ⟨o, e1, e2⟩ := hobj k r hk
      rw [e2, add_new (hNm k r o hk e1) (k1.own k r (Nat.zero_le _) hk)]
    · have h1 := k1.base r hr hm
      simp only at h1
      rw [h1]
      unfold Base.add
      cases hb : B r with
      | some o => rfl
      | none =>
        have : N r = none := by rw [hN]; simp [hm]
        rw [this]
  · show (B.add N) r = none
    have h1 : B r = none := k1.fut r hr
    unfold Base.add
    rw [h1]
    cases hn : N r with
    | none => rfl
    | some o =>
      obtain ⟨k, hk⟩ := List.getElem?_of_mem (hNB r o hn).1
      have := k1.lt hk
      omega

/-- A call of one. -/
theorem call_funN {c : Cx} {g : FuncId} {args : List V} {E : Env} {T : Heap} {K : V → St → Prop} {Q : V → Base → Prop} (hf : FunN c.P g args Q) (ha : V.pureL args = true)
    (h : ∀ x N, Q x N → x.pureB = true → (∀ q o, N q = some o → c.B q = none) → K x ⟨E, T, c.B.add N, c.D⟩) : CallThen c g args E T K := by
  unfold FunN at hf
  obtain ⟨hen, hf⟩ := hf
  unfold CallThen
  refine ⟨hen, fun w β H m a vals cs hs hl hr => ?_⟩
  obtain ⟨x, N, v, w', β', H', fr, hq, hN, k1, k2, k3, hp, k4, k5, k6⟩ := hf w β H _ vals cs (seen hs) hl (fun j x v hj hv => by
    have h1 := hr j x v hj hv
    rwa [pure_conv _ _ (pureL_mem _ ha x (List.mem_of_getElem? hj))] at h1)
  have hlen : H.length ≤ H'.length := k2.len
  have hH' : ∀ q, q < H'.length → H'[q]? = some (Base.add (fun r => (H[r]?).getD none) N q) := fun q hq => k1.base q hq (by simp)
  have hnew : ∀ q o, N q = some o → H.length ≤ q ∧ q < H'.length := fun q o h1 => by
    have h2 : (Base.add (fun r => (H[r]?).getD none) N) q = some o := add_new h1 (hN q o h1)
    have h3 : q < H'.length := by
      rcases Nat.lt_or_ge q H'.length with h3 | h3
      · exact h3
      · have h4 : (Base.add (fun r => (H[r]?).getD none) N) q = none := k1.fut q h3
        rw [h2] at h4
        cases h4
    refine ⟨?_, h3⟩
    rcases Nat.lt_or_ge q H.length with h4 | h4
    · exfalso
      have h5 := hH' q h3
      rw [h2] at h5
      obtain ⟨o1, ho1, _⟩ := k2.evo q o h4 h5
      have := hN q o h1
      simp only [ho1] at this
      cases this
    · exact h4
  have hcB : ∀ q o, N q = some o → c.B q = none := fun q o h1 => hs.fut q (hnew q o h1).1
  have hNold : ∀ q, q < H.length → N q = none := fun q h1 => by
    cases hn : N q with
    | none => rfl
    | some o => have := (hnew q o hn).1; omega
  have hold : ∀ q, q < H.length → H'[q]? = H[q]? := fun q h1 => by
    rw [hH' q (Nat.lt_of_lt_of_le h1 hlen)]
    unfold Base.add
    simp only [hNold q h1, List.getElem?_eq_getElem h1, Option.getD_some]
    cases H[q] <;> rfl
  have hadd : ∀ q, q < H.length → (c.B.add N) q = c.B q := fun q h1 => by
    unfold Base.add
    rw [hNold q h1]
    cases c.B q <;> rfl
  refine ⟨x, _, v, w', β', H', m, fr, h x N hq hp hcB, ?_, k2, by rw [pure_conv _ _ hp]; exact k3, k4, k5, k6, List.prefix_refl _⟩
  refine ⟨k1.hrel, hs.size, fun k => (hs.env k).mono k2, hs.mlen, hs.nodup, fun k r o hk ho => ?_, hs.imp, fun r hr hm => ?_, fun r hr => ?_, fun k r hk hr => ?_, hs.scE, hs.scT, hs.defs, fun j k hj => ?_⟩
  · rw [hold r (hs.lt hk)]
    exact hs.loc k r o hk ho
  · simp only
    rcases Nat.lt_or_ge r H.length with h1 | h1
    · rw [hold r h1, hadd r h1]
      exact hs.base r h1 hm
    · have h2 : c.B r = none := hs.fut r h1
      rw [hH' r hr]
      unfold Base.add
      simp only [List.getElem?_eq_none h1, h2, Option.getD_none]
  · have h1 : c.B r = none := hs.fut r (Nat.le_trans hlen hr)
    have h2 : (Base.add (fun r => (H[r]?).getD none) N) r = none := k1.fut r hr
    unfold Base.add at h2
    simp only [List.getElem?_eq_none (Nat.le_trans hlen hr), Option.getD_none] at h2
    simp only [Base.add, h1, h2]
  · simp only
    rw [hadd r (hs.lt hr)]
    exact hs.own k r hk hr
  · obtain ⟨r, b, M, h1, h2, h3, h4⟩ := hs.marks j k hj
    have hH0 := hs.loc k r _ h1 h2
    exact ⟨r, b, M, h1, h2, dfr_stays k2 (by simpa [HObj.conv] using hH0) h3 (by rw [hold r (hs.lt h1), hH0]; rfl), h4⟩

/-! ### Named memory, read by functions that leave nothing behind -/
inductive Fz (B : Base) : V → V → Prop
  | wk {x y : V} (h : Wk x y) : Fz B x y
  | row (r g sz : Nat) (xs : List V) (h : B r = some (.vec g sz xs)) : Fz B (.osl (.abs r) g 0 xs.length) (.sl sz xs)
  | agg (cs ds : List V) (hl : cs.length = ds.length) (h : ∀ (j : Nat) (c d : V), cs[j]? = some c → ds[j]? = some d → Fz B c d) : Fz B (.agg cs) (.agg ds)
  | sl (sz : Nat) (xs ys : List V) (hl : xs.length = ys.length) (hy : ∀ y ∈ ys, okE sz y) (h : ∀ (i : Nat) (x y : V) (j : Nat) (c d : V), xs[i]? = some x → ys[i]? = some y → x.cells[j]? = some c → y.cells[j]? = some d → Fz B c d) : Fz B (.sl sz xs) (.sl sz ys)

theorem Fr0.killAll {w : World} {β : Nat → Loc} {H : Heap} : Fr0 w β H w β (H.map fun _ => none) := by
  have hnone : ∀ r o, (H.map fun _ => (none : Option HObj))[r]? ≠ some (some o) := fun r o h => by rw [List.getElem?_map] at h; cases hh : H[r]? <;> rw [hh] at h <;> cases h
  have hno : ∀ b, ¬ ownB β (H.map fun _ => none) b := fun b ⟨r, N, ⟨o, h, _⟩, _⟩ => hnone r o h
  exact ⟨rfl, rfl, rfl, Nat.le_refl _, by simp, fun r o' _ ho => absurd ho (hnone r o'), fun _ _ _ => rfl, fun b hb => absurd hb (hno b), fun _ _ => rfl, fun r s h => absurd h (hnone r _)⟩
theorem killAll_no {β : Nat → Loc} {H : Heap} (b : Nat) {sz : Nat} : freeB β (H.map fun _ => none) b sz := free_none (fun r o h => by
  rw [List.getElem?_map] at h
  cases hh : H[r]? <;> rw [hh] at h <;> cases h) b sz

theorem Fz.rep {B : Base} {w : World} {β : Nat → Loc} {H : Heap} (hrel : HRel w β H) (hB : ∀ q o, B q = some o → H[q]? = some (some o)) {x y : V} (h : Fz B x y) : ∀ {v : Value}, Rep w β H x v → Rep w β (H.map fun _ => none) y v := by
  induction h with
  | wk h => exact fun {v} hv => (h w β H v hv).mono0 Fr0.killAll
  | row r g sz xs h =>
    intro v hv
    have hH := hB r _ h
    have hob := hrel.obj r _ hH
    have hvec : ∀ sz2 xs2, H[r]? = some (some (.vec g sz2 xs2)) → sz2 = sz ∧ xs2 = xs := fun sz2 xs2 h2 => by
      rw [hH] at h2
      injection h2 with h2
      injection h2 with h2
      injection h2 with _ e1 e2
      exact ⟨e1.symm, e2.symm⟩
    generalize hn : xs.length = n at hv
    cases hv with
    | oslNil _ _ sz2 xs2 ad hH' hβ =>
      rw [hβ] at hob
      have : xs = [] := hob
      subst this
      exact .sl sz [] ad 0 (fun _ => Go.undef) (Nat.le_refl _) (Nat.zero_le _) (by simp) (fun hne => absurd rfl hne) (fun i x j c hi => by simp at hi)
    | oslBlk _ _ _ _ sz2 xs2 b N ad cap hH' hβ hl hN hcap ha hlen =>
      obtain ⟨rfl, rfl⟩ := hvec _ _ hH'
      rw [hβ] at hob
      obtain ⟨vs, e, _, h1, h2, h3, h4, h5, h6⟩ := hob
      subst hn
      refine .sl sz2 xs2 ad cap (fun j => vs.getD j Go.undef) hl (by omega) h5 (fun hne => ?_) (fun i x j c hi hj => ?_)
      · have h0 : 0 < xs2.length := List.length_pos_iff.2 hne
        have := ha (by omega)
        subst this
        refine ⟨_, rfl, killAll_no _, (Array.getElem?_eq_some_iff.1 h1).1, fun j hj => ?_⟩
        have hjv : j < vs.size := by omega
        rw [Nat.zero_mul, at_add, cell_of_row w b j vs e (0, 0) h1]
        simp [hjv]
      · have hlt : i * sz2 + j < vs.size := by
          have e1 := lt_of_get hi
          have e2 := lt_of_get hj
          have e3 := (h5 x (List.mem_of_getElem? hi)).1
          have : (i + 1) * sz2 ≤ xs2.length * sz2 := Nat.mul_le_mul_right _ e1
          rw [Nat.add_mul] at this
          omega
        exact (h6 i x j c (vs.getD (i * sz2 + j) Go.undef) hi hj (by simp [hlt])).mono0 Fr0.killAll
    | oslStale _ _ _ _ g' sz' xs' _ hH' hg =>
      rw [hH] at hH'
      injection hH' with hH'
      injection hH' with hH'
      injection hH' with e0 _ _
      omega
    | oslDead _ _ _ _ _ hd => rw [hH] at hd; cases hd
  | agg cs ds hl h ih =>
    intro v hv
    cases hv with
    | agg _ vs hl' h' =>
      refine .agg ds vs (hl.symm.trans hl') fun j d u hj hu => ?_
      have hjc : j < cs.length := by have := lt_of_get hj; omega
      exact ih j _ d (List.getElem?_eq_getElem hjc) hj (h' j _ u (List.getElem?_eq_getElem hjc) hu)
  | sl sz xs ys hl hy h ih =>
    intro v hv
    generalize hn : xs.length = n at hl
    generalize hq : V.sl sz xs = q at hv
    cases hv with
    | sl sz' xs' a cap vals hcap hmax hsz ha hr =>
      injection hq with e1 e2
      subst e1 e2
      rw [hn, hl]
      refine .sl sz ys a cap vals (by omega) hmax hy (fun hne => ?_) (fun i y j d hi hj => ?_)
      · obtain ⟨ad, k1, _, k3, k4⟩ := ha (fun e => hne (by rw [e] at hn; exact List.length_eq_zero_iff.1 (by simp at hn; omega)))
        exact ⟨ad, k1, killAll_no _, k3, fun j hj => k4 j (by rw [hn, hl]; exact hj)⟩
      · have hix : i < xs.length := by have := lt_of_get hi; omega
        have hx := List.getElem?_eq_getElem hix
        have hc1 := (hsz _ (List.mem_of_getElem? hx)).1
        have hc2 := (hy _ (List.mem_of_getElem? hi)).1
        have hjx : j < (xs[i]).cells.length := by have := lt_of_get hj; omega
        exact ih i _ y j _ d hx hi (List.getElem?_eq_getElem hjx) hj (hr i _ j _ hx (List.getElem?_eq_getElem hjx))
    | _ => cases hq

/-- .. all at once. -/
def FzL (B : Base) : List V → List V → Prop
  | [], [] => True
  | x :: xs, y :: ys => Fz B x y ∧ FzL B xs ys
  | _, _ => False
theorem FzL.get {B : Base} : ∀ {xs ys : List V}, FzL B xs ys → xs.length = ys.length ∧ ∀ (j : Nat) (y : V), ys[j]? = some y → ∃ x, xs[j]? = some x ∧ Fz B x y
  | [], [], _ => ⟨rfl, fun j y h => by simp at h⟩
  | x :: xs, y :: ys, h => by
    obtain ⟨h1, h2⟩ := FzL.get h.2
    refine ⟨by simp [h1], fun j z hz => ?_⟩
    cases j with
    | zero => simp at hz; subst hz; exact ⟨x, rfl, h.1⟩
    | succ j => simpa using h2 j z (by simpa using hz)
  | [], _ :: _, h => h.elim
  | _ :: _, [], h => h.elim

/-- A call that is handed named memory, and hands back a number, a truth value or a text. -/
theorem call_flatN {c : Cx} {g : FuncId} {args args' : List V} {E : Env} {T : Heap} {K : V → St → Prop} {x : V} (hf : Pure c.P g args' (fun y => y = x)) (hz : FzL c.B args args') (hi : c.imps = []) (ha : V.pureL args = true) (ha' : V.pureL args' = true) (hx : flatB x = true) (h : K x ⟨E, T, c.B, c.D⟩) : CallThen c g args E T K := by
  have hen : Enterable c.P g := by
    unfold Pure Fun at hf
    exact hf.1
  unfold CallThen
  refine ⟨hen, fun w β H m a vals cs hs hl hr => ?_⟩
  obtain ⟨hzl, hzg⟩ := hz.get
  obtain ⟨y, v, w', β', H', fr, rfl, hp, g3, hb, g4, g5, g6⟩ := pure_still (β := β) (H := H.map fun _ => none) hf ha' cs (hzl.symm.trans hl) (fun j y v hj hv => by
    obtain ⟨x0, h1, h2⟩ := hzg j y hj
    have h3 := hr j x0 v h1 hv
    rw [pure_conv _ _ (pureL_mem _ ha x0 (List.mem_of_getElem? h1))] at h3
    exact h2.rep hs.hrel (fun q o hq => hs.baseAt (by rw [hi]; simp) hq) h3)
  have g2' : Fr w β H w' β H := Fr.of_below hb
  exact ⟨y, _, v, w', β, H, m, fr, h, hs.same g2' (hs.hrel.of_below hb), g2', by rw [pure_conv _ _ hp]; exact g3.flat hx, g4, g5, g6, List.prefix_refl _⟩

/-! ### Functions that write over named memory -/
/-- The same rows, of the same shapes. -/
def ShpEq (B B' : Base) : Prop := ∀ r g sz xs, B r = some (.vec g sz xs) → ∃ xs' : List V, B' r = some (.vec g sz xs') ∧ xs'.length = xs.length
theorem ShpEq.refl (B : Base) : ShpEq B B := fun r g sz xs h => ⟨xs, h, rfl⟩
theorem ShpEq.trans {A B C : Base} (h : ShpEq A B) (k : ShpEq B C) : ShpEq A C := fun r g sz xs e => by
  obtain ⟨xs', h1, h2⟩ := h r g sz xs e
  obtain ⟨xs'', k1, k2⟩ := k r g sz xs' h1
  exact ⟨xs'', k1, k2.trans h2⟩
/-! ### Stores into named memory -/
section
variable {c : Cx} {E : Env} {T : Heap} {ops : Array Oper} {i : Nat} {rest : List Nat} {k : List Item} {o : Oper}

theorem goes_fieldA {t : TypeId} {x : Operand} {f r g ix off sz : Nat} {xs : List V} {fs : Array Field} {fd : Field} {ti : TypeInfo} (n : Nat) (ho : lget ops.toList i = some o) (hg : o.guard = none) (hop : o.op = .fieldAddr t x f) (hx : opd E x = .eptr (.abs r) g ix off)
    (ht : tyU c.P t = some (.struct fs)) (hfd : lget fs.toList f = some fd) (hti : tyI c.P fd.type = some ti) (hsz : Nat.ble 1 ti.size = true) (hi : r ∉ c.imps) (hB : c.B r = some (.vec g sz xs))
    (h : putE c.nt o.dst (.eptr (.abs r) g ix (off + fd.offset)) E False fun E' => evp c n (.inRegion ops rest :: k) E' T) : Goes c (.inRegion ops (i :: rest) :: k) E T := by
  refine goes_opTo n ho hg hop (OpTo.still fun o hop w β H m a hs => ?_) (fun cl h => by cases h) h
  have hp := opd_rep hs x
  have hH : H[r]? = some (some (.vec g sz xs)) := hs.baseAt hi hB
  rw [lget_eq] at hfd
  have hf : fs[f]? = some fd := by simpa using hfd
  simp only [hx, V.conv, Ref.conv] at hp
  generalize hq : a.eval x = q at hp
  cases hp with
  | eptrLive _ _ _ _ sz' xs' b N hH' hβ hi =>
    refine ⟨.pointer (some ((⟨b, ix * sz' + off, none⟩ : Addr).add fd.offset)), by simp [execOp, hop, hq, run_fieldAt (tyU_sound ht) hf (tyI_sound hti) (Nat.le_of_ble_eq_true hsz)], ?_⟩
    rw [add_none, Nat.add_assoc]
    exact .eptrLive r g ix _ sz' xs' b N hH' hβ hi
  | eptrStale _ _ _ _ g' sz' xs' _ hH' hg =>
    rw [hH] at hH'
    injection hH' with hH'
    injection hH' with hH'
    injection hH' with e0 _ _
    omega
  | eptrDead _ _ _ _ _ hd => rw [hH] at hd; cases hd

theorem over_has {α : Type} (xs cs : List α) (n : Nat) (h : n + cs.length ≤ xs.length) : ∃ ys, over xs n cs ys := by
  refine ⟨xs.take n ++ cs ++ xs.drop (n + cs.length), h, by simp; omega, fun j => ?_⟩
  rcases Nat.lt_or_ge j n with h1 | h1
  · rw [if_neg (by omega), List.append_assoc, List.getElem?_append_left (by simp; omega), List.getElem?_take, if_pos h1]
  · rcases Nat.lt_or_ge j (n + cs.length) with h2 | h2
    · rw [if_pos ⟨h1, h2⟩, List.getElem?_append_left (by simp; omega), List.getElem?_append_right (by simp; omega)]
      have : min n xs.length = n := by omega
      simp [this]
    · rw [if_neg (by omega), List.getElem?_append_right (by simp; omega)]
      have e1 : min n xs.length = n := by omega
      simp only [List.length_append, List.length_take, e1, List.getElem?_drop]
      rw [Nat.add_sub_cancel' h2]

theorem goes_storeA {t : TypeId} {x y : Operand} {r g ix off sz : Nat} {xs : List V} {ti : TypeInfo} (n : Nat) (ho : lget ops.toList i = some o) (hg : o.guard = none) (hop : o.op = .store t x y) (hx : opd E x = .eptr (.abs r) g ix off)
    (hb : (Nat.beq (lcount (opd E y).cells 0) ti.size && onesB (opd E y).cells && V.pureL (opd E y).cells) = true) (ht : tyI c.P t = some ti) (hi : r ∉ c.imps) (hB : c.B r = some (.vec g sz xs)) (hl : ix < xs.length) (hoff : off + ti.size ≤ sz)
    (h : ∀ B' xs', xs'.length = xs.length → B' r = some (.vec g sz xs') → (∀ q, q ≠ r → B' q = c.B q) → putE c.nt o.dst (.tup []) E False fun E' => evp { c with B := B' } n (.inRegion ops rest :: k) E' T) :
    Goes c (.inRegion ops (i :: rest) :: k) E T := by
  rw [lget_eq, Array.getElem?_toList] at ho
  rw [lcount_eq] at hb
  simp only [Bool.and_eq_true, Nat.add_zero] at hb
  have hsz := Nat.eq_of_beq_eq_true hb.1.1
  refine goes_step fun w β H m a fb cs hs _ _ _ => ?_
  have hp := opd_rep hs x
  have hH : H[r]? = some (some (.vec g sz xs)) := hs.baseAt hi hB
  have hrm : r ∉ m := hs.notIn hB hi
  simp only [hx, V.conv, Ref.conv] at hp
  have hob := hs.hrel.obj r _ hH
  generalize hv : a.eval x = q at hp
  cases hp with
  | eptrStale _ _ _ _ g' sz' xs' _ hH' hg =>
    rw [hH] at hH'
    injection hH' with hH'
    injection hH' with hH'
    injection hH' with e0 _ _
    omega
  | eptrDead _ _ _ _ _ hd => rw [hH] at hd; cases hd
  | eptrLive _ _ _ _ sz' xs' b N hH' hβ hi' =>
  rw [hH] at hH'
  injection hH' with hH'
  injection hH' with hH'
  injection hH' with _ e1 e2
  subst e1 e2
  obtain ⟨x0, hx0⟩ : ∃ x0, xs[ix]? = some x0 := ⟨_, List.getElem?_eq_getElem hl⟩
  rw [hβ] at hob
  obtain ⟨vs, e, hty, hbk, hN, hle, hpos, hok, hc⟩ := hob
  have hy : Rep w β H ((opd E y).conv m) (a.eval y) := opd_rep hs y
  obtain ⟨hyl, hyc, hy1⟩ := rep_cells hy (by rw [cells_conv, onesB_conv]; exact hb.1.2)
  rw [cells_conv, pureL_conv _ _ hb.2] at hyl hyc
  obtain ⟨hx0l, hx0o⟩ := hok x0 (List.mem_of_getElem? hx0)
  obtain ⟨cs', ho'⟩ := over_has x0.cells (opd E y).cells off (by omega)
  have hixl := hl
  have hrow : ix * sz + sz ≤ vs.size := by
    have : (ix + 1) * sz ≤ xs.length * sz := Nat.mul_le_mul_right _ hixl
    rw [Nat.add_mul] at this
    omega
  have hofit : off + (opd E y).cells.length ≤ x0.cells.length := ho'.1
  have hfit : ix * sz + off + (a.eval y).cells.size ≤ vs.size := by omega
  have hrun := run_storeCells_at c.P b (ix * sz + off) e (a.eval y).cells.toList 0 vs w hbk (by simpa using hfit) hy1
  have hI := tyI_sound ht
  obtain ⟨vs', hvs'⟩ : ∃ vs', vs' = (vs.toList.take (ix * sz + off + 0) ++ (a.eval y).cells.toList ++ vs.toList.drop (ix * sz + off + 0 + (a.eval y).cells.toList.length)).toArray := ⟨_, rfl⟩
  rw [← hvs'] at hrun
  have hheap : (w.setRow b vs').heap[b]? = some (.cells vs' e (0, 0)) := setRow_heap w b vs _ e _ hbk
  have hother : ∀ q, q ≠ b → (w.setRow b vs').heap[q]? = w.heap[q]? := fun q hq => setRow_other w b q _ hq
  have hvsz : vs'.size = vs.size := by rw [hvs']; simp; omega
  have hget : ∀ j, vs'[j]? = if ix * sz + off ≤ j ∧ j < ix * sz + off + (a.eval y).cells.size then (a.eval y).cells[j - (ix * sz + off)]? else vs[j]? := by
    intro j
    rw [hvs']
    simp only [Nat.add_zero, Array.length_toList, List.getElem?_toArray]
    rcases Nat.lt_or_ge j (ix * sz + off) with h1 | h1
    · rw [if_neg (by omega), List.getElem?_append_left (by simp; omega), List.getElem?_append_left (by simp; omega), List.getElem?_take, if_pos h1]
      simp
    · rcases Nat.lt_or_ge j (ix * sz + off + (a.eval y).cells.size) with h2 | h2
      · rw [if_pos ⟨h1, h2⟩, List.getElem?_append_left (by simp; omega), List.getElem?_append_right (by simp; omega)]
        have : min (ix * sz + off) vs.size = ix * sz + off := by omega
        simp [this]
      · rw [if_neg (by omega), List.getElem?_append_right (by simp; omega)]
        have e1 : min (ix * sz + off) vs.size = ix * sz + off := by omega
        simp only [List.length_append, List.length_take, Array.length_toList, e1, List.getElem?_drop]
        rw [Nat.add_sub_cancel' h2]
        simp
  have hones : onesB cs' = true := by
    rw [onesB_iff]
    intro z hz
    obtain ⟨j, hj, rfl⟩ := List.mem_iff_getElem.1 hz
    have := ho'.2.2 j
    rw [List.getElem?_eq_getElem hj] at this
    split at this
    · exact (onesB_iff _).1 hb.1.2 _ (List.mem_of_getElem? this.symm)
    · exact (onesB_iff _).1 hx0o _ (List.mem_of_getElem? this.symm)
  have hcs' : cs'.length = sz := ho'.2.1.trans hx0l
  have hmk : (mkE x0 cs').cells = cs' := mkE_cells x0 cs' hones
  obtain ⟨xs', hxs'⟩ : ∃ xs', xs' = xs.set ix (mkE x0 cs') := ⟨_, rfl⟩
  have hxl : xs'.length = xs.length := by rw [hxs']; simp
  have hfr : Fr w β H (w.setRow b vs') β (H.set r (some (.vec g sz xs'))) := Fr.turn hH hβ ⟨Nat.le_refl _, fun _ => ⟨rfl, hxl.symm⟩⟩ rfl rfl rfl (by simp [World.setRow]) hother
  have hok' : ∀ x ∈ xs', okE sz x := fun x hx => by
    rw [hxs'] at hx
    rcases List.mem_or_eq_of_mem_set hx with h1 | h1
    · exact hok x h1
    · subst h1
      exact ⟨by rw [hmk]; exact hcs', by rw [hmk]; exact hones⟩
  have hrel : HRel (w.setRow b vs') β (H.set r (some (.vec g sz xs'))) := by
    refine hs.hrel.turn hH hβ ⟨Nat.le_refl _, fun _ => ⟨rfl, hxl.symm⟩⟩ rfl rfl rfl (by simp [World.setRow]) hother ⟨vs', e, hty, hheap, by omega, by rw [hxl]; omega, hpos, hok', fun i1 z j z1 u hi1 hj hu => ?_⟩
    refine Rep.mono ?_ hfr
    rw [hget] at hu
    have hzl := (hok' z (List.mem_of_getElem? hi1)).1
    have hjl := lt_of_get hj
    rw [hxs'] at hi1
    by_cases hii : i1 = ix
    · subst hii
      rw [List.getElem?_set_self hixl] at hi1
      injection hi1 with hi1
      subst hi1
      rw [hmk, ho'.2.2 j] at hj
      split at hj
      · rename_i hjj
        rw [if_pos (by omega)] at hu
        refine hyc (j - off) z1 u hj ?_
        rw [← hu]
        congr 1
        omega
      · rename_i hjj
        rw [if_neg (by omega)] at hu
        exact hc i1 x0 j z1 u hx0 hj hu
    · rw [List.getElem?_set_ne (fun e => hii e.symm)] at hi1
      have hne : ¬ (ix * sz + off ≤ i1 * sz + j ∧ i1 * sz + j < ix * sz + off + (a.eval y).cells.size) := by
        rintro ⟨q1, q2⟩
        rcases Nat.lt_or_gt_of_ne hii with h3 | h3
        · have : (i1 + 1) * sz ≤ ix * sz := Nat.mul_le_mul_right _ h3
          rw [Nat.add_mul] at this
          omega
        · have : (ix + 1) * sz ≤ i1 * sz := Nat.mul_le_mul_right _ h3
          rw [Nat.add_mul] at this
          omega
      rw [if_neg hne] at hu
      exact hc i1 z j z1 u hi1 hj hu
  obtain ⟨B', hB'⟩ : ∃ B' : Base, B' = fun q => if q = r then some (.vec g sz xs') else c.B q := ⟨_, rfl⟩
  have hBr : B' r = some (.vec g sz xs') := by rw [hB']; simp
  have hBn : ∀ q, q ≠ r → B' q = c.B q := fun q hq => by rw [hB']; simp [hq]
  have hrl := lt_of_get hH
  have hset : SRel c.imps c.nt (w.setRow b vs') β (H.set r (some (.vec g sz xs'))) m ⟨E, T, B', c.D⟩ a := by
    refine ⟨hrel, hs.size, fun k => (hs.env k).mono hfr, hs.mlen, hs.nodup, fun j q ob hj hob => ?_, hs.imp, fun q hq hqm => ?_, fun q hq => ?_, fun j q hj hq => ?_, hs.scE, hs.scT, hs.defs, hs.marks⟩
    · have hqr : q ≠ r := fun e => hrm (e ▸ List.mem_of_getElem? hj)
      rw [List.getElem?_set_ne (fun e => hqr e.symm)]
      exact hs.loc j q ob hj hob
    · simp only
      by_cases hqr : q = r
      · subst hqr
        rw [List.getElem?_set_self hrl, hBr]
      · rw [List.getElem?_set_ne (fun e => hqr e.symm), hBn q hqr]
        exact hs.base q (by simpa using hq) hqm
    · have hqr : q ≠ r := fun e => by subst e; simp at hq; omega
      simp only
      rw [hBn q hqr]
      exact hs.fut q (by simpa using hq)
    · have hqr : q ≠ r := fun e => hrm (e ▸ List.mem_of_getElem? hq)
      simp only
      rw [hBn q hqr]
      exact hs.own j q hj hq
  obtain ⟨E', hk, hd⟩ := (putE_some (h B' xs' hxl hBr hBn)).resolve_left id
  have hput := hset.putTo (d := o.dst) (x := .tup []) (v := Go.undef) (E' := E') (.tup [] #[] rfl fun j z u h1 _ => by simp at h1) hd
  refine ⟨w.setRow b vs', β, _, m, a.put o.dst Go.undef, _, ⟨E', T, B', c.D⟩, op_step (c := c) ho (wanted_none hg _) (fun cl e => by rw [hop] at e; cases e) (nx := .skip) ?_ (.inr ⟨rfl, rfl⟩), hput, hfr, evp_sound n _ _ _ _ hk⟩
  simp [execOp, hop, Instr.storeAt, Instr.sureAddr, hv, storeVar, run_sizeOf' hI, ← hsz, ← hyl, hrun]
end
end Bow
/- AE46: a nil slice in a cell of a box, as own memory; named results that say less. -/
namespace Bow
open Go

section
variable {c : Cx} {E : Env} {T : Heap}
theorem goes_nilCell {todo : List Item} (kb j sz : Nat) {cs : List V} (hk : lget T kb = some (some (.box cs))) (hj : cs[j]? = some .nilsl) (h : Goes c todo E (List.set (T ++ [some (HObj.vec 0 sz [])]) kb (some (HObj.box (cs.set j (.osl (.loc T.length) 0 0 0)))))) : Goes c todo E T := by
  rw [lget_eq] at hk
  refine goes_step fun w β H m a b cs0 hs _ _ _ => ?_
  obtain ⟨β', H', k1, k2, k3⟩ := hs.newNil 0 sz none
  have hk2 : (T ++ [some (HObj.vec 0 sz [])])[kb]? = some (some (.box cs)) := by rw [List.getElem?_append_left (lt_of_get hk)]; exact hk
  obtain ⟨r, hr, hH⟩ := k1.at hk2
  have hob := k1.hrel.obj r _ hH
  have hfr : Fr w β' H' w β' (H'.set r (some ((HObj.box (cs.set j (.osl (.loc T.length) 0 0 0))).conv (m ++ [H.length])))) := Fr.swap hH trivial
  have hrel : HRel w β' (H'.set r (some ((HObj.box (cs.set j (.osl (.loc T.length) 0 0 0))).conv (m ++ [H.length])))) := by
    refine k1.hrel.swap hH trivial ?_
    simp only [HObj.conv]
    cases hβ : β' r with
    | none => trivial
    | nil => rw [hβ] at hob; exact hob
    | blk bb N =>
      rw [hβ] at hob
      obtain ⟨vs, e, q1, q2, q3, q4⟩ := hob
      rw [V.convL_eq, List.length_map] at q3
      refine ⟨vs, e, q1, q2, by rw [V.convL_eq]; simpa using q3, fun i x v hi hv => ?_⟩
      rw [V.convL_eq, List.getElem?_map, Option.map_eq_some_iff] at hi
      obtain ⟨y, hy, rfl⟩ := hi
      by_cases hij : i = j
      · subst hij
        rw [List.getElem?_set_self (lt_of_get hj)] at hy
        injection hy with hy
        subst hy
        have h0 := q4 i .nilsl v (by rw [V.convL_eq, List.getElem?_map, hj]; rfl) hv
        cases h0
        exact k3.mono (by rw [← HObj.conv]; exact hfr)
      · rw [List.getElem?_set_ne (fun e => hij e.symm)] at hy
        exact (q4 i _ v (by rw [V.convL_eq, List.getElem?_map, hy]; rfl) hv).mono (by rw [← HObj.conv]; exact hfr)
  have hm : m.length = T.length := hs.mlen
  have hsc0 : (HObj.box cs).sc (m ++ [H.length]).length := by
    have h1 := k1.scT kb _ hk2
    have h2 : (m ++ [H.length]).length = (T ++ [some (HObj.vec 0 sz [])]).length := k1.mlen
    rw [h2]
    exact h1
  have hset := k1.setAt (o' := some (.box (cs.set j (.osl (.loc T.length) 0 0 0)))) (w' := w) hr (fun o1 e1 => by
      injection e1 with e1
      subst e1
      show V.scL _ _
      rw [V.scL_iff]
      have hsc' := (V.scL_iff _ _).1 hsc0
      intro v hv
      rcases List.mem_or_eq_of_mem_set hv with hv | hv
      · exact hsc' v hv
      · subst hv
        show T.length < (m ++ [H.length]).length
        simp only [List.length_append, List.length_singleton]
        omega)
    (fun hm => absurd hm (k1.notD hk2 (by simp))) hfr hrel
  exact ⟨w, β', _, m ++ [H.length], a, todo, ⟨E, _, c.B, c.D⟩, .refl _ _, hset, k2.trans hfr, h⟩
end

theorem funN_wk {P : Program} {g : FuncId} {args : List V} {Q : V → Base → Prop} (h : FunN P g args fun x N => ∃ y, Wk x y ∧ y.pureB = true ∧ Q y N) : FunN P g args Q := by
  unfold FunN at *
  refine ⟨h.1, fun w β H B vals cs hs hl hr => ?_⟩
  obtain ⟨x, N, v, w', β', H', fr, ⟨y, q1, q2, q3⟩, k1, k2, k3, k4, k5, k6⟩ := h.2 w β H B vals cs hs hl hr
  exact ⟨y, N, v, w', β', H', fr, q3, k1, k2, k3, q1 _ _ _ _ k4, q2, k6⟩
end Bow
/- W76: treeops.Bare, seen to hand back rows of its own. -/
namespace Bow
open Go Go.Proofs

/-- The names of an operation's rows, and their generations. -/
structure Ns where
  p : Nat
  gp : Nat
  t : Nat
  gt : Nat
  s : Nat
  gs : Nat
def opN (ns : Ns) (o : OpT) : V := .agg [.int .u8 o.kind, .osl (.abs ns.p) ns.gp 0 (o.path.map intV).length, .int .i64 o.at_, .osl (.abs ns.t) ns.gt 0 (o.to.map intV).length, .int .u64 o.id, .bool o.leaf, .str o.label, .str o.key, .str o.value, .bool o.gone, .osl (.abs ns.s) ns.gs 0 (o.pieces.map pieceV).length]
structure NsOk (N : Base) (ns : Ns) (o : OpT) : Prop where
  path : N ns.p = some (.vec ns.gp 1 (o.path.map intV))
  to : N ns.t = some (.vec ns.gt 1 (o.to.map intV))
  pieces : N ns.s = some (.vec ns.gs 3 (o.pieces.map pieceV))
theorem NsOk.ext {N N' : Base} {ns : Ns} {o : OpT} (h : NsOk N ns o) (e : Ext N N') : NsOk N' ns o := ⟨e _ _ h.path, e _ _ h.to, e _ _ h.pieces⟩

def BareQ (o : OpT) (x : V) (T' : Heap) : Prop := ∃ (kp gp kt gt ks gs : Nat) (l e : V), x = .agg [.int .u8 o.kind, .osl (.loc kp) gp 0 (o.path.map intV).length, .int .i64 o.at_, .osl (.loc kt) gt 0 (o.to.map intV).length, .int .u64 o.id, l, .str o.label, .str o.key, .str o.value, e, .osl (.loc ks) gs 0 (o.pieces.map pieceV).length] ∧
  (Wk l (.bool o.leaf) ∧ l.pureB = true) ∧ (Wk e (.bool o.gone) ∧ e.pureB = true) ∧ (lget T' kp = some (some (.vec gp 1 (o.path.map intV))) ∧ lget T' kt = some (some (.vec gt 1 (o.to.map intV))) ∧ lget T' ks = some (some (.vec gs 3 (o.pieces.map pieceV)))) ∧ allLive T' = true
theorem bareQ_of {o o' : OpT} {x : V} {T' : Heap} (e : o = o') (h : BareQ o' x T') : BareQ o x T' := e ▸ h

theorem w_someIntF (p : List Int) (h : p.length ≤ 1000000) : Fun Tryz.prog 117 [] [pathV p] (fun x T' => ∃ g0, x = .osl (.loc 0) g0 0 (p.map intV).length ∧ T' = [some (.vec g0 1 (p.map intV))]) := by
  refine fun_fn 100 Tryz.func117 rfl rfl rfl fun imps B hi => ?_
  refine ⟨Nat.le_trans (Nat.mul_le_mul_right _ (show (p.map intV).length ≤ 1000000 by simpa using h)) (by decide), ?_⟩
  exact ⟨trivial, rfl, rfl, 0, rfl, rfl⟩
theorem w_somePieceF (p : List PieceT) (h : p.length ≤ 1000000) : Fun Tryz.prog 118 [] [piecesV p] (fun x T' => ∃ g0, x = .osl (.loc 0) g0 0 (p.map pieceV).length ∧ T' = [some (.vec g0 3 (p.map pieceV))]) := by
  refine fun_fn 100 Tryz.func118 rfl rfl rfl fun imps B hi => ?_
  refine ⟨Nat.le_trans (Nat.mul_le_mul_right _ (show (p.map pieceV).length ≤ 1000000 by simpa using h)) (by decide), ?_⟩
  exact ⟨trivial, rfl, rfl, 0, rfl, rfl⟩

set_option maxHeartbeats 2000000 in
set_option maxRecDepth 100000 in
theorem w_BareF (o : OpT) (ho : o.Lt 1000000) : Fun Tryz.prog 61 [] [opV o] (BareQ (bareO o)) := by
  refine fun_fn 100 Tryz.func61 rfl rfl rfl fun imps B hi => ?_
  have : imps = [] := List.length_eq_zero_iff.1 hi
  subst this
  show Goes _ _ _ _
  refine goes_drawN [117] 0 ?_
  refine ⟨1, o.path.map intV, w_someIntF o.path ho.path, rfl, rfl, ?_⟩
  refine ⟨by kernel_rfl, ?_⟩
  refine ⟨by kernel_rfl, ?_⟩
  show Goes _ _ _ _
  refine goes_nilCell 3 3 1 rfl rfl ?_
  refine goes_nilCell 3 10 3 rfl rfl ?_
  refine go 100 ?_
  refine ⟨fun g1 => go 100 ?_, fun g1 => go 100 ?_⟩
  · have g1 := eq_of g1
    have e : bareO o = { noOp 1 with path := o.path, at_ := o.at_, id := o.id, leaf := o.leaf, label := o.label } := by simp only [bareO, g1]; rfl
    show Goes _ _ _ _
    refine goes_draw 100 ?_
    refine ⟨by kernel_rfl, ?_⟩
    exact ⟨trivial, rfl, rfl, bareQ_of e ⟨2, 2, 4, 0, 5, 0, .bool o.leaf, .ff, by rw [← g1]; rfl, ⟨.refl _, rfl⟩, ⟨Wk.ff, rfl⟩, ⟨rfl, rfl, rfl⟩, rfl⟩⟩
  refine ⟨fun g2 => go 100 ?_, fun g2 => go 100 ?_⟩
  · have g2 := eq_of g2
    have e : bareO o = { noOp 2 with path := o.path } := by simp only [bareO, g2]; rfl
    exact ⟨trivial, rfl, rfl, bareQ_of e ⟨2, 2, 4, 0, 5, 0, .ff, .ff, by rw [← g2]; rfl, ⟨Wk.ff, rfl⟩, ⟨Wk.ff, rfl⟩, ⟨rfl, rfl, rfl⟩, rfl⟩⟩
  refine ⟨fun g3 => go 100 ?_, fun g3 => go 100 ?_⟩
  · have g3 := eq_of g3
    have e : bareO o = { noOp 3 with path := o.path, at_ := o.at_, to := o.to } := by simp only [bareO, g3]; rfl
    show Goes _ _ _ _
    refine goes_drawN [117] 100 ?_
    refine ⟨1, o.to.map intV, w_someIntF o.to ho.to, rfl, rfl, ?_⟩
    refine ⟨by kernel_rfl, ?_⟩
    exact ⟨trivial, rfl, rfl, bareQ_of e ⟨2, 2, 6, 2, 5, 0, .ff, .ff, by rw [← g3]; rfl, ⟨Wk.ff, rfl⟩, ⟨Wk.ff, rfl⟩, ⟨rfl, rfl, rfl⟩, rfl⟩⟩
  refine ⟨fun g4 => go 100 ?_, fun g4 => go 100 ?_⟩
  · have g4 := eq_of g4
    show Goes _ _ _ _
    refine goes_draw 100 ?_
    refine ⟨by kernel_rfl, ?_⟩
    refine ⟨fun h => go 100 ?_, fun h => go 100 ?_⟩
    · have h : o.gone = false := by simpa using h
      have e : bareO o = { noOp 4 with path := o.path, key := o.key, gone := o.gone, value := o.value } := by simp only [bareO, g4, h]; rfl
      exact ⟨trivial, rfl, rfl, bareQ_of e ⟨2, 2, 4, 0, 5, 0, .ff, .bool o.gone, by rw [← g4]; rfl, ⟨Wk.ff, rfl⟩, ⟨.refl _, rfl⟩, ⟨rfl, rfl, rfl⟩, rfl⟩⟩
    · have h : o.gone = true := by simpa using h
      have e : bareO o = { noOp 4 with path := o.path, key := o.key, gone := o.gone, value := [] } := by simp only [bareO, g4, h]; rfl
      exact ⟨trivial, rfl, rfl, bareQ_of e ⟨2, 2, 4, 0, 5, 0, .ff, .bool o.gone, by rw [← g4]; rfl, ⟨Wk.ff, rfl⟩, ⟨.refl _, rfl⟩, ⟨rfl, rfl, rfl⟩, rfl⟩⟩
  refine ⟨fun g5 => go 100 ?_, fun g5 => go 100 ?_⟩
  · have g5 := eq_of g5
    have e : bareO o = { noOp 5 with path := o.path, label := o.label } := by simp only [bareO, g5]; rfl
    exact ⟨trivial, rfl, rfl, bareQ_of e ⟨2, 2, 4, 0, 5, 0, .ff, .ff, by rw [← g5]; rfl, ⟨Wk.ff, rfl⟩, ⟨Wk.ff, rfl⟩, ⟨rfl, rfl, rfl⟩, rfl⟩⟩
  refine ⟨fun g6 => go 100 ?_, fun g6 => go 4 ?_⟩
  · have g6 := eq_of g6
    have e : bareO o = { noOp 6 with path := o.path, pieces := o.pieces } := by simp only [bareO, g6]; rfl
    show CallThen _ _ _ _ _ _
    refine call_sub [] (w_somePieceF o.pieces ho.pieces) rfl rfl trivial rfl rfl rfl ?_
    rintro x T1 ⟨g0, rfl, rfl⟩
    refine ⟨rfl, ?_⟩
    exact ⟨trivial, rfl, rfl, bareQ_of e ⟨2, 2, 4, 0, 6, g0, .ff, .ff, by rw [← g6]; rfl, ⟨Wk.ff, rfl⟩, ⟨Wk.ff, rfl⟩, ⟨rfl, rfl, rfl⟩, rfl⟩⟩
  · have g1 := ne_of g1
    have g2 := ne_of g2
    have g3 := ne_of g3
    have g4 := ne_of g4
    have g5 := ne_of g5
    have g6 := ne_of g6
    have e : bareO o = noOp o.kind := by
      unfold bareO
      rw [show (o.kind == 1) = false by simpa using g1, show (o.kind == 2) = false by simpa using g2, show (o.kind == 3) = false by simpa using g3, show (o.kind == 4) = false by simpa using g4, show (o.kind == 5) = false by simpa using g5, show (o.kind == 6) = false by simpa using g6]
      rfl
    show Goes _ _ _ _
    refine goes_nilCell 3 1 1 rfl rfl ?_
    refine go 100 ?_
    exact ⟨trivial, rfl, rfl, bareQ_of e ⟨6, 0, 4, 0, 5, 0, .ff, .ff, rfl, ⟨Wk.ff, rfl⟩, ⟨Wk.ff, rfl⟩, ⟨rfl, rfl, rfl⟩, rfl⟩⟩

theorem w_BareN (o : OpT) (ho : o.Lt 1000000) : FunN Tryz.prog 61 [opV o] (fun x N => ∃ ns, x = opN ns (bareO o) ∧ NsOk N ns (bareO o)) := by
  refine funN_wk ((funN_of_fun (w_BareF o ho) rfl fun x T' h => ?_).mono fun x N => ?_)
  · obtain ⟨kp, gp, kt, gt, ks, gs, l, e, _, _, _, _, h⟩ := h
    exact h
  rintro ⟨x', T', m', ⟨kp, gp, kt, gt, ks, gs, l, e, rfl, ⟨l1, l2⟩, ⟨e1, e2⟩, ⟨h1, h2, h3⟩, _⟩, rfl, hl, _, hN⟩
  simp only [lget_eq] at h1 h2 h3
  have get : ∀ (k : Nat) (o : HObj), T'[k]? = some (some o) → ∃ q, m'[k]? = some q := fun k o h => ⟨_, List.getElem?_eq_getElem (by have := lt_of_get h; omega)⟩
  obtain ⟨q1, k1⟩ := get _ _ h1
  obtain ⟨q2, k2⟩ := get _ _ h2
  obtain ⟨q3, k3⟩ := get _ _ h3
  refine ⟨opN ⟨q1, gp, q2, gt, q3, gs⟩ (bareO o), ?_, rfl, _, rfl, ⟨hN kp q1 _ k1 h1, hN kt q2 _ k2 h2, hN ks q3 _ k3 h3⟩⟩
  simp only [V.conv, V.convL, Ref.conv, k1, k2, k3, pure_conv m' l l2, pure_conv m' e e2]
  exact Wk.agg ⟨.refl _, .refl _, .refl _, .refl _, .refl _, l1, .refl _, .refl _, .refl _, e1, .refl _, trivial⟩
end Bow
/- W77: lists of operations whose rows have names; lists.bare, square.Behind, square.Both, lists.Both, seen to hand back memory of their own. -/
namespace Bow
open Go Go.Proofs

def nV (z : Ns × OpT) : V := opN z.1 z.2
def opsNV (zs : List (Ns × OpT)) : V := .sl 11 (zs.map nV)
def OpsOk (N : Base) (zs : List (Ns × OpT)) : Prop := ∀ z ∈ zs, NsOk N z.1 z.2
theorem OpsOk.ext {N N' : Base} {zs : List (Ns × OpT)} (h : OpsOk N zs) (e : Ext N N') : OpsOk N' zs := fun z hz => (h z hz).ext e
theorem OpsOk.nil (N : Base) : OpsOk N [] := fun z hz => by cases hz
theorem OpsOk.snoc {N : Base} {zs : List (Ns × OpT)} {ns : Ns} {o : OpT} (h : OpsOk N zs) (k : NsOk N ns o) : OpsOk N (zs ++ [(ns, o)]) := fun z hz => by
  rcases List.mem_append.1 hz with hz | hz
  · exact h z hz
  · rw [List.mem_singleton.1 hz]; exact k

theorem fz_cells {B : Base} {ns : Ns} {o : OpT} (h : NsOk B ns o) : ∀ (j : Nat) (c d : V), (opN ns o).cells[j]? = some c → (opV o).cells[j]? = some d → Fz B c d
  | 0, c, d, hc, hd => by cases hc; cases hd; exact .wk (.refl _)
  | 1, c, d, hc, hd => by cases hc; cases hd; exact .row _ _ _ _ h.path
  | 2, c, d, hc, hd => by cases hc; cases hd; exact .wk (.refl _)
  | 3, c, d, hc, hd => by cases hc; cases hd; exact .row _ _ _ _ h.to
  | 4, c, d, hc, hd => by cases hc; cases hd; exact .wk (.refl _)
  | 5, c, d, hc, hd => by cases hc; cases hd; exact .wk (.refl _)
  | 6, c, d, hc, hd => by cases hc; cases hd; exact .wk (.refl _)
  | 7, c, d, hc, hd => by cases hc; cases hd; exact .wk (.refl _)
  | 8, c, d, hc, hd => by cases hc; cases hd; exact .wk (.refl _)
  | 9, c, d, hc, hd => by cases hc; cases hd; exact .wk (.refl _)
  | 10, c, d, hc, hd => by cases hc; cases hd; exact .row _ _ _ _ h.pieces
  | j + 11, c, d, hc, hd => absurd (show j + 11 < 11 from lt_of_get hc) (by omega)
theorem fz_ops {B : Base} {zs : List (Ns × OpT)} (h : OpsOk B zs) : Fz B (opsNV zs) (opsV (zs.map Prod.snd)) := by
  refine .sl 11 _ _ (by simp) (fun y hy => ?_) fun i x y j c d hx hy hc hd => ?_
  · obtain ⟨o, _, rfl⟩ := List.mem_map.1 hy
    exact ⟨rfl, rfl⟩
  · rw [List.getElem?_map, Option.map_eq_some_iff] at hx hy
    obtain ⟨z, hz, rfl⟩ := hx
    obtain ⟨o, ho, rfl⟩ := hy
    rw [List.getElem?_map, hz] at ho
    injection ho with ho
    subst ho
    exact fz_cells (h z (List.mem_of_getElem? hz)) j c d hc hd

set_option maxRecDepth 100000 in
theorem w_lbareN (l : List OpT) (hl : l.length ≤ 1000000) (hok : ∀ o ∈ l, o.Lt 1000000) : FunN Tryz.prog 91 [opsV l] (fun x N => ∃ zs, zs.map Prod.snd = bareL l ∧ x = opsNV zs ∧ OpsOk N zs) := by
  refine funN_of_goes 100 Tryz.func91 rfl rfl rfl fun B => ?_
  show Goes _ _ _ _
  refine goes_own 3 11 rfl ?_
  refine goes_iterB (ι := Nat × Nat × List (Ns × OpT)) (fun i B' => i.1 ≤ l.length ∧ i.2.2.map Prod.snd = bareL (l.take i.1) ∧ Ext B B' ∧ OpsOk (newPart B B') i.2.2) (fun i => l.length - i.1) (fun i => [(8, .int .i64 i.1), (7, .int .i64 (l.map opV).length), (6, opsV l), (3, .osl (.loc 0) i.2.1 0 i.1)]) (fun i => [some (.vec i.2.1 11 (i.2.2.map nV))]) (0, 0, []) 100 (fun _ => rfl) (fun _ => rfl) ⟨⟨Nat.zero_le _, rfl, Ext.refl _, OpsOk.nil _⟩, ⟨⟨rfl, rfl⟩, ⟨rfl, rfl⟩, ⟨rfl, rfl⟩, ⟨rfl, rfl⟩, trivial⟩, ⟨⟨rfl, rfl⟩, trivial⟩⟩ ?_
  rintro ⟨i, g, zs⟩ Bc ⟨k1, k2, k3, k4⟩ next
  simp only at k1 k2 k4
  have hbl : zs.length = i := by
    have := congrArg List.length k2
    simp [bareL] at this
    omega
  refine ⟨fun hlt => go 100 ?_, fun hge => go 100 ?_⟩
  · have hi : i < l.length := by simpa using hlt
    have hx : (l.map opV)[i]? = some (opV l[i]) := by simp [hi]
    refine ⟨Int.natCast_nonneg i, _, hx, ?_⟩
    show CallThen _ _ _ _ _ _
    refine call_funN (w_BareN l[i] (hok _ (List.getElem_mem hi))) rfl ?_
    rintro x N ⟨ns, rfl, hns⟩ _ hN
    refine ⟨⟨rfl, trivial⟩, rfl, rfl, rfl, (by rw [List.length_map]; exact hbl.symm), Nat.le_trans (Nat.mul_le_mul_right _ (show _ ≤ 1000001 by rw [List.length_map, hbl]; simp only [List.length_cons, List.length_nil]; omega)) (by decide), ?_⟩
    refine ⟨by constructor <;> omega, ?_⟩
    show Goes _ _ _ _
    refine next (i + 1, bump g, zs ++ [(ns, bareO l[i])]) (Base.add Bc N) _ _ ⟨⟨hi, ?_, k3.trans (Ext.add _ _), (k4.ext (newPart_ext (Ext.add _ _))).snoc (hns.ext (newPart_add k3 hN))⟩, by simp only; omega, ⟨⟨rfl, rfl⟩, ⟨rfl, rfl⟩, ⟨rfl, rfl⟩, ⟨?_, rfl⟩, trivial⟩, ⟨⟨?_, rfl⟩, trivial⟩⟩
    · rw [List.take_succ_eq_append_getElem hi]
      simp only [bareL, List.map_append, List.map_cons, List.map_nil] at k2 ⊢
      rw [k2]
    · simp only [lk]
      exact congrArg (V.osl _ _ _) (by rw [List.length_map, hbl]; rfl)
    · exact congrArg (fun z => some (HObj.vec (bump g) 11 z)) (by rw [List.map_append]; rfl)
  · have hi : i = l.length := by have : l.length ≤ i := by simpa using hge
                                 omega
    subst hi
    rw [List.take_length] at k2
    exact ⟨trivial, rfl, k3, rfl, by rw [List.length_map, hbl], rfl, opsNV zs, .refl _, rfl, zs, k2, rfl, k4⟩

def BothN (R : List OpT × List OpT × Int) (x : V) (N : Base) : Prop := ∃ zs us : List (Ns × OpT), zs.map Prod.snd = R.1 ∧ us.map Prod.snd = R.2.1 ∧ x = .tup [opsNV zs, opsNV us, .int .i64 R.2.2] ∧ OpsOk N zs ∧ OpsOk N us
set_option maxRecDepth 100000 in
theorem w_listsBothN (xs ys : List OpT) (prior : Bool) (ox : OkL xs) (oy : OkL ys) (hl : xs.length + ys.length ≤ 1000000) : FunN Tryz.prog 31 [opsV xs, opsV ys, .bool prior] (BothN (listsX prior xs ys)) := by
  obtain ⟨n, h⟩ := bringX_spec prior xs ys
  have cb := w_bring prior n xs ys _ h ox oy
  have hi := bringX_inv prior xs ys
  obtain ⟨o1, o2⟩ := bringX_okL (prior := prior) ox oy
  have b1 := w_lbareN (bringX prior xs ys).1 (by omega) (fun o ho => (o1 o ho).1.lt)
  have b2 := w_lbareN (bringX prior xs ys).2.1 (by omega) (fun o ho => (o2 o ho).1.lt)
  have e : listsX prior xs ys = (bareL (bringX prior xs ys).1, bareL (bringX prior xs ys).2.1, (bringX prior xs ys).2.2) := rfl
  obtain ⟨R, hR⟩ : ∃ R, listsX prior xs ys = R := ⟨_, rfl⟩
  obtain ⟨R1, hR1⟩ : ∃ R, bringX prior xs ys = R := ⟨_, rfl⟩
  rw [hR, hR1] at e
  rw [hR1] at cb b1 b2
  rw [hR]
  refine funN_of_goes 100 Tryz.func31 rfl rfl rfl fun B => ?_
  show CallThen _ _ _ _ _ _
  refine call_pure cb rfl ?_
  rintro x rfl
  show CallThen _ _ _ _ _ _
  refine call_funN b1 rfl ?_
  rintro x N1 ⟨zs, z1, rfl, z2⟩ _ hN1
  show CallThen _ _ _ _ _ _
  refine call_funN b2 rfl ?_
  rintro x N2 ⟨us, u1, rfl, u2⟩ _ hN2
  exact ⟨trivial, rfl, (Ext.add _ _).trans (Ext.add _ _), rfl, .tup [opsNV zs, opsNV us, .int .i64 R1.2.2], Wk.refl _, rfl, zs, us, by rw [e]; exact z1, by rw [e]; exact u1, by rw [e], (z2.ext (newPart_add (Ext.refl _) hN1)).ext (newPart_ext (Ext.add _ _)), u2.ext (newPart_add (Ext.add _ _) hN2)⟩
end Bow
/- W78: bowerlaw12.spoil, which writes over an operation's own rows. -/
namespace Bow
open Go Go.Proofs

/-- The operation's rows stand there, whatever they hold. -/
structure NsShp (B : Base) (ns : Ns) (o : OpT) : Prop where
  path : ∃ xs : List V, B ns.p = some (.vec ns.gp 1 xs) ∧ xs.length = (o.path.map intV).length
  to : ∃ xs : List V, B ns.t = some (.vec ns.gt 1 xs) ∧ xs.length = (o.to.map intV).length
  pieces : ∃ xs : List V, B ns.s = some (.vec ns.gs 3 xs) ∧ xs.length = (o.pieces.map pieceV).length
theorem NsOk.shp {B : Base} {ns : Ns} {o : OpT} (h : NsOk B ns o) : NsShp B ns o := ⟨⟨_, h.path, rfl⟩, ⟨_, h.to, rfl⟩, ⟨_, h.pieces, rfl⟩⟩
theorem NsShp.to' {B B' : Base} {ns : Ns} {o : OpT} (h : NsShp B ns o) (k : ShpEq B B') : NsShp B' ns o := by
  obtain ⟨⟨xs, h1, e1⟩, ⟨ys, h2, e2⟩, ⟨zs, h3, e3⟩⟩ := h
  obtain ⟨xs', k1, f1⟩ := k _ _ _ _ h1
  obtain ⟨ys', k2, f2⟩ := k _ _ _ _ h2
  obtain ⟨zs', k3, f3⟩ := k _ _ _ _ h3
  exact ⟨⟨xs', k1, f1.trans e1⟩, ⟨ys', k2, f2.trans e2⟩, ⟨zs', k3, f3.trans e3⟩⟩
theorem NsShp.ext {B B' : Base} {ns : Ns} {o : OpT} (h : NsShp B ns o) (e : Ext B B') : NsShp B' ns o := by
  obtain ⟨⟨xs, h1, e1⟩, ⟨ys, h2, e2⟩, ⟨zs, h3, e3⟩⟩ := h
  exact ⟨⟨xs, e _ _ h1, e1⟩, ⟨ys, e _ _ h2, e2⟩, ⟨zs, e _ _ h3, e3⟩⟩
/-- One row written over. -/
theorem shp_step {B B0 B' : Base} {r g sz : Nat} {xs xs' : List V} {m : List Nat} (h0 : ShpEq B0 B) (q0 : ∀ q, q ∉ m → B q = B0 q) (hr : B r = some (.vec g sz xs)) (hm : r ∈ m) (h1 : B' r = some (.vec g sz xs')) (hl : xs'.length = xs.length) (hq : ∀ q, q ≠ r → B' q = B q) : ShpEq B0 B' ∧ ∀ q, q ∉ m → B' q = B0 q := by
  refine ⟨h0.trans fun r' g' sz' ys hy => ?_, fun q hqm => ?_⟩
  · by_cases e : r' = r
    · subst e
      rw [hr] at hy
      injection hy with hy
      injection hy with a1 a2 a3
      subst a1 a2 a3
      exact ⟨xs', h1, hl⟩
    · exact ⟨ys, by rw [hq r' e]; exact hy, rfl⟩
  · rw [hq q (fun e => hqm (e ▸ hm)), q0 q hqm]

end Bow
/- SP28: where a node is, number by number (the document's answer), in plain Lean. -/
namespace Bow
open Go

theorem nums_snocR (c : Chg) : ∀ (p q : List Int) (k : Int), c.nums q (p ++ [k]) = c.nums q p ++ [c.number (q ++ p) k]
  | [], q, k => by simp [Chg.nums]
  | j :: p, q, k => by
    rw [List.cons_append, Chg.nums, Chg.nums, nums_snocR c p (q ++ [j]) k]
    simp
theorem within_snoc (p q : List Int) (k : Int) : within p (q ++ [k]) = (within p q || decide (p = q ++ [k])) := by
  unfold within
  by_cases h1 : p.length ≤ q.length
  · rw [List.take_append_of_le_length h1]
    have : p ≠ q ++ [k] := fun e => by rw [e] at h1; simp at h1; omega
    rw [decide_eq_false this, Bool.or_false]
  · have hq : q.take p.length = q := List.take_of_length_le (by omega)
    have h2 : (q ++ [k]).take p.length = q ++ [k] := List.take_of_length_le (by simp; omega)
    have : p ≠ q := fun e => by rw [e] at h1; omega
    rw [hq, h2, decide_eq_false this, Bool.false_or]
theorem moves_kinds {o : OpT} (h : movesO o = true) : o.kind = 1 ∨ (o.kind = 2 ∧ o.path ≠ []) ∨ (o.kind = 3 ∧ o.path ≠ [] ∧ within o.path o.to = false) := by
  unfold movesO at h
  rw [Bool.and_eq_true] at h
  have h := h.2
  by_cases h1 : o.kind = 1
  · exact .inl h1
  · rw [decide_eq_false h1, cond_false] at h
    by_cases h2 : o.kind = 2
    · rw [decide_eq_true h2, cond_true] at h
      exact .inr (.inl ⟨h2, fun e => by rw [e] at h; cases h⟩)
    · rw [decide_eq_false h2, cond_false] at h
      by_cases h3 : o.kind = 3
      · rw [decide_eq_true h3, cond_true, Bool.and_eq_true] at h
        exact .inr (.inr ⟨h3, (fun e => (by rw [e] at h; cases h.1)), (by simpa using h.2)⟩)
      · rw [decide_eq_false h3, cond_false] at h
        cases h
def childR (o : OpT) (p : List Int) (k : Int) : Option Int :=
  bif decide (o.kind = 1) then some (bif decide (p = o.path) && decide (o.at_ ≤ k) then k + 1 else k)
  else bif decide (p = o.path.dropLast) && decide (k = lastP o.path) then none
  else some ((bif decide (p = o.path.dropLast) && decide (lastP o.path < k) then k - 1 else k) + (bif decide (o.kind = 3) && (decide (p = o.to) && decide (o.at_ ≤ k)) then 1 else 0))
theorem snoc_last {p : List Int} (h : p ≠ []) : p.dropLast ++ [lastP p] = p := by
  rw [← lastP_eq h]
  exact List.dropLast_concat_getLast h
theorem snoc_iff {p q : List Int} (k : Int) (h : p ≠ []) : p = q ++ [k] ↔ q = p.dropLast ∧ k = lastP p := by
  constructor
  · intro e
    subst e
    simp [lastP]
  · rintro ⟨rfl, rfl⟩
    exact (snoc_last h).symm
def nodeR (a : Option (List Int)) (b : Option Int) : Option (List Int) :=
  match a, b with
  | some r, some n => some (r ++ [n])
  | _, _ => none
theorem node_snoc {o : OpT} (hm : movesO o = true) (q : List Int) (k : Int) (hne : ¬ (o.kind = 3 ∧ o.path = q ++ [k])) : nodeP o (q ++ [k]) = nodeR (nodeP o q) (childR o q k) := by
  unfold nodeP
  rw [hm, Bool.not_true, cond_false, cond_false]
  rcases moves_kinds hm with h1 | ⟨h2, hn⟩ | ⟨h3, hn, hw⟩
  · have ht : (chgO o).takes = false := by unfold chgO; simp [h1]
    have hc : childR o q k = some ((chgO o).number q k) := by
      unfold childR Chg.number chgO
      rw [h1]
      simp only [decide_true, cond_true, Bool.not_true, Bool.false_and, cond_false, Bool.true_and, show decide ((1 : Int) = 2) = false from rfl, Bool.not_false]
      by_cases e1 : q = o.path <;> by_cases e2 : o.at_ ≤ k <;> simp [e1, e2]
    rw [ht, Bool.false_and, Bool.false_and, cond_false, cond_false, nums_snocR, hc, List.nil_append]
    rfl
  · have ht : (chgO o).takes = true := by unfold chgO; simp [h2]
    have hp : (chgO o).puts = false := by unfold chgO; simp [h2]
    rw [ht, hp, Bool.true_and, Bool.true_and, within_snoc]
    cases hwq : within o.path q with
    | true => rfl
    | false =>
      simp only [Bool.false_or, cond_false]
      by_cases e : o.path = q ++ [k]
      · rw [decide_eq_true e]
        obtain ⟨e1, e2⟩ := (snoc_iff k hn).1 e
        have hc : childR o q k = none := by
          unfold childR
          rw [h2, decide_eq_true e1, decide_eq_true e2]
          rfl
        rw [hc]; rfl
      · rw [decide_eq_false e, cond_false, nums_snocR, List.nil_append]
        have hnot : ¬ (q = o.path.dropLast ∧ k = lastP o.path) := fun g => e ((snoc_iff k hn).2 g)
        have hc : childR o q k = some ((chgO o).number q k) := by
          unfold childR Chg.number chgO
          rw [h2]
          by_cases e1 : q = o.path.dropLast <;> by_cases e2 : k = lastP o.path
          · exact absurd ⟨e1, e2⟩ hnot
          · by_cases e3 : lastP o.path < k <;> simp [e1, e2, e3]
          · simp [e1, e2]
          · simp [e1, e2]
        rw [hc]; rfl
  · have ht : (chgO o).takes = true := by unfold chgO; simp [h3]
    have hp : (chgO o).puts = true := by unfold chgO; simp [h3]
    have e : o.path ≠ q ++ [k] := fun e => hne ⟨h3, e⟩
    have hnot : ¬ (q = o.path.dropLast ∧ k = lastP o.path) := fun g => e ((snoc_iff k hn).2 g)
    rw [ht, hp, Bool.true_and, Bool.true_and, within_snoc, decide_eq_false e, Bool.or_false]
    cases hwq : within o.path q with
    | true =>
      simp only [Bool.not_true, cond_false, cond_true]
      have hl := within_len hwq
      have e1 : q ≠ o.path.dropLast := fun g => by
        have : o.path.length ≤ o.path.dropLast.length := g ▸ hl
        have h0 := List.length_pos_iff.2 hn
        simp at this
        omega
      have e2 : q ≠ o.to := fun g => by rw [g, hw] at hwq; cases hwq
      have hc : childR o q k = some k := by
        unfold childR
        simp [h3, e1, e2]
      rw [hc, List.drop_append_of_le_length hl]
      simp [nodeR]
    | false =>
      simp only [cond_false]
      rw [nums_snocR, List.nil_append]
      have hc : childR o q k = some ((chgO o).number q k) := by
        unfold childR Chg.number chgO
        rw [h3]
        by_cases e1 : q = o.path.dropLast <;> by_cases e2 : k = lastP o.path
        · exact absurd ⟨e1, e2⟩ hnot
        all_goals by_cases e3 : lastP o.path < k <;> by_cases e4 : q = o.to <;> by_cases e5 : o.at_ ≤ k <;> simp_all
      rw [hc]; rfl
theorem node_moved {o : OpT} (hm : movesO o = true) (hk : o.kind = 3) : nodeP o o.path = some ((nodeP o o.to).getD [] ++ [bif decide (o.path.dropLast = o.to) && decide (lastP o.path < o.at_) then o.at_ - 1 else o.at_]) := by
  rcases moves_kinds hm with h1 | ⟨h2, hn⟩ | ⟨h3, hn, hw⟩
  · omega
  · omega
  · have ht : (chgO o).takes = true := by unfold chgO; simp [h3]
    have hp : (chgO o).puts = true := by unfold chgO; simp [h3]
    have hpp : within o.path o.path = true := by unfold within; simp
    unfold nodeP
    rw [hm, ht, hp, hpp, hw]
    simp only [Bool.not_true, cond_false, Bool.and_self, cond_true, Bool.and_false, List.drop_length, List.append_nil, Option.getD_some, Option.some.injEq, List.append_cancel_left_eq, List.cons.injEq, and_true]
    unfold Chg.land chgO
    rw [h3]
    by_cases e1 : o.path.dropLast = o.to <;> by_cases e2 : lastP o.path < o.at_ <;> simp [e1, e2]
theorem node_still {o : OpT} (p : List Int) (h : movesO o = false) : nodeP o p = some p := by
  unfold nodeP
  rw [h]; rfl
theorem node_root {o : OpT} : nodeP o [] = some [] := by
  unfold nodeP
  cases hm : movesO o with
  | false => rfl
  | true =>
    simp only [Bool.not_true, cond_false]
    have : ((chgO o).takes && within o.path []) = false := by
      rcases moves_kinds hm with h1 | ⟨h2, hn⟩ | ⟨h3, hn, hw⟩
      · unfold chgO; simp [h1]
      all_goals
        cases hp : o.path with
        | nil => exact absurd hp hn
        | cons a l => rw [within_cons_nil, Bool.and_false]
    rw [this]; rfl
end Bow
/- W67: the document's answer of chapter 11: Moves, parent, child, Node, Gap, Undo. -/
namespace Bow
open Go Go.Proofs

theorem formed_kinds {o : OpT} (h : formedB o = true) : o.kind = 1 ∨ o.kind = 2 ∨ o.kind = 3 ∨ o.kind = 4 ∨ o.kind = 5 ∨ o.kind = 6 := by
  unfold formedB at h
  by_cases h1 : o.kind = 1
  · exact .inl h1
  by_cases h2 : o.kind = 2
  · exact .inr (.inl h2)
  by_cases h3 : o.kind = 3
  · exact .inr (.inr (.inl h3))
  by_cases h4 : o.kind = 4
  · exact .inr (.inr (.inr (.inl h4)))
  by_cases h5 : o.kind = 5
  · exact .inr (.inr (.inr (.inr (.inl h5))))
  by_cases h6 : o.kind = 6
  · exact .inr (.inr (.inr (.inr (.inr h6))))
  exfalso
  have e : ∀ {n : Int}, o.kind ≠ n → (o.kind == n) = false := fun h => by simpa using h
  rw [e h1, e h2, e h3, e h4, e h5, e h6] at h
  simp at h
set_option maxRecDepth 100000 in
theorem w_refMoves (o : OpT) (ho : o.Ok) : Pure Tryz.prog 238 [opV o] (fun x => x = .bool (movesO o)) := by
  refine pure_wk (pure_fn 300 Tryz.func238 rfl rfl rfl fun B => ?_)
  have hW := w_refWithin o.path o.to ho.lt.path
  show CallThen _ _ _ _ _ _
  refine call_pure (w_refFormed o ho.lt ho.each) rfl ?_
  rintro x rfl
  repeat' first
    | (refine ⟨fun _ => go 300 ?_, fun _ => go 300 ?_⟩)
    | (show CallThen _ _ _ _ _ _; refine call_pure hW rfl ?_; rintro z rfl)
    | (refine ⟨trivial, rfl, rfl, rfl, leaf_tt ?_⟩)
    | (refine ⟨trivial, rfl, rfl, rfl, leaf_ff ?_⟩)
    | (refine ⟨trivial, rfl, rfl, rfl, leaf_b ?_⟩)
    | fail
  all_goals clear hW
  all_goals (unfold movesO; cases hf : formedB o with
    | false => simp_all
    | true => rcases formed_kinds hf with k | k | k | k | k | k <;> simp_all <;> (try intro _) <;> exact List.length_pos_iff.2 (by assumption))
/-- The parent's path and the last number. -/
theorem w_refParent (p : List Int) (hp : p.length ≤ 1000000) (hne : p ≠ []) : Pure Tryz.prog 239 [pathV p] (fun x => x = .tup [pathV p.dropLast, intV (lastP p)]) := by
  have hpos : 0 < p.length := List.length_pos_iff.2 hne
  have e : V.sl 1 ((((p.map intV).drop (Int.toNat 0)).take ((((p.map intV).length : Int) - 1).toNat - Int.toNat 0))) = pathV p.dropLast := by
    unfold pathV
    rw [List.dropLast_eq_take, List.map_take]
    congr 2
    simp
  have hx : (p.map intV)[(((p.map intV).length : Int) - 1).toNat]? = some (intV (lastP p)) := by
    rw [← lastP_eq hne, List.getElem?_map, List.getLast_eq_getElem]
    have : (((p.map intV).length : Int) - 1).toNat = p.length - 1 := by simp
    rw [this, List.getElem?_eq_getElem (by omega)]
    rfl
  have hl : (p.map intV).length = p.length := by simp
  refine pure_fn 100 Tryz.func239 rfl rfl rfl fun B => ?_
  show Goes _ _ _ _
  refine goes_draw 100 ⟨by constructor <;> omega, by decide, by omega, by omega, by constructor <;> omega, by omega, _, hx, ?_⟩
  refine ⟨by kernel_rfl, ?_⟩
  refine ⟨trivial, rfl, rfl, rfl, ?_⟩
  rw [e]
  rfl
def childV (r : Option Int) : V := .tup [.int .i64 (r.getD 0), .bool r.isSome]
theorem leafC {r : Option Int} {n : Int} (h : r = some n) : ∃ y, Wk (.tup [.int .i64 n, .tt]) y ∧ y.pureB = true ∧ y = childV r := ⟨childV (some n), Wk.tup ⟨.refl _, Wk.tt, trivial⟩, rfl, by rw [h]⟩
theorem leafC0 {r : Option Int} (h : r = none) : ∃ y, Wk (.tup [.int .i64 0, .ff]) y ∧ y.pureB = true ∧ y = childV r := ⟨childV none, Wk.tup ⟨.refl _, Wk.ff, trivial⟩, rfl, by rw [h]⟩
set_option maxRecDepth 100000 in
theorem w_refchild (o : OpT) (p : List Int) (k : Int) (ho : o.Ok) (hm : movesO o = true) (hp : p.length ≤ 1000000) (hk : 0 ≤ k ∧ k ≤ 10000000) : Pure Tryz.prog 240 [opV o, pathV p, .int .i64 k] (fun x => x = childV (childR o p k)) := by
  refine pure_wk (pure_fn 300 Tryz.func240 rfl rfl rfl fun B => ?_)
  have h1 := w_refSame p o.path hp
  have h2 := w_refSame p o.path.dropLast hp
  have h3 := w_refSame p o.to hp
  refine ⟨fun g1 => go 300 ?_, fun g1 => go 300 ?_⟩
  · have k1 : o.kind = 1 := eq_of g1
    repeat' first
      | (refine ⟨fun _ => go 300 ?_, fun _ => go 300 ?_⟩)
      | (show CallThen _ _ _ _ _ _; refine call_pure h1 rfl ?_; rintro z rfl)
      | (refine ⟨trivial, rfl, rfl, rfl, leafC ?_⟩)
      | (refine ⟨by constructor <;> omega, ?_⟩)
      | fail
    all_goals (clear h1 h2 h3 k1; unfold childR; simp only [*, cond_true, cond_false, Bool.and_true, Bool.and_false, Bool.true_and, Bool.false_and])
  have k1 : o.kind ≠ 1 := ne_of g1
  have hne := moves_ne hm k1
  show CallThen _ _ _ _ _ _
  refine call_pure (w_refParent o.path ho.lt.path hne) rfl ?_
  rintro x rfl
  repeat' first
    | (refine ⟨fun _ => go 300 ?_, fun _ => go 300 ?_⟩)
    | (show CallThen _ _ _ _ _ _; refine call_pure h2 rfl ?_; rintro z rfl)
    | (show CallThen _ _ _ _ _ _; refine call_pure h3 rfl ?_; rintro z rfl)
    | (refine ⟨trivial, rfl, rfl, rfl, leafC ?_⟩)
    | (refine ⟨trivial, rfl, rfl, rfl, leafC0 ?_⟩)
    | (refine ⟨by constructor <;> omega, ?_⟩)
    | fail
  all_goals (clear h1 h2 h3 k1 hne; unfold childR; simp only [*, cond_true, cond_false, Bool.and_true, Bool.and_false, Bool.true_and, Bool.false_and, Int.add_zero])
theorem w_refChild4 (p : List Int) (n : Int) (hp : p.length ≤ 100000) : Pure Tryz.prog 123 [pathV p, .int .i64 n] (fun x => x = pathV (p ++ [n])) := by
  refine pure_wk (pure_fn 300 Tryz.func123 rfl rfl rfl fun B => ?_)
  show CallThen _ _ _ _ _ _
  refine call_sub [] (w_CopiedQ (p.map intV) (by simp; omega)) rfl rfl trivial rfl rfl rfl ?_
  rintro x T1 ⟨rfl, rfl⟩
  refine ⟨rfl, ?_⟩
  refine ⟨⟨rfl, trivial⟩, rfl, rfl, rfl, rfl, ?_, ?_⟩
  · simp only [List.length_map, List.length_cons, List.length_nil]; exact Nat.le_trans (Nat.mul_le_mul_right _ (show p.length + 1 ≤ 1000000 by omega)) (by decide)
  refine ⟨trivial, rfl, rfl, rfl, by simp, rfl, pathV (p ++ [n]), ?_, rfl, rfl⟩
  unfold pathV
  rw [List.map_append]
  exact Wk.refl _
theorem nodeP_len64 (o : OpT) (p : List Int) : ((nodeP o p).getD []).length ≤ p.length + 65 := by
  unfold nodeP
  cases hm : movesO o with
  | false => simp
  | true =>
    obtain ⟨hf, hkk⟩ := moves_parts hm
    cases ht : (chgO o).takes && within o.path p with
    | false => simp [nums_len]
    | true =>
      cases hq : (chgO o).puts with
      | false => simp
      | true =>
        rw [Bool.and_eq_true] at ht
        have hk3 : o.kind = 3 := by
          rcases hkk with k | ⟨k, _⟩ | h
          · have := ht.1; unfold chgO at this; simp [k] at this
          · unfold chgO at hq; simp [k] at hq
          · exact h.1
        have := may_len (good_to hf hk3)
        simp [nums_len]
        omega
def nodeBV (r : Option (List Int)) : V := .tup [pathV (r.getD []), .bool r.isSome]
theorem leafN1 {r : Option (List Int)} {q : List Int} (h : r = some q) : ∃ y, Wk (.tup [pathV q, .tt]) y ∧ y.pureB = true ∧ y = nodeBV r := ⟨nodeBV (some q), Wk.tup ⟨.refl _, Wk.tt, trivial⟩, rfl, by rw [h]⟩
theorem leafN0 {r : Option (List Int)} (h : r = none) : ∃ y, Wk (.tup [.nilsl, .ff]) y ∧ y.pureB = true ∧ y = nodeBV r := ⟨nodeBV none, Wk.tup ⟨Wk.nil 1, Wk.ff, trivial⟩, rfl, by rw [h]⟩
theorem w_refNode0 (o : OpT) (p : List Int) (ho : o.Ok) (hp : p.length ≤ 1000) (h : movesO o = false ∨ p = []) : Pure Tryz.prog 217 [opV o, pathV p] (fun x => x = nodeBV (nodeP o p)) := by
  have e : nodeP o p = some p := by
    rcases h with h | rfl
    · exact node_still p h
    · exact node_root
  refine pure_wk (pure_fn 300 Tryz.func217 rfl rfl rfl fun B => ?_)
  show CallThen _ _ _ _ _ _
  refine call_pure (w_refMoves o ho) rfl ?_
  rintro x rfl
  refine ⟨fun g1 => go 300 ?_, fun g1 => go 300 ?_⟩
  · show CallThen _ _ _ _ _ _
    refine call_pure (w_refCopied p (by omega)) rfl ?_
    rintro x rfl
    exact ⟨trivial, rfl, rfl, rfl, leafN1 e⟩
  refine ⟨fun g2 => go 300 ?_, fun g2 => go 300 ?_⟩
  · show CallThen _ _ _ _ _ _
    refine call_pure (w_refCopied p (by omega)) rfl ?_
    rintro x rfl
    exact ⟨trivial, rfl, rfl, rfl, leafN1 e⟩
  · exfalso
    have g1 : movesO o = true := by simpa using g1
    rcases h with h | rfl
    · rw [g1] at h; cases h
    · exact absurd rfl (ne_of g2)
set_option maxHeartbeats 4000000 in
set_option maxRecDepth 100000 in
theorem w_refNodeS (o : OpT) (p : List Int) (ho : o.Ok) (hm : movesO o = true) (hne : p ≠ []) (hp : p.length ≤ 1000) (hpb : ∀ i ∈ p, 0 ≤ i ∧ i ≤ 1048576)
    (ih : Pure Tryz.prog 217 [opV o, pathV p.dropLast] (fun x => x = nodeBV (nodeP o p.dropLast)))
    (ih2 : o.kind = 3 → o.path = p → Pure Tryz.prog 217 [opV o, pathV o.to] (fun x => x = nodeBV (nodeP o o.to))) :
    Pure Tryz.prog 217 [opV o, pathV p] (fun x => x = nodeBV (nodeP o p)) := by
  have hlast : 0 ≤ lastP p ∧ lastP p ≤ 1048576 := by rw [← lastP_eq hne]; exact hpb _ (List.getLast_mem hne)
  have hsnoc := snoc_last hne
  obtain ⟨hf, hkk⟩ := moves_parts hm
  have hpos : 0 < p.length := List.length_pos_iff.2 hne
  have hlen1 := nodeP_len64 o p.dropLast
  have hdl : p.dropLast.length ≤ 1000 := by simp; omega
  have h1 := w_refSame p o.path (by omega)
  refine pure_wk (pure_fn 300 Tryz.func217 rfl rfl rfl fun B => ?_)
  show CallThen _ _ _ _ _ _
  refine call_pure (w_refMoves o ho) rfl ?_
  rintro x rfl
  refine ⟨fun g1 => absurd g1 (by rw [hm]; decide), fun _ => go 300 ?_⟩
  refine ⟨fun g1 => absurd (eq_of g1) (by simp; omega), fun _ => go 300 ?_⟩
  show CallThen _ _ _ _ _ _
  refine call_pure (w_refParent p (by omega) hne) rfl ?_
  rintro x rfl
  have rest : ∀ (h : ¬ (o.kind = 3 ∧ o.path = p)), nodeP o p = nodeR (nodeP o p.dropLast) (childR o p.dropLast (lastP p)) := fun h => by
    have := node_snoc hm p.dropLast (lastP p) (by rw [hsnoc]; exact h)
    rwa [hsnoc] at this
  have hch := w_refchild o p.dropLast (lastP p) ho hm (by omega) ⟨by omega, by omega⟩
  refine ⟨fun g2 => go 300 ?_, fun g2 => go 300 ?_⟩
  · have k3 : o.kind = 3 := eq_of g2
    show CallThen _ _ _ _ _ _
    refine call_pure h1 rfl ?_
    rintro x rfl
    refine ⟨fun g3 => go 300 ?_, fun g3 => go 300 ?_⟩
    · have e3 : p = o.path := of_decide_eq_true g3
      have hto := may_len (good_to hf k3)
      have hgap := formed_gap hf (.inr k3)
      have hl2 := nodeP_len64 o o.to
      have hmv := node_moved hm k3
      rw [← e3] at hmv
      show CallThen _ _ _ _ _ _
      refine call_pure (ih2 k3 e3.symm) rfl ?_
      rintro x rfl
      show CallThen _ _ _ _ _ _
      refine call_pure (w_refSame p.dropLast o.to (by omega)) rfl ?_
      rintro x rfl
      have fin : ∀ n : Int, n = (bif decide (p.dropLast = o.to) && decide (lastP p < o.at_) then o.at_ - 1 else o.at_) → nodeP o p = some ((nodeP o o.to).getD [] ++ [n]) := fun n hn => by rw [hn]; exact hmv
      refine ⟨fun g4 => go 300 ?_, fun g4 => go 300 ?_⟩
      · refine ⟨fun g5 => go 300 ?_, fun g5 => go 300 ?_⟩
        · refine ⟨by constructor <;> omega, ?_⟩
          show CallThen _ _ _ _ _ _
          refine call_pure (w_refChild4 _ _ (by omega)) rfl ?_
          rintro x rfl
          exact ⟨trivial, rfl, rfl, rfl, leafN1 (fin _ (by rw [g4, g5]; rfl))⟩
        · show CallThen _ _ _ _ _ _
          refine call_pure (w_refChild4 _ _ (by omega)) rfl ?_
          rintro x rfl
          exact ⟨trivial, rfl, rfl, rfl, leafN1 (fin _ (by rw [g4, g5]; rfl))⟩
      · show CallThen _ _ _ _ _ _
        refine call_pure (w_refChild4 _ _ (by omega)) rfl ?_
        rintro x rfl
        exact ⟨trivial, rfl, rfl, rfl, leafN1 (fin _ (by rw [g4]; rfl))⟩
    · have e3 : ¬ p = o.path := of_decide_eq_false g3
      have er := rest (fun h => e3 h.2.symm)
      rw [er]
      show CallThen _ _ _ _ _ _
      refine call_pure ih rfl ?_
      rintro x rfl
      show CallThen _ _ _ _ _ _
      refine call_pure hch rfl ?_
      rintro x rfl
      refine ⟨fun g4 => go 300 ?_, fun g4 => go 300 ?_⟩
      · exact ⟨trivial, rfl, rfl, rfl, leafN0 (by cases hR : nodeP o p.dropLast with
          | none => rfl
          | some q => rw [hR] at g4; cases g4)⟩
      refine ⟨fun g5 => go 300 ?_, fun g5 => go 300 ?_⟩
      · exact ⟨trivial, rfl, rfl, rfl, leafN0 (by cases hR : childR o p.dropLast (lastP p) with
          | none => cases nodeP o p.dropLast <;> rfl
          | some q => rw [hR] at g5; cases g5)⟩
      show CallThen _ _ _ _ _ _
      refine call_pure (w_refChild4 _ _ (by omega)) rfl ?_
      rintro x rfl
      exact ⟨trivial, rfl, rfl, rfl, leafN1 (by
        cases hR : nodeP o p.dropLast with
        | none => rw [hR] at g4; cases g4
        | some q =>
          cases hC : childR o p.dropLast (lastP p) with
          | none => rw [hC] at g5; cases g5
          | some n => rfl)⟩
  · have k3 : o.kind ≠ 3 := ne_of g2
    have er := rest (fun h => k3 h.1)
    rw [er]
    show CallThen _ _ _ _ _ _
    refine call_pure ih rfl ?_
    rintro x rfl
    show CallThen _ _ _ _ _ _
    refine call_pure hch rfl ?_
    rintro x rfl
    refine ⟨fun g4 => go 300 ?_, fun g4 => go 300 ?_⟩
    · exact ⟨trivial, rfl, rfl, rfl, leafN0 (by cases hR : nodeP o p.dropLast with
        | none => rfl
        | some q => rw [hR] at g4; cases g4)⟩
    refine ⟨fun g5 => go 300 ?_, fun g5 => go 300 ?_⟩
    · exact ⟨trivial, rfl, rfl, rfl, leafN0 (by cases hR : childR o p.dropLast (lastP p) with
        | none => cases nodeP o p.dropLast <;> rfl
        | some q => rw [hR] at g5; cases g5)⟩
    show CallThen _ _ _ _ _ _
    refine call_pure (w_refChild4 _ _ (by omega)) rfl ?_
    rintro x rfl
    exact ⟨trivial, rfl, rfl, rfl, leafN1 (by
      cases hR : nodeP o p.dropLast with
      | none => rw [hR] at g4; cases g4
      | some q =>
        cases hC : childR o p.dropLast (lastP p) with
        | none => rw [hC] at g5; cases g5
        | some n => rfl)⟩
theorem w_refNode1 (o : OpT) (ho : o.Ok) (hm : movesO o = true) : ∀ (n : Nat) (p : List Int), p.length = n → p.length ≤ 1000 → (∀ i ∈ p, 0 ≤ i ∧ i ≤ 1048576) → (o.kind = 3 → within o.path p = false) → Pure Tryz.prog 217 [opV o, pathV p] (fun x => x = nodeBV (nodeP o p))
  | 0, p, hn, _, _, _ => w_refNode0 o p ho (by omega) (.inr (List.length_eq_zero_iff.1 hn))
  | n + 1, p, hn, hp, hpb, hw => by
    have hne : p ≠ [] := fun e => by rw [e] at hn; cases hn
    have hd : p.dropLast.length = n := by simp [hn]
    refine w_refNodeS o p ho hm hne hp hpb (w_refNode1 o ho hm n p.dropLast hd (by omega) (fun i hi => hpb i (List.dropLast_subset _ hi)) fun k => ?_) fun k e => ?_
    · have := hw k
      have e := within_snoc o.path p.dropLast (lastP p)
      rw [snoc_last hne, this] at e
      exact (Bool.or_eq_false_iff.1 e.symm).1
    · have := hw k
      rw [e] at this
      unfold within at this
      simp at this
theorem w_refNode2 (o : OpT) (ho : o.Ok) (hm : movesO o = true) : ∀ (n : Nat) (p : List Int), p.length = n → p.length ≤ 1000 → (∀ i ∈ p, 0 ≤ i ∧ i ≤ 1048576) → Pure Tryz.prog 217 [opV o, pathV p] (fun x => x = nodeBV (nodeP o p))
  | 0, p, hn, _, _ => w_refNode0 o p ho (by omega) (.inr (List.length_eq_zero_iff.1 hn))
  | n + 1, p, hn, hp, hpb => by
    have hne : p ≠ [] := fun e => by rw [e] at hn; cases hn
    have hd : p.dropLast.length = n := by simp [hn]
    refine w_refNodeS o p ho hm hne hp hpb (w_refNode2 o ho hm n p.dropLast hd (by omega) (fun i hi => hpb i (List.dropLast_subset _ hi))) fun k e => ?_
    obtain ⟨hf, hkk⟩ := moves_parts hm
    have hto := good_to hf k
    have := may_len hto
    refine w_refNode1 o ho hm _ o.to rfl (by omega) (may_step hto) fun _ => ?_
    rcases hkk with h | ⟨h, _⟩ | ⟨_, _, h⟩
    · omega
    · omega
    · exact h
theorem w_refNode (o : OpT) (p : List Int) (ho : o.Ok) (hp : p.length ≤ 1000) (hpb : ∀ i ∈ p, 0 ≤ i ∧ i ≤ 1048576) : Pure Tryz.prog 217 [opV o, pathV p] (fun x => x = nodeBV (nodeP o p)) := by
  cases hm : movesO o with
  | false => exact w_refNode0 o p ho hp (.inl hm)
  | true => exact w_refNode2 o ho hm _ p rfl hp hpb

set_option maxHeartbeats 4000000 in
set_option maxRecDepth 100000 in
theorem w_refGap (o : OpT) (p : List Int) (at_ : Int) (first : Bool) (ho : o.Ok) (hp : p.length ≤ 1000) (hpb : ∀ i ∈ p, 0 ≤ i ∧ i ≤ 1048576) (hat : 0 ≤ at_ ∧ at_ ≤ 10000000) :
    Pure Tryz.prog 244 [opV o, pathV p, .int .i64 at_, .bool first] (fun x => x = gapV (gapP o p at_ first)) := by
  refine pure_wk (pure_fn 300 Tryz.func244 rfl rfl rfl fun B => ?_)
  show CallThen _ _ _ _ _ _
  refine call_pure (w_refNode o p ho hp hpb) rfl ?_
  rintro x rfl
  cases hn : nodeP o p with
  | none =>
    have e : gapP o p at_ first = ([], 0, false) := by unfold gapP; rw [hn]
    rw [e]
    refine ⟨fun _ => go 300 ?_, fun g => (by cases g)⟩
    exact ⟨trivial, rfl, rfl, rfl, gapV ([], 0, false), Wk.tup ⟨Wk.nil 1, .refl _, Wk.ff, trivial⟩, rfl, rfl⟩
  | some q =>
    refine ⟨fun g => (by cases g), fun _ => go 300 ?_⟩
    show CallThen _ _ _ _ _ _
    refine call_pure (w_refMoves o ho) rfl ?_
    rintro x rfl
    refine ⟨fun g1 => go 300 ?_, fun g1 => go 300 ?_⟩
    · have hm : movesO o = false := by simpa using g1
      refine ⟨trivial, rfl, rfl, rfl, gap_leaf ?_⟩
      unfold gapP
      rw [hn, hm]
      rfl
    have hm : movesO o = true := by simpa using g1
    have e : gapP o p at_ first = (q, (bif (chgO o).takes && (decide ((chgO o).at_ < at_) && decide (p = (chgO o).frm)) then at_ - 1 else at_) + (bif (chgO o).puts && (decide (p = (chgO o).to) && (decide ((chgO o).gap < at_) || (decide (at_ = (chgO o).gap) && !first))) then 1 else 0), true) := by
      unfold gapP
      rw [hn, hm]
      rfl
    rw [e]
    clear e
    have flip : ∀ r : List Int, decide (r = p) = decide (p = r) := fun r => decide_eq_decide.2 eq_comm
    have h1 := w_refSame o.path.dropLast p (by have := ho.lt.path; simp; omega)
    have h2 := w_refSame o.path p ho.lt.path
    have h3 := w_refSame o.to p ho.lt.to
    rw [flip] at h1 h2 h3
    clear flip
    have hgap : (chgO o).gap = o.at_ := rfl
    rcases moves_kinds hm with k | ⟨k, hne⟩ | ⟨k, hne, hw⟩
    · have e1 : (chgO o).takes = false := by unfold chgO; simp [k]
      have e2 : (chgO o).puts = true := by unfold chgO; simp [k]
      have e3 : (chgO o).to = o.path := by unfold chgO; simp [k]
      rw [e1, e2, e3, hgap]
      clear e1 e2 e3 hgap
      refine ⟨fun g => absurd k (ne_of' g), fun _ => go 300 ?_⟩
      refine ⟨fun _ => go 300 ?_, fun g => absurd k (ne_of g)⟩
      refine ⟨fun _ => go 300 ?_, fun g => absurd (eq_of' g) (by omega)⟩
      show CallThen _ _ _ _ _ _
      refine call_pure h2 rfl ?_
      rintro x rfl
      repeat' first
        | (refine ⟨fun _ => go 300 ?_, fun _ => go 300 ?_⟩)
        | (refine ⟨trivial, rfl, rfl, rfl, gap_leaf ?_⟩)
        | (refine ⟨by constructor <;> omega, ?_⟩)
        | fail
      all_goals (clear h1 h2 h3 k hm g1; simp only [*, cond_true, cond_false, Bool.and_true, Bool.and_false, Bool.true_and, Bool.false_and, Bool.or_true, Bool.true_or, Bool.or_false, Bool.false_or, Int.add_zero, Option.getD_some])
    · have e1 : (chgO o).takes = true := by unfold chgO; simp [k]
      have e2 : (chgO o).puts = false := by unfold chgO; simp [k]
      have e3 : (chgO o).frm = o.path.dropLast := by unfold chgO; simp [k]
      have e4 : (chgO o).at_ = lastP o.path := by unfold chgO; simp [k]
      rw [e1, e2, e3, e4, hgap]
      clear e1 e2 e3 e4 hgap
      have hpar := w_refParent o.path ho.lt.path hne
      refine ⟨fun _ => go 300 ?_, fun g => absurd (eq_of' g) (by omega)⟩
      show CallThen _ _ _ _ _ _
      refine call_pure hpar rfl ?_
      rintro x rfl
      show CallThen _ _ _ _ _ _
      refine call_pure h1 rfl ?_
      rintro x rfl
      repeat' first
        | (refine ⟨fun g => absurd (eq_of g) (by omega), fun _ => go 300 ?_⟩)
        | (refine ⟨fun g => absurd k (ne_of' g), fun _ => go 300 ?_⟩)
        | (refine ⟨fun _ => go 300 ?_, fun _ => go 300 ?_⟩)
        | (refine ⟨trivial, rfl, rfl, rfl, gap_leaf ?_⟩)
        | (refine ⟨by constructor <;> omega, ?_⟩)
        | fail
      all_goals (clear h1 h2 h3 k hm g1; simp only [*, cond_true, cond_false, Bool.and_true, Bool.and_false, Bool.true_and, Bool.false_and, Bool.or_true, Bool.true_or, Bool.or_false, Bool.false_or, Int.add_zero, Option.getD_some])
    · have e1 : (chgO o).takes = true := by unfold chgO; simp [k]
      have e2 : (chgO o).puts = true := by unfold chgO; simp [k]
      have e3 : (chgO o).frm = o.path.dropLast := by unfold chgO; simp [k]
      have e4 : (chgO o).at_ = lastP o.path := by unfold chgO; simp [k]
      have e5 : (chgO o).to = o.to := by unfold chgO; simp [k]
      rw [e1, e2, e3, e4, e5, hgap]
      clear e1 e2 e3 e4 e5 hgap
      have hpar := w_refParent o.path ho.lt.path hne
      refine ⟨fun _ => go 300 ?_, fun g => absurd (eq_of' g) (by omega)⟩
      show CallThen _ _ _ _ _ _
      refine call_pure hpar rfl ?_
      rintro x rfl
      show CallThen _ _ _ _ _ _
      refine call_pure h1 rfl ?_
      rintro x rfl
      repeat' first
        | (refine ⟨fun g => absurd (eq_of g) (by omega), fun _ => go 300 ?_⟩)
        | (refine ⟨fun _ => go 300 ?_, fun g => absurd (eq_of' g) (by omega)⟩)
        | (refine ⟨fun _ => go 300 ?_, fun _ => go 300 ?_⟩)
        | (show CallThen _ _ _ _ _ _; refine call_pure h3 rfl ?_; rintro z rfl)
        | (refine ⟨trivial, rfl, rfl, rfl, gap_leaf ?_⟩)
        | (refine ⟨by constructor <;> omega, ?_⟩)
        | fail
      all_goals (clear h1 h2 h3 k hm g1; simp only [*, cond_true, cond_false, Bool.and_true, Bool.and_false, Bool.true_and, Bool.false_and, Bool.or_true, Bool.true_or, Bool.or_false, Bool.false_or, Int.add_zero, Option.getD_some])

set_option maxHeartbeats 4000000 in
set_option maxRecDepth 100000 in
theorem w_ref11Undo (o : OpT) (ho : o.Ok) : Pure Tryz.prog 241 [opV o] (fun x => x = opV (undoO o)) := by
  have z : undoO o = noOp 0 → ∃ y, Wk (.agg [.int .u8 0, .nilsl, .int .i64 0, .nilsl, .int .u64 0, .ff, .str [], .str [], .str [], .ff, .nilsl]) y ∧ y.pureB = true ∧ y = opV (undoO o) := fun h => ⟨opV (noOp 0), wk_zeroOp, rfl, by rw [h]⟩
  refine pure_wk (pure_fn 300 Tryz.func241 rfl rfl rfl fun B => ?_)
  refine ⟨fun g1 => go 300 ?_, fun g1 => go 300 ?_⟩
  · have hk : o.kind ≠ 3 := ne_of' g1
    exact ⟨trivial, rfl, rfl, rfl, z (by unfold undoO; rw [decide_eq_false hk]; rfl)⟩
  have hk : o.kind = 3 := eq_of' g1
  show CallThen _ _ _ _ _ _
  refine call_pure (w_refMoves o ho) rfl ?_
  rintro x rfl
  refine ⟨fun g2 => go 300 ?_, fun g2 => go 300 ?_⟩
  · have hm : movesO o = false := by simpa using g2
    exact ⟨trivial, rfl, rfl, rfl, z (by unfold undoO; rw [hm]; simp)⟩
  have hm : movesO o = true := by simpa using g2
  obtain ⟨hf, hkk⟩ := moves_parts hm
  have hne := moves_ne hm (by rw [hk]; decide)
  have hpl := may_len (formed_path hf)
  have hps := may_step (formed_path hf)
  have hgap := formed_gap hf (.inr hk)
  have hfrm : (chgO o).frm = o.path.dropLast := by unfold chgO; simp [hk]
  have hto : (chgO o).to = o.to := by unfold chgO; simp [hk]
  have hat : (chgO o).at_ = lastP o.path := by unfold chgO; simp [hk]
  have hl : 0 ≤ lastP o.path ∧ lastP o.path ≤ 1048576 := by rw [← lastP_eq hne]; exact hps _ (List.getLast_mem hne)
  have hfs : ∀ i ∈ o.path.dropLast, 0 ≤ i ∧ i ≤ 1048576 := fun i hi => hps i (List.dropLast_subset _ hi)
  have hland : (chgO o).land = bif decide (o.path.dropLast = o.to) && decide (lastP o.path < o.at_) then o.at_ - 1 else o.at_ := by
    unfold Chg.land
    rw [hfrm, hto, hat, Bool.and_comm]
    rfl
  have hmv := node_moved hm hk
  have hlen := nodeP_len64 o o.path
  rw [← hland] at hmv
  have hund : undoO o = { noOp 3 with path := (nodeP o o.path).getD [], to := (nodeP o o.path.dropLast).getD [], at_ := lastP o.path + (bif decide (o.path.dropLast = o.to) && decide ((chgO o).land < lastP o.path) then 1 else 0) } := by
    unfold undoO
    rw [decide_eq_true hk, hm, hfrm, hto, hat]
    rfl
  have cn := w_refNode o o.path ho (by omega) hps
  obtain ⟨now, hnow⟩ : ∃ now, (nodeP o o.to).getD [] ++ [(chgO o).land] = now := ⟨_, rfl⟩
  have hlast : lastP now = (chgO o).land := by rw [← hnow]; simp [lastP]
  have hnne : now ≠ [] := by rw [← hnow]; simp
  rw [hnow] at hmv
  rw [hmv] at cn hund hlen
  simp only [Option.getD_some] at hund hlen
  show CallThen _ _ _ _ _ _
  refine call_pure (w_refParent o.path ho.lt.path hne) rfl ?_
  rintro x rfl
  show CallThen _ _ _ _ _ _
  refine call_pure cn rfl ?_
  rintro x rfl
  show CallThen _ _ _ _ _ _
  refine call_pure (w_refNode o o.path.dropLast ho (by simp; omega) hfs) rfl ?_
  rintro x rfl
  show CallThen _ _ _ _ _ _
  refine call_pure (w_refParent now (by omega) hnne) rfl ?_
  rintro x rfl
  rw [hlast]
  show CallThen _ _ _ _ _ _
  refine call_pure (w_refSame o.path.dropLast o.to (by simp; omega)) rfl ?_
  rintro x rfl
  have fin : ∀ n : Int, n = lastP o.path + (bif decide (o.path.dropLast = o.to) && decide ((chgO o).land < lastP o.path) then 1 else 0) →
      ∃ y, Wk (.agg [.int .u8 3, pathV now, .int .i64 n, pathV ((nodeP o o.path.dropLast).getD []), .int .u64 0, .ff, .str [], .str [], .str [], .ff, .nilsl]) y ∧ y.pureB = true ∧ y = opV (undoO o) := fun n hn =>
    ⟨opV (undoO o), by
      rw [hund, ← hn]
      exact Wk.agg ⟨.refl _, .refl _, .refl _, .refl _, .refl _, Wk.ff, .refl _, .refl _, .refl _, Wk.ff, Wk.nil 3, trivial⟩, rfl, rfl⟩
  refine ⟨fun q1 => go 300 ?_, fun q1 => go 300 ?_⟩
  · refine ⟨fun q2 => go 300 ?_, fun q2 => go 300 ?_⟩
    · refine ⟨by constructor <;> omega, ?_⟩
      exact ⟨trivial, rfl, rfl, rfl, fin _ (by rw [q1, q2]; rfl)⟩
    · exact ⟨trivial, rfl, rfl, rfl, fin _ (by rw [q1, q2]; simp)⟩
  · exact ⟨trivial, rfl, rfl, rfl, fin _ (by rw [q1]; simp)⟩
end Bow
