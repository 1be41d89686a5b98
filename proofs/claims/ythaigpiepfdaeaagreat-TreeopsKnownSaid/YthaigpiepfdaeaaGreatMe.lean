/- The library, part 5: W7, W8, W9, W10, W11, W12, W13, W14, W15, W16, W17, W18, W19, W20, W21, W22, W23, WB1, W24, W25, W26, SP9, W27, W30a, W31, W32, W33, W34, WB2, W35, W36, W37. -/
import Derived.Test.YthaigpiepfdaeaaGreatMd
import Derived.Shelf.Strings.BuilderK
import Derived.Test.YthaigpiepfdaeaaGreatProg
import Derived.BigCall
import Derived.Lib.Bytealg
/- W7: pieces that are right; Formed. -/
namespace Bow
open Go Go.Proofs

theorem may_cons_drop (p : List Int) (i : Nat) (h : i < p.length) : (p.drop i).all stepOk = (stepOk p[i] && (p.drop (i + 1)).all stepOk) := by rw [drop_cons h, List.all_cons]

set_option maxRecDepth 100000 in
theorem w_refMay (p : List Int) (hp : p.length ≤ 1000000) : Pure Tryz.prog 114 [pathV p] (fun x => x = .bool (mayP p)) := by
  refine pure_wk (pure_fn 100 Tryz.func114 rfl rfl rfl fun B => ?_)
  show Goes _ _ _ _
  refine goes_iter (ι := Nat) (fun i => i ≤ p.length ∧ i ≤ 64 ∧ mayP p = (decide (p.length ≤ 64) && (p.drop i).all stepOk)) (fun i => p.length - i) (fun i => [(3, .int .i64 i), (0, pathV p)]) (fun _ => []) 0 200 (fun _ => rfl) (fun _ => rfl) ⟨⟨Nat.zero_le _, Nat.zero_le _, rfl⟩, ?_, ?_⟩ ?_
  · exact ⟨⟨rfl, rfl⟩, ⟨rfl, rfl⟩, trivial⟩
  · trivial
  · rintro i ⟨h1, h3, h2⟩ next
    refine ⟨fun hlt => go 200 ?_, fun hge => go 200 ?_⟩
    · have hi : i < p.length := by simpa using hlt
      have hx : (p.map intV)[i]? = some (intV p[i]) := by simp [hi]
      rw [may_cons_drop p i hi] at h2
      refine ⟨fun g1 => go 200 ?_, fun g1 => go 200 ?_⟩
      · have g1 : (64 : Int) ≤ i := by simpa using g1
        exact ⟨trivial, rfl, rfl, rfl, leaf_ff (by rw [h2, decide_eq_false (p := p.length ≤ 64) (by omega)]; rfl)⟩
      have g1 : ¬ (64 : Int) ≤ i := by simpa using g1
      refine ⟨Int.natCast_nonneg i, _, hx, ?_⟩
      refine ⟨fun g2 => go 200 ?_, fun g2 => go 200 ?_⟩
      · have g2 := lt_of g2
        exact ⟨trivial, rfl, rfl, rfl, leaf_ff (by rw [h2]; unfold stepOk; rw [decide_eq_false (p := 0 ≤ p[i]) (by omega)]; simp)⟩
      have g2 := not_lt_of g2
      refine ⟨Int.natCast_nonneg i, _, hx, ?_⟩
      refine ⟨fun g3 => go 200 ?_, fun g3 => go 200 ?_⟩
      · have g3 := le_of g3
        exact ⟨trivial, rfl, rfl, rfl, leaf_ff (by rw [h2]; unfold stepOk; rw [decide_eq_false (p := p[i] < 1048576) (by omega)]; simp)⟩
      have g3 := not_le_of g3
      refine ⟨by constructor <;> omega, ?_⟩
      show Goes _ _ _ _
      refine next (i + 1) _ _ ⟨⟨hi, by omega, ?_⟩, by omega, ⟨⟨rfl, rfl⟩, ⟨rfl, rfl⟩, trivial⟩, trivial⟩
      have : stepOk p[i] = true := by unfold stepOk; rw [decide_eq_true (by omega), decide_eq_true (by omega)]; rfl
      rw [h2, this, Bool.true_and]
    · have hi : p.length ≤ i := by simpa using hge
      rw [List.drop_eq_nil_of_le hi] at h2
      exact ⟨trivial, rfl, rfl, rfl, leaf_tt (by rw [h2, decide_eq_true (p := p.length ≤ 64) (by omega)]; rfl)⟩

theorem rightGo_bad {n : Nat} {p : PieceT} {l : List PieceT} (h : p.keep < 0 ∨ 1048576 < p.keep ∨ p.drop < 0 ∨ 1048576 < p.drop ∨ 1048576 < n + p.put.length) : rightGo n (p :: l) = false := by
  rw [rightGo]
  rcases h with h | h | h | h | h
  · rw [decide_eq_false (p := 0 ≤ p.keep) (by omega)]; rfl
  · rw [decide_eq_false (p := p.keep ≤ 1048576) (by omega)]; simp
  · rw [decide_eq_false (p := 0 ≤ p.drop) (by omega)]; simp
  · rw [decide_eq_false (p := p.drop ≤ 1048576) (by omega)]; simp
  · rw [decide_eq_false (p := n + p.put.length ≤ 1048576) (by omega)]; simp
theorem rightGo_good {n : Nat} {p : PieceT} {l : List PieceT} (h1 : 0 ≤ p.keep) (h2 : p.keep ≤ 1048576) (h3 : 0 ≤ p.drop) (h4 : p.drop ≤ 1048576) (h5 : n + p.put.length ≤ 1048576) : rightGo n (p :: l) = rightGo (n + p.put.length) l := by
  rw [rightGo, decide_eq_true h1, decide_eq_true h2, decide_eq_true h3, decide_eq_true h4, decide_eq_true h5]
  rfl

set_option maxRecDepth 100000 in
theorem w_RightW (l : List PieceT) (hl : l.length ≤ 1000000000000) (hpl : ∀ p ∈ l, p.put.length ≤ 1000000000000) : Pure Tryz.prog 113 [piecesV l] (fun x => x = .bool (rightP l)) := by
  refine pure_wk (pure_fn 100 Tryz.func113 rfl rfl rfl fun B => ?_)
  refine ⟨fun g0 => go 200 ?_, fun g0 => go 200 ?_⟩
  · have g0 : 4096 < l.length := by have := lt_of g0; simp at this; omega
    exact ⟨trivial, rfl, rfl, rfl, leaf_ff (by unfold rightP; rw [decide_eq_false (by omega)]; rfl)⟩
  have g0 : l.length ≤ 4096 := by have := not_lt_of g0; simp at this; omega
  show Goes _ _ _ _
  refine goes_iter (ι := Nat × Nat) (fun i => i.1 ≤ l.length ∧ i.2 ≤ 1048576 ∧ rightP l = rightGo i.2 (l.drop i.1)) (fun i => l.length - i.1) (fun i => [(11, .int .i64 i.1), (10, .int .i64 (l.map pieceV).length), (9, piecesV l), (3, .int .i64 i.2)]) (fun _ => []) (0, 0) 200 (fun _ => rfl) (fun _ => rfl) ⟨⟨Nat.zero_le _, Nat.zero_le _, ?_⟩, ?_, ?_⟩ ?_
  · unfold rightP
    rw [decide_eq_true g0]
    rfl
  · exact ⟨⟨rfl, rfl⟩, ⟨rfl, rfl⟩, ⟨rfl, rfl⟩, ⟨rfl, rfl⟩, trivial⟩
  · trivial
  · rintro ⟨i, n⟩ ⟨h1, h3, h2⟩ next
    simp only at h1 h2 h3
    refine ⟨fun hlt => go 200 ?_, fun hge => go 200 ?_⟩
    · have hi : i < l.length := by simpa using hlt
      have hx : (l.map pieceV)[i]? = some (pieceV l[i]) := by simp [hi]
      have hput := hpl l[i] (List.getElem_mem hi)
      rw [drop_cons hi] at h2
      refine ⟨Int.natCast_nonneg i, _, hx, ?_⟩
      refine ⟨fun g1 => go 200 ?_, fun g1 => go 200 ?_⟩
      · have g1 := lt_of g1
        refine ⟨trivial, rfl, rfl, rfl, leaf_ff ?_⟩
        rw [h2]
        refine rightGo_bad ?_
        split at g1 <;> omega
      have g1 := not_lt_of g1
      have q1 : 0 ≤ (l[i]).keep ∧ 0 ≤ (l[i]).drop := by split at g1 <;> omega
      refine ⟨fun g2 => go 200 ?_, fun g2 => go 200 ?_⟩
      · have g2 := lt_of g2
        refine ⟨trivial, rfl, rfl, rfl, leaf_ff ?_⟩
        rw [h2]
        refine rightGo_bad ?_
        split at g2 <;> omega
      have g2 := not_lt_of g2
      have q2 : (l[i]).keep ≤ 1048576 ∧ (l[i]).drop ≤ 1048576 := by split at g2 <;> omega
      refine ⟨by constructor <;> omega, ?_⟩
      refine ⟨fun g3 => go 200 ?_, fun g3 => go 200 ?_⟩
      · have g3 := lt_of g3
        refine ⟨trivial, rfl, rfl, rfl, leaf_ff ?_⟩
        rw [h2]
        exact rightGo_bad (by omega)
      have g3 := not_lt_of g3
      refine ⟨by constructor <;> omega, ?_⟩
      refine ⟨by constructor <;> omega, ?_⟩
      show Goes _ _ _ _
      refine next (i + 1, n + (l[i]).put.length) _ _ ⟨⟨hi, by simp only; omega, ?_⟩, ?_, ⟨⟨rfl, rfl⟩, ⟨rfl, rfl⟩, ⟨rfl, rfl⟩, ⟨rfl, rfl⟩, trivial⟩, trivial⟩
      · rw [h2]
        exact rightGo_good q1.1 q2.1 q1.2 q2.2 (by omega)
      · simp only; omega
    · have hi : l.length ≤ i := by simpa using hge
      rw [List.drop_eq_nil_of_le hi] at h2
      exact ⟨trivial, rfl, rfl, rfl, leaf_tt h2⟩
theorem w_Right (l : List PieceT) (hl : l.length ≤ 1000000) (hpl : ∀ p ∈ l, p.put.length ≤ 1000000000) : Pure Tryz.prog 113 [piecesV l] (fun x => x = .bool (rightP l)) :=
  w_RightW l (by omega) fun p hp => by have := hpl p hp; omega

set_option maxRecDepth 100000 in
theorem w_refRight (l : List PieceT) (hl : l.length ≤ 1000000) (hpl : ∀ p ∈ l, p.put.length ≤ 1000000000) : Pure Tryz.prog 116 [piecesV l] (fun x => x = .bool (rightP l)) := by
  refine pure_wk (pure_fn 100 Tryz.func116 rfl rfl rfl fun B => ?_)
  refine ⟨fun g0 => go 200 ?_, fun g0 => go 200 ?_⟩
  · have g0 : 4096 < l.length := by have := lt_of g0; simp at this; omega
    exact ⟨trivial, rfl, rfl, rfl, leaf_ff (by unfold rightP; rw [decide_eq_false (by omega)]; rfl)⟩
  have g0 : l.length ≤ 4096 := by have := not_lt_of g0; simp at this; omega
  show Goes _ _ _ _
  refine goes_iter (ι := Nat × Nat) (fun i => i.1 ≤ l.length ∧ i.2 ≤ 1048576 ∧ rightP l = rightGo i.2 (l.drop i.1)) (fun i => l.length - i.1) (fun i => [(4, .int .i64 i.1), (0, piecesV l), (3, .int .i64 i.2)]) (fun _ => []) (0, 0) 200 (fun _ => rfl) (fun _ => rfl) ⟨⟨Nat.zero_le _, Nat.zero_le _, ?_⟩, ?_, ?_⟩ ?_
  · unfold rightP
    rw [decide_eq_true g0]
    rfl
  · exact ⟨⟨rfl, rfl⟩, ⟨rfl, rfl⟩, ⟨rfl, rfl⟩, trivial⟩
  · trivial
  · rintro ⟨i, n⟩ ⟨h1, h3, h2⟩ next
    simp only at h1 h2 h3
    refine ⟨fun hlt => go 200 ?_, fun hge => go 200 ?_⟩
    · have hi : i < l.length := by simpa using hlt
      have hx : (l.map pieceV)[i]? = some (pieceV l[i]) := by simp [hi]
      have hput := hpl l[i] (List.getElem_mem hi)
      rw [drop_cons hi] at h2
      refine ⟨Int.natCast_nonneg i, _, hx, ?_⟩
      refine ⟨fun g1 => go 200 ?_, fun g1 => go 200 ?_⟩
      · have g1 := lt_of g1
        exact ⟨trivial, rfl, rfl, rfl, leaf_ff (by rw [h2]; exact rightGo_bad (by omega))⟩
      have g1 := not_lt_of g1
      refine ⟨Int.natCast_nonneg i, _, hx, ?_⟩
      refine ⟨fun g2 => go 200 ?_, fun g2 => go 200 ?_⟩
      · have g2 := lt_of g2
        exact ⟨trivial, rfl, rfl, rfl, leaf_ff (by rw [h2]; exact rightGo_bad (by omega))⟩
      have g2 := not_lt_of g2
      refine ⟨Int.natCast_nonneg i, _, hx, ?_⟩
      refine ⟨fun g3 => go 200 ?_, fun g3 => go 200 ?_⟩
      · have g3 := lt_of g3
        exact ⟨trivial, rfl, rfl, rfl, leaf_ff (by rw [h2]; exact rightGo_bad (by omega))⟩
      have g3 := not_lt_of g3
      refine ⟨Int.natCast_nonneg i, _, hx, ?_⟩
      refine ⟨fun g4 => go 200 ?_, fun g4 => go 200 ?_⟩
      · have g4 := lt_of g4
        exact ⟨trivial, rfl, rfl, rfl, leaf_ff (by rw [h2]; exact rightGo_bad (by omega))⟩
      have g4 := not_lt_of g4
      refine ⟨Int.natCast_nonneg i, _, hx, ?_⟩
      refine ⟨by constructor <;> omega, ?_⟩
      refine ⟨fun g5 => go 200 ?_, fun g5 => go 200 ?_⟩
      · have g5 := lt_of g5
        exact ⟨trivial, rfl, rfl, rfl, leaf_ff (by rw [h2]; exact rightGo_bad (by omega))⟩
      have g5 := not_lt_of g5
      refine ⟨Int.natCast_nonneg i, _, hx, ?_⟩
      refine ⟨by constructor <;> omega, ?_⟩
      refine ⟨by constructor <;> omega, ?_⟩
      show Goes _ _ _ _
      refine next (i + 1, n + (l[i]).put.length) _ _ ⟨⟨hi, by simp only; omega, ?_⟩, ?_, ⟨⟨rfl, rfl⟩, ⟨rfl, rfl⟩, ⟨rfl, rfl⟩, trivial⟩, trivial⟩
      · rw [h2]
        exact rightGo_good (by omega) (by omega) (by omega) (by omega) (by omega)
      · simp only; omega
    · have hi : l.length ≤ i := by simpa using hge
      rw [List.drop_eq_nil_of_le hi] at h2
      exact ⟨trivial, rfl, rfl, rfl, leaf_tt h2⟩
end Bow
/- W8: Formed. -/
namespace Bow
open Go Go.Proofs

set_option maxRecDepth 100000 in
theorem w_Formed (o : OpT) (ho : o.Lt 1000000) (hpl : ∀ p ∈ o.pieces, p.put.length ≤ 1000000000) : Pure Tryz.prog 59 [opV o] (fun x => x = .bool (formedB o)) := by
  have hm := w_May o.path
  have hm2 := w_May o.to
  have hk := w_Key o.key
  have hr := w_Right o.pieces ho.pieces hpl
  refine pure_wk (pure_fn 300 Tryz.func59 rfl rfl rfl fun B => ?_)
  clear ho hpl
  repeat' first
    | (refine ⟨fun _ => go 300 ?_, fun _ => go 300 ?_⟩)
    | (show CallThen _ _ _ _ _ _; refine call_pure hm rfl ?_; rintro x rfl)
    | (show CallThen _ _ _ _ _ _; refine call_pure hm2 rfl ?_; rintro x rfl)
    | (show CallThen _ _ _ _ _ _; refine call_pure hk rfl ?_; rintro x rfl)
    | (show CallThen _ _ _ _ _ _; refine call_pure hr rfl ?_; rintro x rfl)
    | (refine ⟨trivial, rfl, rfl, rfl, leaf_tt ?_⟩)
    | (refine ⟨trivial, rfl, rfl, rfl, leaf_ff ?_⟩)
    | (refine ⟨trivial, rfl, rfl, rfl, leaf_b ?_⟩)
    | fail
  all_goals (first | (simp_all [formedB, gapOk]; done) | (simp_all [formedB, gapOk]; intros; omega))

set_option maxRecDepth 100000 in
theorem w_refFormed (o : OpT) (ho : o.Lt 1000000) (hpl : ∀ p ∈ o.pieces, p.put.length ≤ 1000000000) : Pure Tryz.prog 60 [opV o] (fun x => x = .bool (formedB o)) := by
  have hm := w_refMay o.path ho.path
  have hm2 := w_refMay o.to ho.to
  have hk := w_refKey o.key
  have hr := w_refRight o.pieces ho.pieces hpl
  refine pure_wk (pure_fn 300 Tryz.func60 rfl rfl rfl fun B => ?_)
  clear ho hpl
  repeat' first
    | (refine ⟨fun _ => go 300 ?_, fun _ => go 300 ?_⟩)
    | (show CallThen _ _ _ _ _ _; refine call_pure hm rfl ?_; rintro x rfl)
    | (show CallThen _ _ _ _ _ _; refine call_pure hm2 rfl ?_; rintro x rfl)
    | (show CallThen _ _ _ _ _ _; refine call_pure hk rfl ?_; rintro x rfl)
    | (show CallThen _ _ _ _ _ _; refine call_pure hr rfl ?_; rintro x rfl)
    | (refine ⟨trivial, rfl, rfl, rfl, leaf_tt ?_⟩)
    | (refine ⟨trivial, rfl, rfl, rfl, leaf_ff ?_⟩)
    | (refine ⟨trivial, rfl, rfl, rfl, leaf_b ?_⟩)
    | fail
  all_goals (first | (simp_all [formedB, gapOk]; done) | (simp_all [formedB, gapOk]; intros; omega))

set_option maxRecDepth 100000 in
/-- Light: within the bound, the lengths and what is put. -/
theorem w_Light (o : OpT) (top : Nat) (ht : top ≤ 1000000) : Pure Tryz.prog 48 [opV o, .int .i64 top] (fun x => ∃ b : Bool, x = .bool b ∧ (b = true → o.Lt top ∧ putsLen o.pieces ≤ top)) := by
  have bad : ∃ y, Wk .ff y ∧ y.pureB = true ∧ ∃ b : Bool, y = .bool b ∧ (b = true → o.Lt top ∧ putsLen o.pieces ≤ top) := ⟨_, Wk.ff, rfl, false, rfl, fun h => by cases h⟩
  refine pure_wk (pure_fn 300 Tryz.func48 rfl rfl rfl fun B => ?_)
  refine ⟨fun g1 => go 300 ?_, fun g1 => go 300 ?_⟩
  · exact ⟨trivial, rfl, rfl, rfl, bad⟩
  refine ⟨fun g2 => go 300 ?_, fun g2 => go 300 ?_⟩
  · exact ⟨trivial, rfl, rfl, rfl, bad⟩
  refine ⟨fun g3 => go 300 ?_, fun g3 => go 300 ?_⟩
  · exact ⟨trivial, rfl, rfl, rfl, bad⟩
  refine ⟨fun g4 => go 300 ?_, fun g4 => go 300 ?_⟩
  · exact ⟨trivial, rfl, rfl, rfl, bad⟩
  refine ⟨fun g5 => go 300 ?_, fun g5 => go 300 ?_⟩
  · exact ⟨trivial, rfl, rfl, rfl, bad⟩
  refine ⟨fun g6 => go 300 ?_, fun g6 => go 300 ?_⟩
  · exact ⟨trivial, rfl, rfl, rfl, bad⟩
  have g1 := not_lt_of g1
  have g2 := not_lt_of g2
  have g3 := not_lt_of g3
  have g4 := not_lt_of g4
  have g5 := not_lt_of g5
  have g6 := not_lt_of g6
  simp only [List.length_map] at g1 g2 g6
  have hlt : o.Lt top := ⟨by omega, by omega, by omega, by omega, by omega, by omega⟩
  show Goes _ _ _ _
  refine goes_iter (ι := Nat × Nat) (fun i => i.1 ≤ o.pieces.length ∧ i.2 ≤ top ∧ putsLen o.pieces = i.2 + putsLen (o.pieces.drop i.1)) (fun i => o.pieces.length - i.1) (fun i => [(6, .int .i64 i.1), (5, .int .i64 i.2), (1, .int .i64 top), (2, .ptr (.loc 0) 0)]) (fun _ => [some (.box (opV o).cells)]) (0, 0) 200 (fun _ => rfl) (fun _ => rfl) ⟨⟨Nat.zero_le _, Nat.zero_le _, by simp⟩, ?_, ?_⟩ ?_
  · exact ⟨⟨rfl, rfl⟩, ⟨rfl, rfl⟩, ⟨rfl, rfl⟩, ⟨rfl, rfl⟩, trivial⟩
  · exact ⟨⟨rfl, rfl⟩, trivial⟩
  · rintro ⟨i, n⟩ ⟨h1, h3, h2⟩ next
    simp only at h1 h2 h3
    refine ⟨fun hlt => go 200 ?_, fun hge => go 200 ?_⟩
    · have hi : i < o.pieces.length := by simpa using hlt
      have hx : (o.pieces.map pieceV)[i]? = some (pieceV o.pieces[i]) := by simp [hi]
      rw [drop_cons hi] at h2
      have h2 : putsLen o.pieces = n + ((o.pieces[i]).put.length + putsLen (o.pieces.drop (i + 1))) := h2
      refine ⟨Int.natCast_nonneg i, _, hx, ?_⟩
      refine ⟨by constructor <;> omega, ?_⟩
      refine ⟨fun g7 => go 200 ?_, fun g7 => go 200 ?_⟩
      · exact ⟨trivial, rfl, rfl, rfl, bad⟩
      have g7 := not_lt_of g7
      refine ⟨Int.natCast_nonneg i, _, hx, ?_⟩
      refine ⟨by constructor <;> omega, ?_⟩
      refine ⟨by constructor <;> omega, ?_⟩
      show Goes _ _ _ _
      refine next (i + 1, n + (o.pieces[i]).put.length) _ _ ⟨⟨hi, by simp only; omega, by simp only; omega⟩, ?_, ⟨⟨rfl, rfl⟩, ⟨rfl, rfl⟩, ⟨rfl, rfl⟩, ⟨rfl, rfl⟩, trivial⟩, ⟨⟨rfl, rfl⟩, trivial⟩⟩
      simp only; omega
    · have hi : o.pieces.length ≤ i := by simpa using hge
      rw [List.drop_eq_nil_of_le hi] at h2
      have h2 : putsLen o.pieces = n + 0 := h2
      exact ⟨trivial, rfl, rfl, rfl, _, Wk.tt, rfl, true, rfl, fun _ => ⟨hlt, by omega⟩⟩

/-- A list, light. -/
structure LightL (l : List OpT) (count top : Nat) : Prop where
  len : l.length ≤ count
  ops : ∀ o ∈ l, o.Lt top ∧ putsLen o.pieces ≤ top
def opsV (l : List OpT) : V := .sl 11 (l.map opV)
set_option maxRecDepth 100000 in
theorem w_LightList (l : List OpT) (count top : Nat) (hc : count ≤ 1000000) (ht : top ≤ 1000000) : Pure Tryz.prog 64 [opsV l, .int .i64 count, .int .i64 top] (fun x => ∃ b : Bool, x = .bool b ∧ (b = true → LightL l count top)) := by
  have bad : ∃ y, Wk .ff y ∧ y.pureB = true ∧ ∃ b : Bool, y = .bool b ∧ (b = true → LightL l count top) := ⟨_, Wk.ff, rfl, false, rfl, fun h => by cases h⟩
  refine pure_wk (pure_fn 300 Tryz.func64 rfl rfl rfl fun B => ?_)
  refine ⟨fun g1 => go 300 ?_, fun g1 => go 300 ?_⟩
  · exact ⟨trivial, rfl, rfl, rfl, bad⟩
  have g1 := not_lt_of g1
  simp only [List.length_map] at g1
  show Goes _ _ _ _
  refine goes_iter (ι := Nat) (fun i => i ≤ l.length ∧ ∀ o ∈ l.take i, o.Lt top ∧ putsLen o.pieces ≤ top) (fun i => l.length - i) (fun i => [(7, .int .i64 i), (2, .int .i64 top), (0, opsV l)]) (fun _ => []) 0 200 (fun _ => rfl) (fun _ => rfl) ⟨⟨Nat.zero_le _, by simp⟩, ?_, ?_⟩ ?_
  · exact ⟨⟨rfl, rfl⟩, ⟨rfl, rfl⟩, ⟨rfl, rfl⟩, trivial⟩
  · trivial
  · rintro i ⟨h1, h2⟩ next
    refine ⟨fun hlt => go 200 ?_, fun hge => go 200 ?_⟩
    · have hi : i < l.length := by simpa using hlt
      have hx : (l.map opV)[i]? = some (opV l[i]) := by simp [hi]
      refine ⟨Int.natCast_nonneg i, _, hx, ?_⟩
      show CallThen _ _ _ _ _ _
      refine call_pure (w_Light l[i] top ht) rfl ?_
      rintro x ⟨b, rfl, hb⟩
      refine ⟨fun g => go 200 ?_, fun g => go 200 ?_⟩
      · exact ⟨trivial, rfl, rfl, rfl, bad⟩
      have g : b = true := by simpa using g
      refine ⟨by constructor <;> omega, ?_⟩
      show Goes _ _ _ _
      refine next (i + 1) _ _ ⟨⟨hi, fun o ho => ?_⟩, by omega, ⟨⟨rfl, rfl⟩, ⟨rfl, rfl⟩, ⟨rfl, rfl⟩, trivial⟩, trivial⟩
      rw [List.take_add_one, List.getElem?_eq_getElem hi] at ho
      rcases List.mem_append.1 ho with ho | ho
      · exact h2 o ho
      · simp at ho
        subst ho
        exact hb g
    · have hi : l.length ≤ i := by simpa using hge
      rw [List.take_of_length_le hi] at h2
      exact ⟨trivial, rfl, rfl, rfl, _, Wk.tt, rfl, true, rfl, fun _ => ⟨by omega, h2⟩⟩
end Bow
/- W9: Bare; puts; Fits. -/
namespace Bow
open Go Go.Proofs

theorem w_someInt (p : List Int) (h : p.length ≤ 1000000) : Pure Tryz.prog 117 [pathV p] (fun x => x = pathV p) := by
  refine pure_fn 100 Tryz.func117 rfl rfl rfl fun B => ?_
  refine ⟨Nat.le_trans (Nat.mul_le_mul_right _ (show (p.map intV).length ≤ 1000000 by simpa using h)) (by decide), ?_⟩
  exact ⟨trivial, rfl, rfl, rfl, rfl, rfl, rfl⟩
theorem w_somePiece (p : List PieceT) (h : p.length ≤ 1000000) : Pure Tryz.prog 118 [piecesV p] (fun x => x = piecesV p) := by
  refine pure_fn 100 Tryz.func118 rfl rfl rfl fun B => ?_
  refine ⟨Nat.le_trans (Nat.mul_le_mul_right _ (show (p.map pieceV).length ≤ 1000000 by simpa using h)) (by decide), ?_⟩
  exact ⟨trivial, rfl, rfl, rfl, rfl, rfl, rfl⟩

/-- An operation as a literal lays it. -/
theorem wk_op {o : OpT} {cs : List V} (h : WkL cs (opV o).cells) : Wk (.agg cs) (opV o) := Wk.agg h

set_option maxRecDepth 100000 in
theorem w_Bare (o : OpT) (ho : o.Lt 1000000) : Pure Tryz.prog 61 [opV o] (fun x => x = opV (bareO o)) := by
  refine pure_wk (pure_fn 300 Tryz.func61 rfl rfl rfl fun B => ?_)
  show Goes _ _ _ _
  refine goes_draw 300 ?_
  refine ⟨_, w_someInt o.path ho.path, rfl, ?_⟩
  refine ⟨by kernel_rfl, ?_⟩
  refine ⟨by kernel_rfl, ?_⟩
  have hp := ho.path
  have ht := ho.to
  have hpc := ho.pieces
  refine ⟨fun g1 => go 300 ?_, fun g1 => go 300 ?_⟩
  · have g1 := eq_of g1
    show Goes _ _ _ _
    refine goes_draw 300 ?_
    refine ⟨by kernel_rfl, ?_⟩
    refine ⟨trivial, rfl, rfl, rfl, _, ?_, ?_, rfl⟩
    · simp only [bareO, g1]
      refine wk_op ⟨.refl _, .refl _, .refl _, Wk.nil 1, .refl _, .refl _, .refl _, .refl _, .refl _, Wk.ff, Wk.nil 3, trivial⟩
    · rfl
  refine ⟨fun g2 => go 300 ?_, fun g2 => go 300 ?_⟩
  · have g2 := eq_of g2
    refine ⟨trivial, rfl, rfl, rfl, _, ?_, ?_, rfl⟩
    · simp only [bareO, g2]
      refine wk_op ⟨.refl _, .refl _, .refl _, Wk.nil 1, .refl _, Wk.ff, .refl _, .refl _, .refl _, Wk.ff, Wk.nil 3, trivial⟩
    · rfl
  refine ⟨fun g3 => go 300 ?_, fun g3 => go 300 ?_⟩
  · have g3 := eq_of g3
    show Goes _ _ _ _
    refine goes_draw 300 ?_
    refine ⟨_, w_someInt o.to ho.to, rfl, ?_⟩
    refine ⟨by kernel_rfl, ?_⟩
    refine ⟨trivial, rfl, rfl, rfl, _, ?_, ?_, rfl⟩
    · simp only [bareO, g3]
      refine wk_op ⟨.refl _, .refl _, .refl _, .refl _, .refl _, Wk.ff, .refl _, .refl _, .refl _, Wk.ff, Wk.nil 3, trivial⟩
    · rfl
  refine ⟨fun g4 => go 300 ?_, fun g4 => go 300 ?_⟩
  · have g4 := eq_of g4
    show Goes _ _ _ _
    refine goes_draw 300 ?_
    refine ⟨by kernel_rfl, ?_⟩
    refine ⟨fun h => go 300 ?_, fun h => go 300 ?_⟩
    · have h : o.gone = false := by simpa using h
      refine ⟨trivial, rfl, rfl, rfl, _, ?_, ?_, rfl⟩
      · simp only [bareO, g4, h]
        refine wk_op ⟨.refl _, .refl _, .refl _, Wk.nil 1, .refl _, Wk.ff, .refl _, .refl _, .refl _, .refl _, Wk.nil 3, trivial⟩
      · rfl
    · have h : o.gone = true := by simpa using h
      refine ⟨trivial, rfl, rfl, rfl, _, ?_, ?_, rfl⟩
      · simp only [bareO, g4, h]
        refine wk_op ⟨.refl _, .refl _, .refl _, Wk.nil 1, .refl _, Wk.ff, .refl _, .refl _, .refl _, .refl _, Wk.nil 3, trivial⟩
      · rfl
  refine ⟨fun g5 => go 300 ?_, fun g5 => go 300 ?_⟩
  · have g5 := eq_of g5
    refine ⟨trivial, rfl, rfl, rfl, _, ?_, ?_, rfl⟩
    · simp only [bareO, g5]
      refine wk_op ⟨.refl _, .refl _, .refl _, Wk.nil 1, .refl _, Wk.ff, .refl _, .refl _, .refl _, Wk.ff, Wk.nil 3, trivial⟩
    · rfl
  refine ⟨fun g6 => go 300 ?_, fun g6 => go 300 ?_⟩
  · have g6 := eq_of g6
    show CallThen _ _ _ _ _ _
    refine call_pure (w_somePiece o.pieces ho.pieces) rfl ?_
    rintro x rfl
    refine ⟨trivial, rfl, rfl, rfl, _, ?_, ?_, rfl⟩
    · simp only [bareO, g6]
      refine wk_op ⟨.refl _, .refl _, .refl _, Wk.nil 1, .refl _, Wk.ff, .refl _, .refl _, .refl _, Wk.ff, .refl _, trivial⟩
    · rfl
  · have g1 := ne_of g1
    have g2 := ne_of g2
    have g3 := ne_of g3
    have g4 := ne_of g4
    have g5 := ne_of g5
    have g6 := ne_of g6
    refine ⟨trivial, rfl, rfl, rfl, _, ?_, ?_, rfl⟩
    · have e : bareO o = noOp o.kind := by
        unfold bareO
        rw [show (o.kind == 1) = false by simpa using g1, show (o.kind == 2) = false by simpa using g2, show (o.kind == 3) = false by simpa using g3, show (o.kind == 4) = false by simpa using g4, show (o.kind == 5) = false by simpa using g5, show (o.kind == 6) = false by simpa using g6]
        rfl
      rw [e]
      refine wk_op ⟨.refl _, Wk.nil 1, .refl _, Wk.nil 1, .refl _, Wk.ff, .refl _, .refl _, .refl _, Wk.ff, Wk.nil 3, trivial⟩
    · rfl
end Bow
/- W10: the reference's Bare; puts; Fits. -/
namespace Bow
open Go Go.Proofs

theorem room_of {n b : Nat} (h : n ≤ 1000000) (hb : b ≤ 70368744) : room n b := Nat.le_trans (Nat.mul_le_mul h hb) (by decide)

set_option maxRecDepth 100000 in
theorem w_refBare (o : OpT) (ho : o.Lt 1000000) : Pure Tryz.prog 37 [opV o] (fun x => x = opV (bareO o)) := by
  refine pure_wk (pure_fn 300 Tryz.func37 rfl rfl rfl fun B => ?_)
  have hp := ho.path
  have ht := ho.to
  have hpc := ho.pieces
  refine ⟨room_of (by simpa using ho.path) (by decide), ?_⟩
  refine ⟨room_of (by simpa using ho.to) (by decide), ?_⟩
  refine ⟨fun g1 => go 300 ?_, fun g1 => go 300 ?_⟩
  · have g1 := eq_of g1
    refine ⟨trivial, rfl, rfl, rfl, rfl, rfl, _, ?_, ?_, rfl⟩
    · simp only [bareO, g1]
      refine wk_op ⟨.refl _, .refl _, .refl _, Wk.nil 1, .refl _, .refl _, .refl _, .refl _, .refl _, Wk.ff, Wk.nil 3, trivial⟩
    · rfl
  refine ⟨fun g2 => go 300 ?_, fun g2 => go 300 ?_⟩
  · have g2 := eq_of g2
    refine ⟨trivial, rfl, rfl, rfl, rfl, rfl, _, ?_, ?_, rfl⟩
    · simp only [bareO, g2]
      refine wk_op ⟨.refl _, .refl _, .refl _, Wk.nil 1, .refl _, Wk.ff, .refl _, .refl _, .refl _, Wk.ff, Wk.nil 3, trivial⟩
    · rfl
  refine ⟨fun g3 => go 300 ?_, fun g3 => go 300 ?_⟩
  · have g3 := eq_of g3
    refine ⟨trivial, rfl, rfl, rfl, rfl, rfl, rfl, rfl, _, ?_, ?_, rfl⟩
    · simp only [bareO, g3]
      refine wk_op ⟨.refl _, .refl _, .refl _, .refl _, .refl _, Wk.ff, .refl _, .refl _, .refl _, Wk.ff, Wk.nil 3, trivial⟩
    · rfl
  refine ⟨fun g4 => go 300 ?_, fun g4 => go 300 ?_⟩
  · have g4 := eq_of g4
    refine ⟨fun h => go 300 ?_, fun h => go 300 ?_⟩
    · have h : o.gone = false := by simpa using h
      refine ⟨trivial, rfl, rfl, rfl, rfl, rfl, _, ?_, ?_, rfl⟩
      · simp only [bareO, g4, h]
        refine wk_op ⟨.refl _, .refl _, .refl _, Wk.nil 1, .refl _, Wk.ff, .refl _, .refl _, .refl _, .refl _, Wk.nil 3, trivial⟩
      · rfl
    · have h : o.gone = true := by simpa using h
      refine ⟨trivial, rfl, rfl, rfl, rfl, rfl, _, ?_, ?_, rfl⟩
      · simp only [bareO, g4, h]
        refine wk_op ⟨.refl _, .refl _, .refl _, Wk.nil 1, .refl _, Wk.ff, .refl _, .refl _, .refl _, .refl _, Wk.nil 3, trivial⟩
      · rfl
  refine ⟨fun g5 => go 300 ?_, fun g5 => go 300 ?_⟩
  · have g5 := eq_of g5
    refine ⟨trivial, rfl, rfl, rfl, rfl, rfl, _, ?_, ?_, rfl⟩
    · simp only [bareO, g5]
      refine wk_op ⟨.refl _, .refl _, .refl _, Wk.nil 1, .refl _, Wk.ff, .refl _, .refl _, .refl _, Wk.ff, Wk.nil 3, trivial⟩
    · rfl
  refine ⟨fun g6 => go 300 ?_, fun g6 => go 300 ?_⟩
  · have g6 := eq_of g6
    refine ⟨room_of (by simpa using ho.pieces) (by decide), ?_⟩
    refine ⟨trivial, rfl, rfl, rfl, rfl, rfl, rfl, rfl, _, ?_, ?_, rfl⟩
    · simp only [bareO, g6]
      refine wk_op ⟨.refl _, .refl _, .refl _, Wk.nil 1, .refl _, Wk.ff, .refl _, .refl _, .refl _, Wk.ff, .refl _, trivial⟩
    · rfl
  · have g1 := ne_of g1
    have g2 := ne_of g2
    have g3 := ne_of g3
    have g4 := ne_of g4
    have g5 := ne_of g5
    have g6 := ne_of g6
    refine ⟨trivial, rfl, rfl, rfl, _, ?_, ?_, rfl⟩
    · have e : bareO o = noOp o.kind := by
        unfold bareO
        rw [show (o.kind == 1) = false by simpa using g1, show (o.kind == 2) = false by simpa using g2, show (o.kind == 3) = false by simpa using g3, show (o.kind == 4) = false by simpa using g4, show (o.kind == 5) = false by simpa using g5, show (o.kind == 6) = false by simpa using g6]
        rfl
      rw [e]
      refine wk_op ⟨.refl _, Wk.nil 1, .refl _, Wk.nil 1, .refl _, Wk.ff, .refl _, .refl _, .refl _, Wk.ff, Wk.nil 3, trivial⟩
    · rfl

/-! ### What is put -/
theorem putsLen_cons (p : PieceT) (l : List PieceT) : putsLen (p :: l) = p.put.length + putsLen l := rfl
theorem bare_lt {o : OpT} {n : Nat} (h : o.Lt n) : (bareO o).Lt n := by
  unfold bareO noOp
  rcases Bool.eq_false_or_eq_true (o.kind == 1) with e | e <;> rw [e] <;> simp only [cond_true, cond_false]
  · exact ⟨h.path, Nat.zero_le _, h.label, Nat.zero_le _, Nat.zero_le _, Nat.zero_le _⟩
  rcases Bool.eq_false_or_eq_true (o.kind == 2) with e | e <;> rw [e] <;> simp only [cond_true, cond_false]
  · exact ⟨h.path, Nat.zero_le _, Nat.zero_le _, Nat.zero_le _, Nat.zero_le _, Nat.zero_le _⟩
  rcases Bool.eq_false_or_eq_true (o.kind == 3) with e | e <;> rw [e] <;> simp only [cond_true, cond_false]
  · exact ⟨h.path, h.to, Nat.zero_le _, Nat.zero_le _, Nat.zero_le _, Nat.zero_le _⟩
  rcases Bool.eq_false_or_eq_true (o.kind == 4) with e | e <;> rw [e] <;> simp only [cond_true, cond_false]
  · refine ⟨h.path, Nat.zero_le _, Nat.zero_le _, h.key, ?_, Nat.zero_le _⟩
    cases o.gone <;> simp [h.value]
  rcases Bool.eq_false_or_eq_true (o.kind == 5) with e | e <;> rw [e] <;> simp only [cond_true, cond_false]
  · exact ⟨h.path, Nat.zero_le _, h.label, Nat.zero_le _, Nat.zero_le _, Nat.zero_le _⟩
  rcases Bool.eq_false_or_eq_true (o.kind == 6) with e | e <;> rw [e] <;> simp only [cond_true, cond_false]
  · exact ⟨h.path, Nat.zero_le _, Nat.zero_le _, Nat.zero_le _, Nat.zero_le _, h.pieces⟩
  · exact ⟨Nat.zero_le _, Nat.zero_le _, Nat.zero_le _, Nat.zero_le _, Nat.zero_le _, Nat.zero_le _⟩
theorem bare_puts {o : OpT} : putsLen (bareO o).pieces ≤ putsLen o.pieces := by
  unfold bareO noOp
  rcases Bool.eq_false_or_eq_true (o.kind == 1) with e | e <;> rw [e] <;> simp only [cond_true, cond_false]
  · exact Nat.zero_le _
  rcases Bool.eq_false_or_eq_true (o.kind == 2) with e | e <;> rw [e] <;> simp only [cond_true, cond_false]
  · exact Nat.zero_le _
  rcases Bool.eq_false_or_eq_true (o.kind == 3) with e | e <;> rw [e] <;> simp only [cond_true, cond_false]
  · exact Nat.zero_le _
  rcases Bool.eq_false_or_eq_true (o.kind == 4) with e | e <;> rw [e] <;> simp only [cond_true, cond_false]
  · exact Nat.zero_le _
  rcases Bool.eq_false_or_eq_true (o.kind == 5) with e | e <;> rw [e] <;> simp only [cond_true, cond_false]
  · exact Nat.zero_le _
  rcases Bool.eq_false_or_eq_true (o.kind == 6) with e | e <;> rw [e] <;> simp only [cond_true, cond_false]
  · exact Nat.le_refl _
  · exact Nat.zero_le _

end Bow
/- W11: Fits; the chapter's examples; the laws' functions. -/
namespace Bow
open Go Go.Proofs

structure OpT.Ok (o : OpT) : Prop where
  lt : o.Lt 1000000
  puts : putsLen o.pieces ≤ 1048576
theorem put_le {l : List PieceT} : ∀ p ∈ l, p.put.length ≤ putsLen l := by
  induction l with
  | nil => intro p h; cases h
  | cons q l ih =>
    intro p h
    rw [putsLen_cons]
    rcases List.mem_cons.1 h with rfl | h
    · omega
    · have := ih p h; omega
theorem OpT.Ok.each {o : OpT} (h : o.Ok) : ∀ p ∈ o.pieces, p.put.length ≤ 1000000000 := fun p hp => by have := put_le p hp; have := h.puts; omega
theorem bare_ok {o : OpT} (h : o.Ok) : (bareO o).Ok := ⟨bare_lt h.lt, Nat.le_trans bare_puts h.puts⟩
end Bow
/- W12: the chapter's examples; the laws' functions. -/
namespace Bow
open Go Go.Proofs

end Bow
/- W13: the laws' functions: LimitsCheck, LimitsFits. -/
namespace Bow
open Go Go.Proofs

end Bow
/- W14: slices.Grow of nil, slices.Concat: printed by gen_w14.py. -/
namespace Bow
open Go Go.Proofs

theorem flatten_take_succ {α : Type} {l : List (List α)} {i : Nat} (hi : i < l.length) : (l.take (i + 1)).flatten = (l.take i).flatten ++ l[i] := by
  rw [List.take_succ_eq_append_getElem hi, List.flatten_append]
  simp
theorem flatten_take_le {α : Type} (l : List (List α)) (i : Nat) : (l.take i).flatten.length ≤ l.flatten.length := by
  conv => rhs; rw [← List.take_append_drop i l]
  rw [List.flatten_append, List.length_append]
  omega

theorem w_GrowNode (n : Nat) (h : n ≤ 10000000) : Fun Tryz.prog 225 [] [.nilsl, .int .i64 n] (fun x T => ∃ g, x = .osl (.loc 0) g 0 0 ∧ T = [some (.vec g 6 [])]) := by
  refine fun_fn 100 Tryz.func225 rfl rfl rfl fun imps B hi => ?_
  have : imps = [] := List.length_eq_zero_iff.1 hi
  subst this
  refine ⟨fun g1 => go 100 ?_, fun g1 => go 100 ?_⟩
  · have := lt_of g1; omega
  show Goes _ _ _ _
  refine goes_cap0 100 rfl rfl rfl rfl rfl ?_
  refine ⟨by constructor <;> omega, by constructor <;> omega, ?_⟩
  refine ⟨fun g2 => go 100 ?_, fun g2 => ?_⟩
  · have g2 := lt_of g2
    show Goes _ _ _ _
    refine goes_cap0 100 rfl rfl rfl rfl rfl ?_
    show Goes _ _ _ _
    refine goes_nilcut 100 rfl rfl rfl rfl rfl rfl rfl ?_
    show Goes _ _ _ _
    refine goes_growTo 100 n rfl rfl rfl rfl (congrArg (V.int .i64) (by omega)) (by omega) rfl rfl rfl rfl rfl (Nat.le_trans (Nat.mul_le_mul_right _ h) (by decide)) ?_
    show Goes _ _ _ _
    refine goes_cut (h := 0) 100 rfl rfl rfl rfl rfl rfl rfl rfl (Nat.zero_le _) ?_
    exact ⟨trivial, rfl, rfl, 2, rfl, rfl⟩
  · refine goes_own 0 6 rfl ?_
    refine go 100 ?_
    exact ⟨trivial, rfl, rfl, 0, rfl, rfl⟩
set_option maxRecDepth 100000 in
theorem w_ConcatNode (ls : List (List V)) (h : ls.flatten.length ≤ 1000000) (hl : ls.length ≤ 1000000) : Pure Tryz.prog 194 [.sl 1 (ls.map (V.sl 6))] (fun x => x = .sl 6 ls.flatten) := by
  refine pure_fn 100 Tryz.func194 rfl rfl rfl fun B => ?_
  show Goes _ _ _ _
  refine goes_iter (ι := Nat) (fun i => i ≤ ls.length) (fun i => ls.length - i) (fun i => [(3, .int .i64 (ls.take i).flatten.length), (11, .int .i64 i), (10, .int .i64 (ls.map (V.sl 6)).length), (9, .sl 1 (ls.map (V.sl 6))), (0, .sl 1 (ls.map (V.sl 6)))]) (fun _ => []) 0 100 (fun _ => rfl) (fun _ => rfl) ⟨Nat.zero_le _, ?_, trivial⟩ ?_
  · exact ⟨⟨rfl, rfl⟩, ⟨rfl, rfl⟩, ⟨rfl, rfl⟩, ⟨rfl, rfl⟩, ⟨rfl, rfl⟩, trivial⟩
  intro i k1 next
  have hb1 := flatten_take_le ls i
  refine ⟨fun hlt => go 100 ?_, fun hge => go 100 ?_⟩
  · have hi : i < ls.length := by simpa using hlt
    have hx : (ls.map (V.sl 6))[i]? = some (.sl 6 ls[i]) := by simp [hi]
    have hb2 := flatten_take_le ls (i + 1)
    have hs := flatten_take_succ hi
    have hsl : (ls.take (i + 1)).flatten.length = (ls.take i).flatten.length + ls[i].length := by rw [hs, List.length_append]
    refine ⟨Int.natCast_nonneg i, _, hx, ?_⟩
    refine ⟨by constructor <;> omega, ?_⟩
    refine ⟨fun g1 => go 100 ?_, fun g1 => go 100 ?_⟩
    · have := lt_of g1; omega
    refine ⟨by constructor <;> omega, ?_⟩
    refine next (i + 1) _ _ ⟨by omega, by omega, ?_, trivial⟩
    exact ⟨⟨by simp only [lk]; exact congrArg (V.int .i64) (by omega), rfl⟩, ⟨rfl, rfl⟩, ⟨rfl, rfl⟩, ⟨rfl, rfl⟩, ⟨rfl, rfl⟩, trivial⟩
  · have hi : i = ls.length := by have : ls.length ≤ i := by simpa using hge
                                  omega
    subst hi
    rw [List.take_length]
    show CallThen _ _ _ _ _ _
    refine call_sub [] (w_GrowNode ls.flatten.length (by omega)) rfl rfl trivial rfl rfl rfl ?_
    rintro x T1 ⟨g, rfl, rfl⟩
    refine ⟨rfl, ?_⟩
    show Goes _ _ _ _
    refine goes_iter (ι := Nat × Nat) (fun i => i.1 ≤ ls.length) (fun i => ls.length - i.1) (fun i => [(6, .osl (.loc 0) i.2 0 (ls.take i.1).flatten.length), (27, .int .i64 i.1), (26, .int .i64 (ls.map (V.sl 6)).length), (25, .sl 1 (ls.map (V.sl 6)))]) (fun i => [some (.vec i.2 6 (ls.take i.1).flatten)]) (0, g) 100 (fun _ => rfl) (fun _ => rfl) ⟨Nat.zero_le _, ?_, ?_⟩ ?_
    · exact ⟨⟨rfl, rfl⟩, ⟨rfl, rfl⟩, ⟨rfl, rfl⟩, ⟨rfl, rfl⟩, trivial⟩
    · exact ⟨⟨rfl, rfl⟩, trivial⟩
    rintro ⟨i, g⟩ k1 next
    have hb1 := flatten_take_le ls i
    simp only at k1 hb1
    refine ⟨fun hlt => go 100 ?_, fun hge => go 100 ?_⟩
    · have hi : i < ls.length := by simpa using hlt
      have hx : (ls.map (V.sl 6))[i]? = some (.sl 6 ls[i]) := by simp [hi]
      have hb2 := flatten_take_le ls (i + 1)
      have hs := flatten_take_succ hi
      have hsl : (ls.take (i + 1)).flatten.length = (ls.take i).flatten.length + ls[i].length := by rw [hs, List.length_append]
      refine ⟨Int.natCast_nonneg i, _, hx, ?_⟩
      simp only
      refine ⟨rfl, rfl, Nat.le_trans (Nat.mul_le_mul_right _ (show _ ≤ 1000000 by omega)) (by decide), ?_⟩
      refine ⟨by constructor <;> omega, ?_⟩
      refine next (i + 1, bump g) _ _ ⟨by simp only; omega, by simp only; omega, ?_, ?_⟩
      · exact ⟨⟨by simp only [lk]; exact congrArg (V.osl _ _ _) hsl.symm, rfl⟩, ⟨rfl, rfl⟩, ⟨rfl, rfl⟩, ⟨rfl, rfl⟩, trivial⟩
      · exact ⟨⟨by rw [hs], rfl⟩, trivial⟩
    · have hi : i = ls.length := by have : ls.length ≤ i := by simpa using hge
                                    omega
      subst hi
      exact ⟨trivial, rfl, rfl, rfl, rfl, rfl, by simp only [List.take_length]⟩

theorem w_GrowAttr (n : Nat) (h : n ≤ 10000000) : Fun Tryz.prog 227 [] [.nilsl, .int .i64 n] (fun x T => ∃ g, x = .osl (.loc 0) g 0 0 ∧ T = [some (.vec g 2 [])]) := by
  refine fun_fn 100 Tryz.func227 rfl rfl rfl fun imps B hi => ?_
  have : imps = [] := List.length_eq_zero_iff.1 hi
  subst this
  refine ⟨fun g1 => go 100 ?_, fun g1 => go 100 ?_⟩
  · have := lt_of g1; omega
  show Goes _ _ _ _
  refine goes_cap0 100 rfl rfl rfl rfl rfl ?_
  refine ⟨by constructor <;> omega, by constructor <;> omega, ?_⟩
  refine ⟨fun g2 => go 100 ?_, fun g2 => ?_⟩
  · have g2 := lt_of g2
    show Goes _ _ _ _
    refine goes_cap0 100 rfl rfl rfl rfl rfl ?_
    show Goes _ _ _ _
    refine goes_nilcut 100 rfl rfl rfl rfl rfl rfl rfl ?_
    show Goes _ _ _ _
    refine goes_growTo 100 n rfl rfl rfl rfl (congrArg (V.int .i64) (by omega)) (by omega) rfl rfl rfl rfl rfl (Nat.le_trans (Nat.mul_le_mul_right _ h) (by decide)) ?_
    show Goes _ _ _ _
    refine goes_cut (h := 0) 100 rfl rfl rfl rfl rfl rfl rfl rfl (Nat.zero_le _) ?_
    exact ⟨trivial, rfl, rfl, 2, rfl, rfl⟩
  · refine goes_own 0 2 rfl ?_
    refine go 100 ?_
    exact ⟨trivial, rfl, rfl, 0, rfl, rfl⟩
set_option maxRecDepth 100000 in
theorem w_ConcatAttr (ls : List (List V)) (h : ls.flatten.length ≤ 1000000) (hl : ls.length ≤ 1000000) : Pure Tryz.prog 200 [.sl 1 (ls.map (V.sl 2))] (fun x => x = .sl 2 ls.flatten) := by
  refine pure_fn 100 Tryz.func200 rfl rfl rfl fun B => ?_
  show Goes _ _ _ _
  refine goes_iter (ι := Nat) (fun i => i ≤ ls.length) (fun i => ls.length - i) (fun i => [(3, .int .i64 (ls.take i).flatten.length), (11, .int .i64 i), (10, .int .i64 (ls.map (V.sl 2)).length), (9, .sl 1 (ls.map (V.sl 2))), (0, .sl 1 (ls.map (V.sl 2)))]) (fun _ => []) 0 100 (fun _ => rfl) (fun _ => rfl) ⟨Nat.zero_le _, ?_, trivial⟩ ?_
  · exact ⟨⟨rfl, rfl⟩, ⟨rfl, rfl⟩, ⟨rfl, rfl⟩, ⟨rfl, rfl⟩, ⟨rfl, rfl⟩, trivial⟩
  intro i k1 next
  have hb1 := flatten_take_le ls i
  refine ⟨fun hlt => go 100 ?_, fun hge => go 100 ?_⟩
  · have hi : i < ls.length := by simpa using hlt
    have hx : (ls.map (V.sl 2))[i]? = some (.sl 2 ls[i]) := by simp [hi]
    have hb2 := flatten_take_le ls (i + 1)
    have hs := flatten_take_succ hi
    have hsl : (ls.take (i + 1)).flatten.length = (ls.take i).flatten.length + ls[i].length := by rw [hs, List.length_append]
    refine ⟨Int.natCast_nonneg i, _, hx, ?_⟩
    refine ⟨by constructor <;> omega, ?_⟩
    refine ⟨fun g1 => go 100 ?_, fun g1 => go 100 ?_⟩
    · have := lt_of g1; omega
    refine ⟨by constructor <;> omega, ?_⟩
    refine next (i + 1) _ _ ⟨by omega, by omega, ?_, trivial⟩
    exact ⟨⟨by simp only [lk]; exact congrArg (V.int .i64) (by omega), rfl⟩, ⟨rfl, rfl⟩, ⟨rfl, rfl⟩, ⟨rfl, rfl⟩, ⟨rfl, rfl⟩, trivial⟩
  · have hi : i = ls.length := by have : ls.length ≤ i := by simpa using hge
                                  omega
    subst hi
    rw [List.take_length]
    show CallThen _ _ _ _ _ _
    refine call_sub [] (w_GrowAttr ls.flatten.length (by omega)) rfl rfl trivial rfl rfl rfl ?_
    rintro x T1 ⟨g, rfl, rfl⟩
    refine ⟨rfl, ?_⟩
    show Goes _ _ _ _
    refine goes_iter (ι := Nat × Nat) (fun i => i.1 ≤ ls.length) (fun i => ls.length - i.1) (fun i => [(6, .osl (.loc 0) i.2 0 (ls.take i.1).flatten.length), (27, .int .i64 i.1), (26, .int .i64 (ls.map (V.sl 2)).length), (25, .sl 1 (ls.map (V.sl 2)))]) (fun i => [some (.vec i.2 2 (ls.take i.1).flatten)]) (0, g) 100 (fun _ => rfl) (fun _ => rfl) ⟨Nat.zero_le _, ?_, ?_⟩ ?_
    · exact ⟨⟨rfl, rfl⟩, ⟨rfl, rfl⟩, ⟨rfl, rfl⟩, ⟨rfl, rfl⟩, trivial⟩
    · exact ⟨⟨rfl, rfl⟩, trivial⟩
    rintro ⟨i, g⟩ k1 next
    have hb1 := flatten_take_le ls i
    simp only at k1 hb1
    refine ⟨fun hlt => go 100 ?_, fun hge => go 100 ?_⟩
    · have hi : i < ls.length := by simpa using hlt
      have hx : (ls.map (V.sl 2))[i]? = some (.sl 2 ls[i]) := by simp [hi]
      have hb2 := flatten_take_le ls (i + 1)
      have hs := flatten_take_succ hi
      have hsl : (ls.take (i + 1)).flatten.length = (ls.take i).flatten.length + ls[i].length := by rw [hs, List.length_append]
      refine ⟨Int.natCast_nonneg i, _, hx, ?_⟩
      simp only
      refine ⟨rfl, rfl, Nat.le_trans (Nat.mul_le_mul_right _ (show _ ≤ 1000000 by omega)) (by decide), ?_⟩
      refine ⟨by constructor <;> omega, ?_⟩
      refine next (i + 1, bump g) _ _ ⟨by simp only; omega, by simp only; omega, ?_, ?_⟩
      · exact ⟨⟨by simp only [lk]; exact congrArg (V.osl _ _ _) hsl.symm, rfl⟩, ⟨rfl, rfl⟩, ⟨rfl, rfl⟩, ⟨rfl, rfl⟩, trivial⟩
      · exact ⟨⟨by rw [hs], rfl⟩, trivial⟩
    · have hi : i = ls.length := by have : ls.length ≤ i := by simpa using hge
                                    omega
      subst hi
      exact ⟨trivial, rfl, rfl, rfl, rfl, rfl, by simp only [List.take_length]⟩

end Bow
/- W15: slices.Equal, slices.Clone, paths: printed by gen_w15.py. -/
namespace Bow
open Go Go.Proofs

theorem take_succ_eq {α : Type} {xs ys : List α} {i : Nat} (hx : i < xs.length) (hy : i < ys.length) : xs.drop i = ys.drop i ↔ xs[i] = ys[i] ∧ xs.drop (i + 1) = ys.drop (i + 1) := by
  rw [List.drop_eq_getElem_cons hx, List.drop_eq_getElem_cons hy, List.cons.injEq]

theorem PieceT.ext {a b : PieceT} (h1 : a.keep = b.keep) (h2 : a.drop = b.drop) (h3 : a.put = b.put) : a = b := by cases a; cases b; simp_all
instance : DecidableEq PieceT := fun a b => decidable_of_iff (a.keep = b.keep ∧ a.drop = b.drop ∧ a.put = b.put) ⟨fun h => PieceT.ext h.1 h.2.1 h.2.2, fun h => by subst h; exact ⟨rfl, rfl, rfl⟩⟩

set_option maxRecDepth 100000 in
theorem w_EqualInt (xs ys : List Int) (hl : xs.length ≤ 1000000) : Pure Tryz.prog 164 [.sl 1 (xs.map intV), .sl 1 (ys.map intV)] (fun x => x = .bool (decide (xs = ys))) := by
  refine pure_wk (pure_fn 100 Tryz.func164 rfl rfl rfl fun B => ?_)
  refine ⟨fun g1 => go 100 ?_, fun g1 => go 100 ?_⟩
  · have g1 := ne_of' g1
    refine ⟨trivial, rfl, rfl, rfl, leaf_ff (decide_eq_false fun e => g1 ?_)⟩
    rw [e]
  have g1 : xs.length = ys.length := by have := eq_of' g1; simp at this; omega
  show Goes _ _ _ _
  refine goes_iter (ι := Nat) (fun i => i ≤ xs.length ∧ (xs.drop i = ys.drop i ↔ xs = ys)) (fun i => xs.length - i) (fun i => [(13, .int .i64 i), (12, .int .i64 (xs.map intV).length), (1, .sl 1 (ys.map intV)), (0, .sl 1 (xs.map intV))]) (fun _ => []) 0 100 (fun _ => rfl) (fun _ => rfl) ⟨⟨Nat.zero_le _, Iff.rfl⟩, ?_, trivial⟩ ?_
  · exact ⟨⟨rfl, rfl⟩, ⟨rfl, rfl⟩, ⟨rfl, rfl⟩, ⟨rfl, rfl⟩, trivial⟩
  rintro i ⟨k1, k2⟩ next
  refine ⟨fun hlt => go 100 ?_, fun hge => go 100 ?_⟩
  · have hi : i < xs.length := by simpa using hlt
    have hi' : i < ys.length := by omega
    have hx : (xs.map intV)[i]? = some (intV xs[i]) := by simp [hi]
    have hy : (ys.map intV)[i]? = some (intV ys[i]) := by simp [hi']
    rw [take_succ_eq hi hi'] at k2
    show Goes _ _ _ _
    refine goes_draw 100 ?_
    refine ⟨Int.natCast_nonneg i, _, hx, Int.natCast_nonneg i, _, hy, ?_⟩
    refine ⟨by kernel_rfl, ?_⟩
    refine ⟨fun g2 => go 100 ?_, fun g2 => go 100 ?_⟩
    · refine ⟨trivial, rfl, rfl, rfl, leaf_ff (decide_eq_false fun e => ?_)⟩
      have := (k2.2 e).1
      rw [this] at g2
      simp at g2
    · refine ⟨by constructor <;> omega, ?_⟩
      have he : xs[i] = ys[i] := by
        exact eq_of' g2
      exact next (i + 1) _ _ ⟨⟨hi, by rw [← k2]; exact ⟨fun h => ⟨he, h⟩, fun h => h.2⟩⟩, by omega, ⟨⟨rfl, rfl⟩, ⟨rfl, rfl⟩, ⟨rfl, rfl⟩, ⟨rfl, rfl⟩, trivial⟩, trivial⟩
  · have hi : i = xs.length := by have : xs.length ≤ i := by simpa using hge
                                  omega
    subst hi
    refine ⟨trivial, rfl, rfl, rfl, leaf_tt (decide_eq_true (k2.1 ?_))⟩
    rw [List.drop_eq_nil_of_le (Nat.le_refl _), List.drop_eq_nil_of_le (by omega)]

set_option maxRecDepth 100000 in
theorem w_EqualAttr (xs ys : List (List UInt8 × List UInt8)) (hl : xs.length ≤ 1000000) : Pure Tryz.prog 157 [.sl 2 (xs.map attrV), .sl 2 (ys.map attrV)] (fun x => x = .bool (decide (xs = ys))) := by
  refine pure_wk (pure_fn 100 Tryz.func157 rfl rfl rfl fun B => ?_)
  refine ⟨fun g1 => go 100 ?_, fun g1 => go 100 ?_⟩
  · have g1 := ne_of' g1
    refine ⟨trivial, rfl, rfl, rfl, leaf_ff (decide_eq_false fun e => g1 ?_)⟩
    rw [e]
  have g1 : xs.length = ys.length := by have := eq_of' g1; simp at this; omega
  show Goes _ _ _ _
  refine goes_iter (ι := Nat) (fun i => i ≤ xs.length ∧ (xs.drop i = ys.drop i ↔ xs = ys)) (fun i => xs.length - i) (fun i => [(13, .int .i64 i), (12, .int .i64 (xs.map attrV).length), (1, .sl 2 (ys.map attrV)), (0, .sl 2 (xs.map attrV))]) (fun _ => []) 0 100 (fun _ => rfl) (fun _ => rfl) ⟨⟨Nat.zero_le _, Iff.rfl⟩, ?_, trivial⟩ ?_
  · exact ⟨⟨rfl, rfl⟩, ⟨rfl, rfl⟩, ⟨rfl, rfl⟩, ⟨rfl, rfl⟩, trivial⟩
  rintro i ⟨k1, k2⟩ next
  refine ⟨fun hlt => go 100 ?_, fun hge => go 100 ?_⟩
  · have hi : i < xs.length := by simpa using hlt
    have hi' : i < ys.length := by omega
    have hx : (xs.map attrV)[i]? = some (attrV xs[i]) := by simp [hi]
    have hy : (ys.map attrV)[i]? = some (attrV ys[i]) := by simp [hi']
    rw [take_succ_eq hi hi'] at k2
    show Goes _ _ _ _
    refine goes_draw 100 ?_
    refine ⟨Int.natCast_nonneg i, _, hx, Int.natCast_nonneg i, _, hy, ?_⟩
    refine ⟨by kernel_rfl, ?_⟩
    refine ⟨by kernel_rfl, ?_⟩
    refine ⟨fun g2 => go 100 ?_, fun g2 => go 100 ?_⟩
    · refine ⟨trivial, rfl, rfl, rfl, leaf_ff (decide_eq_false fun e => ?_)⟩
      have := (k2.2 e).1
      rw [this] at g2
      simp at g2
    · refine ⟨by constructor <;> omega, ?_⟩
      have he : xs[i] = ys[i] := by
        simp at g2
        exact Prod.ext g2.1 g2.2
      exact next (i + 1) _ _ ⟨⟨hi, by rw [← k2]; exact ⟨fun h => ⟨he, h⟩, fun h => h.2⟩⟩, by omega, ⟨⟨rfl, rfl⟩, ⟨rfl, rfl⟩, ⟨rfl, rfl⟩, ⟨rfl, rfl⟩, trivial⟩, trivial⟩
  · have hi : i = xs.length := by have : xs.length ≤ i := by simpa using hge
                                  omega
    subst hi
    refine ⟨trivial, rfl, rfl, rfl, leaf_tt (decide_eq_true (k2.1 ?_))⟩
    rw [List.drop_eq_nil_of_le (Nat.le_refl _), List.drop_eq_nil_of_le (by omega)]

set_option maxRecDepth 100000 in
theorem w_EqualPiece (xs ys : List PieceT) (hl : xs.length ≤ 1000000) : Pure Tryz.prog 120 [.sl 3 (xs.map pieceV), .sl 3 (ys.map pieceV)] (fun x => x = .bool (decide (xs = ys))) := by
  refine pure_wk (pure_fn 100 Tryz.func120 rfl rfl rfl fun B => ?_)
  refine ⟨fun g1 => go 100 ?_, fun g1 => go 100 ?_⟩
  · have g1 := ne_of' g1
    refine ⟨trivial, rfl, rfl, rfl, leaf_ff (decide_eq_false fun e => g1 ?_)⟩
    rw [e]
  have g1 : xs.length = ys.length := by have := eq_of' g1; simp at this; omega
  show Goes _ _ _ _
  refine goes_iter (ι := Nat) (fun i => i ≤ xs.length ∧ (xs.drop i = ys.drop i ↔ xs = ys)) (fun i => xs.length - i) (fun i => [(13, .int .i64 i), (12, .int .i64 (xs.map pieceV).length), (1, .sl 3 (ys.map pieceV)), (0, .sl 3 (xs.map pieceV))]) (fun _ => []) 0 100 (fun _ => rfl) (fun _ => rfl) ⟨⟨Nat.zero_le _, Iff.rfl⟩, ?_, trivial⟩ ?_
  · exact ⟨⟨rfl, rfl⟩, ⟨rfl, rfl⟩, ⟨rfl, rfl⟩, ⟨rfl, rfl⟩, trivial⟩
  rintro i ⟨k1, k2⟩ next
  refine ⟨fun hlt => go 100 ?_, fun hge => go 100 ?_⟩
  · have hi : i < xs.length := by simpa using hlt
    have hi' : i < ys.length := by omega
    have hx : (xs.map pieceV)[i]? = some (pieceV xs[i]) := by simp [hi]
    have hy : (ys.map pieceV)[i]? = some (pieceV ys[i]) := by simp [hi']
    rw [take_succ_eq hi hi'] at k2
    show Goes _ _ _ _
    refine goes_draw 100 ?_
    refine ⟨Int.natCast_nonneg i, _, hx, Int.natCast_nonneg i, _, hy, ?_⟩
    refine ⟨by kernel_rfl, ?_⟩
    refine ⟨by kernel_rfl, ?_⟩
    refine ⟨fun g2 => go 100 ?_, fun g2 => go 100 ?_⟩
    · refine ⟨trivial, rfl, rfl, rfl, leaf_ff (decide_eq_false fun e => ?_)⟩
      have := (k2.2 e).1
      rw [this] at g2
      simp at g2
    · refine ⟨by constructor <;> omega, ?_⟩
      have he : xs[i] = ys[i] := by
        simp at g2
        exact PieceT.ext g2.1 g2.2.1 g2.2.2
      exact next (i + 1) _ _ ⟨⟨hi, by rw [← k2]; exact ⟨fun h => ⟨he, h⟩, fun h => h.2⟩⟩, by omega, ⟨⟨rfl, rfl⟩, ⟨rfl, rfl⟩, ⟨rfl, rfl⟩, ⟨rfl, rfl⟩, trivial⟩, trivial⟩
  · have hi : i = xs.length := by have : xs.length ≤ i := by simpa using hge
                                  omega
    subst hi
    refine ⟨trivial, rfl, rfl, rfl, leaf_tt (decide_eq_true (k2.1 ?_))⟩
    rw [List.drop_eq_nil_of_le (Nat.le_refl _), List.drop_eq_nil_of_le (by omega)]

/-- What a clone leaves: nil, or own memory. -/
def CloneQ (sz : Nat) (xs : List V) (x : V) (T : Heap) : Prop := (xs = [] ∧ x = .nilsl ∧ T = []) ∨ (x = .osl (.loc 0) 2 0 xs.length ∧ T = [some (.vec 2 sz xs)])

theorem w_CloneInt (xs : List V) (hl : xs.length ≤ 1000000) : Fun Tryz.prog 132 [] [.sl 1 xs] (CloneQ 1 xs) := by
  refine fun_fn 100 Tryz.func132 rfl rfl rfl fun imps B hi => ?_
  have : imps = [] := List.length_eq_zero_iff.1 hi
  subst this
  show Goes _ _ _ _
  refine goes_nileq 100 rfl rfl rfl rfl rfl rfl fun b hb => ?_
  refine ⟨fun g => go 100 ?_, fun g => go 100 ?_⟩
  · exact ⟨trivial, rfl, rfl, .inl ⟨hb g, rfl, rfl⟩⟩
  · refine ⟨trivial, rfl, rfl, Nat.le_trans (Nat.mul_le_mul_right _ (show _ ≤ 1000000 by simpa using hl)) (by decide), ?_⟩
    refine ⟨trivial, rfl, rfl, .inr ⟨?_, rfl⟩⟩
    simp [resV, bump]

theorem w_CloneNode (xs : List V) (hl : xs.length ≤ 1000000) : Fun Tryz.prog 196 [] [.sl 6 xs] (CloneQ 6 xs) := by
  refine fun_fn 100 Tryz.func196 rfl rfl rfl fun imps B hi => ?_
  have : imps = [] := List.length_eq_zero_iff.1 hi
  subst this
  show Goes _ _ _ _
  refine goes_nileq 100 rfl rfl rfl rfl rfl rfl fun b hb => ?_
  refine ⟨fun g => go 100 ?_, fun g => go 100 ?_⟩
  · exact ⟨trivial, rfl, rfl, .inl ⟨hb g, rfl, rfl⟩⟩
  · refine ⟨trivial, rfl, rfl, Nat.le_trans (Nat.mul_le_mul_right _ (show _ ≤ 1000000 by simpa using hl)) (by decide), ?_⟩
    refine ⟨trivial, rfl, rfl, .inr ⟨?_, rfl⟩⟩
    simp [resV, bump]

end Bow
/- W16: paths, further. -/
namespace Bow
open Go Go.Proofs

theorem common_at {p q : List Int} {i : Nat} (hp : i < p.length) (hq : i < q.length) : common (p.drop i) (q.drop i) = bif decide (p[i] = q[i]) then common (p.drop (i + 1)) (q.drop (i + 1)) + 1 else 0 := by
  rw [List.drop_eq_getElem_cons hp, List.drop_eq_getElem_cons hq, common]
theorem common_nil {p q : List Int} {i : Nat} (h : p.length ≤ i ∨ q.length ≤ i) : common (p.drop i) (q.drop i) = 0 := by
  rcases h with h | h
  · rw [List.drop_eq_nil_of_le h]; simp [common]
  · rw [List.drop_eq_nil_of_le h]; cases p.drop i <;> simp [common]

set_option maxRecDepth 100000 in
theorem w_refCommon (p q : List Int) (hp : p.length ≤ 1000000) : Pure Tryz.prog 110 [pathV p, pathV q] (fun x => x = .int .i64 (common p q)) := by
  refine pure_fn 100 Tryz.func110 rfl rfl rfl fun B => ?_
  show Goes _ _ _ _
  refine goes_iter (ι := Nat) (fun i => i ≤ p.length ∧ i + common (p.drop i) (q.drop i) = common p q) (fun i => p.length - i) (fun i => [(5, .int .i64 i), (1, pathV q), (0, pathV p)]) (fun _ => []) 0 100 (fun _ => rfl) (fun _ => rfl) ⟨⟨Nat.zero_le _, by simp⟩, ?_, trivial⟩ ?_
  · exact ⟨⟨rfl, rfl⟩, ⟨rfl, rfl⟩, ⟨rfl, rfl⟩, trivial⟩
  rintro i ⟨k1, k2⟩ next
  show Goes _ _ _ _
  have fin : common (p.drop i) (q.drop i) = 0 → V.int .i64 (i : Nat) = .int .i64 (common p q) := fun h => by rw [← k2, h]; rfl
  refine goes_draw 100 ⟨fun g1 => ⟨fun g2 => ?_, fun g2 => ?_⟩, fun g1 => ?_⟩
  · have hi : i < p.length := by simpa using g1
    have hi' : i < q.length := by simpa using g2
    have hx : (p.map intV)[i]? = some (intV p[i]) := by simp [hi]
    have hy : (q.map intV)[i]? = some (intV q[i]) := by simp [hi']
    rw [common_at hi hi'] at k2 fin
    refine ⟨Int.natCast_nonneg i, _, hx, Int.natCast_nonneg i, _, hy, ?_⟩
    refine ⟨by kernel_rfl, ?_⟩
    refine ⟨fun g3 => go 100 ?_, fun g3 => go 100 ?_⟩
    · rw [g3] at k2
      refine ⟨by constructor <;> omega, ?_⟩
      exact next (i + 1) _ _ ⟨⟨hi, by simp only [cond_true] at k2; omega⟩, by omega, ⟨⟨rfl, rfl⟩, ⟨rfl, rfl⟩, ⟨rfl, rfl⟩, trivial⟩, trivial⟩
    · rw [g3] at fin
      exact ⟨trivial, rfl, rfl, rfl, fin rfl⟩
  · have hi' : q.length ≤ i := by simpa using g2
    refine ⟨by kernel_rfl, ?_⟩
    exact ⟨trivial, rfl, rfl, rfl, fin (common_nil (.inr hi'))⟩
  · have hi : p.length ≤ i := by simpa using g1
    refine ⟨by kernel_rfl, ?_⟩
    exact ⟨trivial, rfl, rfl, rfl, fin (common_nil (.inl hi))⟩

theorem w_refWithin (p q : List Int) (hp : p.length ≤ 1000000) : Pure Tryz.prog 102 [pathV p, pathV q] (fun x => x = .bool (within p q)) := by
  refine pure_wk (pure_fn 100 Tryz.func102 rfl rfl rfl fun B => ?_)
  show CallThen _ _ _ _ _ _
  refine call_pure (w_refCommon p q hp) rfl ?_
  rintro x rfl
  refine ⟨trivial, rfl, rfl, rfl, leaf_b ?_⟩
  rw [← common_within]
  simp
  omega

theorem w_refSame (p q : List Int) (hp : p.length ≤ 1000000) : Pure Tryz.prog 57 [pathV p, pathV q] (fun x => x = .bool (decide (p = q))) := by
  refine pure_wk (pure_fn 100 Tryz.func57 rfl rfl rfl fun B => ?_)
  refine ⟨fun g1 => go 100 ?_, fun g1 => go 100 ?_⟩
  · have g1 : p.length = q.length := by have := eq_of g1; simp at this; omega
    show CallThen _ _ _ _ _ _
    refine call_pure (w_refCommon p q hp) rfl ?_
    rintro x rfl
    refine ⟨trivial, rfl, rfl, rfl, leaf_b ?_⟩
    rw [← common_same p q g1]
    simp
    omega
  · have g1 := ne_of g1
    exact ⟨trivial, rfl, rfl, rfl, leaf_ff (decide_eq_false fun e => g1 (by rw [e]))⟩

theorem w_pathSame (p q : List Int) (hp : p.length ≤ 1000000) : Pure Tryz.prog 119 [pathV p, pathV q] (fun x => x = .bool (decide (p = q))) := by
  refine pure_fn 100 Tryz.func119 rfl rfl rfl fun B => ?_
  show CallThen _ _ _ _ _ _
  refine call_pure (w_EqualInt p q hp) rfl ?_
  rintro x rfl
  exact ⟨trivial, rfl, rfl, rfl, rfl⟩

theorem w_pathWithin (p q : List Int) (hp : p.length ≤ 1000000) : Pure Tryz.prog 147 [pathV p, pathV q] (fun x => x = .bool (within p q)) := by
  refine pure_wk (pure_fn 100 Tryz.func147 rfl rfl rfl fun B => ?_)
  refine ⟨fun g1 => go 100 ?_, fun g1 => go 100 ?_⟩
  · have g1 : p.length ≤ q.length := by have := le_of g1; simp at this; omega
    refine ⟨by decide, by simp, by simpa using g1, ?_⟩
    show CallThen _ _ _ _ _ _
    have e : V.sl 1 ((((q.map intV).drop (Int.toNat 0)).take (((p.map intV).length : Int).toNat - Int.toNat 0))) = pathV (q.take p.length) := by
      unfold pathV
      simp
    refine call_pure (Q := fun x => x = .bool (decide (p = q.take p.length))) (by have h := w_EqualInt p (q.take p.length) hp; unfold pathV at e; rw [← e] at h; exact h) rfl ?_
    rintro x rfl
    exact ⟨trivial, rfl, rfl, rfl, leaf_b rfl⟩
  · have g1 : q.length < p.length := by have := not_le_of g1; simp at this; omega
    refine ⟨trivial, rfl, rfl, rfl, leaf_ff ?_⟩
    cases h : within p q with
    | false => rfl
    | true => have := within_len h; omega

theorem pure_clone {P : Program} {f : FuncId} {sz : Nat} {xs : List V} (h : Fun P f [] [.sl sz xs] (CloneQ sz xs)) : Pure P f [.sl sz xs] (fun x => x = .sl sz xs) := by
  refine pure_wk (pure_of_fun (h.mono fun x T hx => ?_))
  rcases hx with ⟨e, rfl, rfl⟩ | ⟨rfl, rfl⟩
  · subst e
    exact ⟨rfl, _, Wk.nil sz, rfl, rfl⟩
  · exact ⟨rfl, rfl, rfl, _, Wk.refl _, rfl, rfl⟩

/-- The path of the parent, of one that is not the root's; where in it. -/
theorem w_Parent (p : List Int) (hp : p.length ≤ 1000000) (hne : p ≠ []) : Pure Tryz.prog 131 [pathV p] (fun x => x = .tup [pathV p.dropLast, intV (p.getLast hne), .tt]) := by
  have hpos : 0 < p.length := List.length_pos_iff.2 hne
  refine pure_fn 100 Tryz.func131 rfl rfl rfl fun B => ?_
  refine ⟨fun g1 => go 100 ?_, fun g1 => go 100 ?_⟩
  · have := eq_of g1
    simp at this
    exact absurd this hne
  refine ⟨by constructor <;> simp <;> omega, ?_⟩
  show Goes _ _ _ _
  have e : V.sl 1 ((((p.map intV).drop (Int.toNat 0)).take ((((p.map intV).length : Int) - 1).toNat - Int.toNat 0))) = .sl 1 (p.dropLast.map intV) := by
    rw [List.dropLast_eq_take, List.map_take]
    congr 2
    simp
  have hx : (p.map intV)[(((p.map intV).length : Int) - 1).toNat]? = some (intV (p.getLast hne)) := by
    rw [List.getElem?_map, List.getLast_eq_getElem]
    have : (((p.map intV).length : Int) - 1).toNat = p.length - 1 := by simp
    rw [this, List.getElem?_eq_getElem (by omega)]
    rfl
  refine goes_draw 100 ⟨by decide, by simp; omega, by omega, ?_⟩
  have h := pure_clone (w_CloneInt (p.dropLast.map intV) (by rw [List.length_map, List.length_dropLast]; omega))
  rw [← e] at h
  refine ⟨_, h, rfl, ?_⟩
  refine ⟨by simp only [List.length_map]; omega, _, hx, ?_⟩
  refine ⟨by kernel_rfl, ?_⟩
  refine ⟨trivial, rfl, rfl, rfl, ?_⟩
  rw [e]
  rfl
end Bow
/- W17: the node at a path. -/
namespace Bow
open Go Go.Proofs

theorem subs_le_weights : ∀ l : List Tree, l.length ≤ weights l
  | [] => by rw [weights]; simp
  | s :: l => by
    have := subs_le_weights l
    have := weight_eq s
    rw [weights_cons, List.length_cons]
    omega
theorem subs_le_weight (t : Tree) : t.subs.length < t.weight := by have := weight_eq t; have := subs_le_weights t.subs; omega
theorem subV_at {t s : Tree} {i : Nat} (h : t.subs[i]? = some s) : t.subV[i]? = some (nodeV s) := by rw [subV_eq, List.getElem?_map, h]; rfl
theorem subV_len (t : Tree) : t.subV.length = t.subs.length := by rw [subV_eq, List.length_map]
theorem wk_at0 : Wk (.tup [zeroV .nilsl, .ff]) (atV (zeroT []) none) := Wk.tup ⟨wk_zero (ss := []) (Wk.nil 6), .refl _, trivial⟩

set_option maxRecDepth 100000 in
theorem w_At (t : Tree) (p : List Int) (hp : p.length ≤ 1000000) : Pure Tryz.prog 54 [nodeV t, pathV p] (fun x => x = atV (zeroT []) (atT t p)) := by
  refine pure_wk (pure_fn 100 Tryz.func54 rfl rfl rfl fun B => ?_)
  show Goes _ _ _ _
  refine goes_iter (ι := Nat × Tree) (fun i => i.1 ≤ p.length ∧ atT i.2 (p.drop i.1) = atT t p) (fun i => p.length - i.1) (fun i => [(10, .int .i64 i.1), (9, .int .i64 (p.map intV).length), (8, pathV p), (2, .ptr (.loc 0) 0), (4, .ptr (.loc 1) 0)]) (fun i => [some (.box (nodeV i.2).cells), some (.box (zeroV .nilsl).cells)]) (0, t) 100 (fun _ => rfl) (fun _ => rfl) ⟨⟨Nat.zero_le _, rfl⟩, ?_, ?_⟩ ?_
  · exact ⟨⟨rfl, rfl⟩, ⟨rfl, rfl⟩, ⟨rfl, rfl⟩, ⟨rfl, rfl⟩, ⟨rfl, rfl⟩, trivial⟩
  · exact ⟨⟨rfl, rfl⟩, ⟨rfl, rfl⟩, trivial⟩
  rintro ⟨i, s⟩ ⟨k1, k2⟩ next
  simp only at k1 k2
  refine ⟨fun hlt => go 100 ?_, fun hge => go 100 ?_⟩
  · have hi : i < p.length := by simpa using hlt
    have hx : (p.map intV)[i]? = some (intV p[i]) := by simp [hi]
    rw [drop_cons hi, atT] at k2
    refine ⟨Int.natCast_nonneg i, _, hx, ?_⟩
    refine ⟨fun g1 => go 100 ?_, fun g1 => go 100 ?_⟩
    · have g1 := lt_of g1
      rw [subT_neg g1] at k2
      exact ⟨trivial, rfl, rfl, rfl, _, wk_at0, rfl, by rw [← k2]⟩
    have g1 := not_lt_of g1
    refine ⟨fun g2 => go 100 ?_, fun g2 => go 100 ?_⟩
    · have g2 := le_of g2
      rw [subV_len] at g2
      rw [subT_big g2] at k2
      exact ⟨trivial, rfl, rfl, rfl, _, wk_at0, rfl, by rw [← k2]⟩
    · have g2 := not_le_of g2
      rw [subV_len] at g2
      obtain ⟨u, hu, hv⟩ := subT_at g1 g2
      rw [hu] at k2
      refine ⟨g1, _, subV_at hv, ?_⟩
      refine ⟨by constructor <;> omega, ?_⟩
      exact next (i + 1, u) _ _ ⟨⟨hi, k2⟩, by simp only; omega, ⟨⟨rfl, rfl⟩, ⟨rfl, rfl⟩, ⟨rfl, rfl⟩, ⟨rfl, rfl⟩, ⟨rfl, rfl⟩, trivial⟩, ⟨⟨rfl, rfl⟩, ⟨rfl, rfl⟩, trivial⟩⟩
  · have hi : p.length ≤ i := by simpa using hge
    rw [List.drop_eq_nil_of_le hi, atT] at k2
    exact ⟨trivial, rfl, rfl, rfl, _, .refl _, rfl, by rw [← k2]; rfl⟩

set_option maxRecDepth 100000 in
theorem w_refAt (t : Tree) (p : List Int) (hp : p.length ≤ 1000000) : Pure Tryz.prog 77 [nodeV t, pathV p] (fun x => x = atV (zeroT []) (atT t p)) := by
  refine pure_wk (pure_fn 100 Tryz.func77 rfl rfl rfl fun B => ?_)
  show Goes _ _ _ _
  refine goes_iter (ι := Nat × Tree) (fun i => i.1 ≤ p.length ∧ atT i.2 (p.drop i.1) = atT t p) (fun i => p.length - i.1) (fun i => [(6, .int .i64 i.1), (1, pathV p), (2, .ptr (.loc 0) 0), (4, .ptr (.loc 1) 0)]) (fun i => [some (.box (nodeV i.2).cells), some (.box (zeroV .nilsl).cells)]) (0, t) 100 (fun _ => rfl) (fun _ => rfl) ⟨⟨Nat.zero_le _, rfl⟩, ?_, ?_⟩ ?_
  · exact ⟨⟨rfl, rfl⟩, ⟨rfl, rfl⟩, ⟨rfl, rfl⟩, ⟨rfl, rfl⟩, trivial⟩
  · exact ⟨⟨rfl, rfl⟩, ⟨rfl, rfl⟩, trivial⟩
  rintro ⟨i, s⟩ ⟨k1, k2⟩ next
  simp only at k1 k2
  refine ⟨fun hlt => go 100 ?_, fun hge => go 100 ?_⟩
  · have hi : i < p.length := by simpa using hlt
    have hx : (p.map intV)[i]? = some (intV p[i]) := by simp [hi]
    rw [drop_cons hi, atT] at k2
    show Goes _ _ _ _
    refine goes_draw 100 ⟨Int.natCast_nonneg i, _, hx, ⟨fun g1 => ?_, fun g1 => ?_⟩⟩
    · have g1 := lt_of g1
      rw [subT_neg g1] at k2
      refine ⟨by kernel_rfl, ?_⟩
      exact ⟨trivial, rfl, rfl, rfl, _, wk_at0, rfl, by rw [← k2]⟩
    have g1 := not_lt_of g1
    refine ⟨Int.natCast_nonneg i, _, hx, ?_⟩
    refine ⟨by kernel_rfl, ?_⟩
    refine ⟨fun g2 => go 100 ?_, fun g2 => go 100 ?_⟩
    · have g2 := le_of g2
      rw [subV_len] at g2
      rw [subT_big g2] at k2
      exact ⟨trivial, rfl, rfl, rfl, _, wk_at0, rfl, by rw [← k2]⟩
    · have g2 := not_le_of g2
      rw [subV_len] at g2
      obtain ⟨u, hu, hv⟩ := subT_at g1 g2
      rw [hu] at k2
      show Goes _ _ _ _
      refine goes_draw 100 ⟨Int.natCast_nonneg i, _, hx, g1, _, subV_at hv, ?_⟩
      refine ⟨by kernel_rfl, ?_⟩
      refine ⟨by constructor <;> omega, ?_⟩
      exact next (i + 1, u) _ _ ⟨⟨hi, k2⟩, by simp only; omega, ⟨⟨rfl, rfl⟩, ⟨rfl, rfl⟩, ⟨rfl, rfl⟩, ⟨rfl, rfl⟩, trivial⟩, ⟨⟨rfl, rfl⟩, ⟨rfl, rfl⟩, trivial⟩⟩
  · have hi : p.length ≤ i := by simpa using hge
    rw [List.drop_eq_nil_of_le hi, atT] at k2
    exact ⟨trivial, rfl, rfl, rfl, _, .refl _, rfl, by rw [← k2]; rfl⟩

theorem w_into (t : Tree) (at_ : Int) : Pure Tryz.prog 146 [nodeV t, intV at_] (fun x => x = .int .i64 (intoE t at_)) := by
  refine pure_fn 100 Tryz.func146 rfl rfl rfl fun B => ?_
  refine ⟨fun g1 => go 100 ?_, fun g1 => go 100 ?_⟩
  · exact ⟨trivial, rfl, rfl, rfl, by unfold intoE; rw [g1]; rfl⟩
  refine ⟨fun g2 => go 100 ?_, fun g2 => go 100 ?_⟩
  · rw [subV_len] at g2
    exact ⟨trivial, rfl, rfl, rfl, by unfold intoE; rw [g1, g2]; rfl⟩
  · rw [subV_len] at g2
    exact ⟨trivial, rfl, rfl, rfl, by unfold intoE; rw [g1, g2]; rfl⟩
theorem w_refInto (t : Tree) (at_ : Int) : Pure Tryz.prog 101 [nodeV t, intV at_] (fun x => x = .int .i64 (intoE t at_)) := by
  refine pure_fn 100 Tryz.func101 rfl rfl rfl fun B => ?_
  refine ⟨fun g1 => go 100 ?_, fun g1 => go 100 ?_⟩
  · exact ⟨trivial, rfl, rfl, rfl, by unfold intoE; rw [g1]; rfl⟩
  refine ⟨fun g2 => go 100 ?_, fun g2 => go 100 ?_⟩
  · rw [subV_len] at g2
    exact ⟨trivial, rfl, rfl, rfl, by unfold intoE; rw [g1, g2]; rfl⟩
  · rw [subV_len] at g2
    exact ⟨trivial, rfl, rfl, rfl, by unfold intoE; rw [g1, g2]; rfl⟩
end Bow
/- W18: changes of the node at a path: printed by gen_w18.py. -/
namespace Bow
open Go Go.Proofs

theorem subV_set (t : Tree) (i : Nat) (s : Tree) : t.subV.set i (nodeV s) = (t.subs.set i s).map nodeV := by rw [subV_eq, List.map_set]

set_option maxRecDepth 100000 in
theorem w_change1 (g : FuncId) (c1 : List V) (F : Tree → Tree) (y : Tree)
    (hg : Fun Tryz.prog g [some (.box (nodeV y).cells)] [.ptr (.loc 0) 0, .iptr c1 0] (fun _ T => T = [some (.box (nodeV (F y)).cells)])) :
    ∀ (p : List Int) (t : Tree), p.length ≤ 1000000 → t.weight ≤ 1000000 → atT t p = some y → Pure Tryz.prog 152 [nodeV t, pathV p, .fn (.func g) [] [.iptr c1 0]] (fun x => x = nodeV (changeT F t p))
  | [], t, hp, ht, hy => by
    rw [atT] at hy
    injection hy with hy
    subst hy
    refine pure_fn 100 Tryz.func152 rfl rfl rfl fun B => ?_
    refine ⟨fun g1 => go 100 ?_, fun g1 => ?_⟩
    case refine_2 => exact absurd rfl (ne_of g1)
    show CallThen _ _ _ _ _ _
    refine call_sub [0] hg rfl rfl ⟨⟨rfl, rfl⟩, trivial⟩ rfl rfl rfl ?_
    rintro x T1 rfl
    refine ⟨rfl, ?_⟩
    exact ⟨trivial, rfl, rfl, rfl, rfl⟩
  | i :: p, t, hp, ht, hy => by
    rw [atT] at hy
    cases hs : subT t i with
    | none => rw [hs] at hy; cases hy
    | some s =>
    rw [hs] at hy
    simp only at hy
    obtain ⟨hi0, hat, hmem⟩ := subT_some hs
    have hlt := lt_of_get hat
    have hw := weight_sub hmem
    have hsl := subs_le_weight t
    have ih := w_change1 g c1 F y hg p s (by simp at hp; omega) (by omega) hy
    refine pure_fn 100 Tryz.func152 rfl rfl rfl fun B => ?_
    refine ⟨fun g1 => ?_, fun g1 => go 100 ?_⟩
    · have := eq_of g1
      simp at this
      omega
    show CallThen _ _ _ _ _ _
    refine call_sub [] (w_CloneNode t.subV (by rw [subV_len]; omega)) rfl rfl trivial rfl rfl rfl ?_
    rintro x T1 (⟨e, _⟩ | ⟨rfl, rfl⟩)
    · have := congrArg List.length e
      rw [subV_len, List.length_nil] at this
      omega
    refine ⟨rfl, ?_⟩
    show Goes _ _ _ _
    have hx : t.subV[0 + i.toNat]? = some (nodeV s) := by rw [Nat.zero_add]; exact subV_at hat
    have hil : i < (t.subV.length : Int) := by rw [subV_len]; omega
    have e : V.sl 1 ((((i :: p).map intV).drop (Int.toNat 1)).take (((((i :: p).map intV).length : Nat) : Int).toNat - Int.toNat 1)) = pathV p := by
      unfold pathV
      rw [List.take_of_length_le (by simp)]
      rfl
    refine goes_draw 100 ⟨by decide, _, rfl, by decide, _, rfl, rfl, hi0, hil, rfl, _, hx, by decide, by simp; omega, by omega, nodeV (changeT F s p), ?_, rfl, rfl, hi0, hil, rfl, _, hx, ?_⟩
    · unfold pathV at e ih
      rw [e]
      exact ih
    refine ⟨by kernel_rfl, ?_⟩
    refine ⟨trivial, rfl, rfl, rfl, (by simp), rfl, ?_⟩
    rw [changeT, hs]
    simp only
    rw [withSubs_V, ← subV_set, Nat.zero_add]
    rfl

set_option maxRecDepth 100000 in
theorem w_change2 (g : FuncId) (c1 c2 : List V) (F : Tree → Tree) (y : Tree)
    (hg : Fun Tryz.prog g [some (.box (nodeV y).cells)] [.ptr (.loc 0) 0, .iptr c1 0, .iptr c2 0] (fun _ T => T = [some (.box (nodeV (F y)).cells)])) :
    ∀ (p : List Int) (t : Tree), p.length ≤ 1000000 → t.weight ≤ 1000000 → atT t p = some y → Pure Tryz.prog 152 [nodeV t, pathV p, .fn (.func g) [] [.iptr c1 0, .iptr c2 0]] (fun x => x = nodeV (changeT F t p))
  | [], t, hp, ht, hy => by
    rw [atT] at hy
    injection hy with hy
    subst hy
    refine pure_fn 100 Tryz.func152 rfl rfl rfl fun B => ?_
    refine ⟨fun g1 => go 100 ?_, fun g1 => ?_⟩
    case refine_2 => exact absurd rfl (ne_of g1)
    show CallThen _ _ _ _ _ _
    refine call_sub [0] hg rfl rfl ⟨⟨rfl, rfl⟩, trivial⟩ rfl rfl rfl ?_
    rintro x T1 rfl
    refine ⟨rfl, ?_⟩
    exact ⟨trivial, rfl, rfl, rfl, rfl⟩
  | i :: p, t, hp, ht, hy => by
    rw [atT] at hy
    cases hs : subT t i with
    | none => rw [hs] at hy; cases hy
    | some s =>
    rw [hs] at hy
    simp only at hy
    obtain ⟨hi0, hat, hmem⟩ := subT_some hs
    have hlt := lt_of_get hat
    have hw := weight_sub hmem
    have hsl := subs_le_weight t
    have ih := w_change2 g c1 c2 F y hg p s (by simp at hp; omega) (by omega) hy
    refine pure_fn 100 Tryz.func152 rfl rfl rfl fun B => ?_
    refine ⟨fun g1 => ?_, fun g1 => go 100 ?_⟩
    · have := eq_of g1
      simp at this
      omega
    show CallThen _ _ _ _ _ _
    refine call_sub [] (w_CloneNode t.subV (by rw [subV_len]; omega)) rfl rfl trivial rfl rfl rfl ?_
    rintro x T1 (⟨e, _⟩ | ⟨rfl, rfl⟩)
    · have := congrArg List.length e
      rw [subV_len, List.length_nil] at this
      omega
    refine ⟨rfl, ?_⟩
    show Goes _ _ _ _
    have hx : t.subV[0 + i.toNat]? = some (nodeV s) := by rw [Nat.zero_add]; exact subV_at hat
    have hil : i < (t.subV.length : Int) := by rw [subV_len]; omega
    have e : V.sl 1 ((((i :: p).map intV).drop (Int.toNat 1)).take (((((i :: p).map intV).length : Nat) : Int).toNat - Int.toNat 1)) = pathV p := by
      unfold pathV
      rw [List.take_of_length_le (by simp)]
      rfl
    refine goes_draw 100 ⟨by decide, _, rfl, by decide, _, rfl, rfl, hi0, hil, rfl, _, hx, by decide, by simp; omega, by omega, nodeV (changeT F s p), ?_, rfl, rfl, hi0, hil, rfl, _, hx, ?_⟩
    · unfold pathV at e ih
      rw [e]
      exact ih
    refine ⟨by kernel_rfl, ?_⟩
    refine ⟨trivial, rfl, rfl, rfl, (by simp), rfl, ?_⟩
    rw [changeT, hs]
    simp only
    rw [withSubs_V, ← subV_set, Nat.zero_add]
    rfl

end Bow
/- W19: nodes put in and taken out. -/
namespace Bow
open Go Go.Proofs

set_option maxRecDepth 100000 in
theorem w_insert1 (x y : Tree) (n : Int) (h0 : 0 ≤ n) (h1 : n ≤ y.subs.length) (hl : y.subs.length ≤ 900000) : Fun Tryz.prog 193 [some (.box (nodeV y).cells)] [.ptr (.loc 0) 0, .iptr [intV n] 0, .iptr (nodeV x).cells 0] (fun _ T => T = [some (.box (nodeV (insT n x y)).cells)]) := by
  refine fun_keep 1 rfl (fun_fn 100 Tryz.func193 rfl rfl rfl fun imps B hi => ?_)
  obtain ⟨r, rfl⟩ := List.length_eq_one_iff.1 hi
  show Goes _ _ _ _
  have hnl : n ≤ (y.subV.length : Int) := by rw [subV_len]; exact h1
  have hc := w_ConcatNode [(y.subV.drop (Int.toNat 0)).take (n.toNat - Int.toNat 0), [nodeV x], (y.subV.drop n.toNat).take ((y.subV.length : Int).toNat - n.toNat)] (by
    simp [subV_len]; omega) (by simp)
  refine goes_draw 100 ⟨by decide, h0, hnl, ?_⟩
  refine ⟨by kernel_rfl, ⟨rfl, trivial⟩, rfl, h0, hnl, Int.le_refl _, ?_⟩
  refine ⟨by kernel_rfl, rfl, rfl, ⟨rfl, rfl, rfl, trivial⟩, rfl, rfl, rfl, _, hc, rfl, ?_⟩
  refine ⟨by kernel_rfl, ?_⟩
  refine ⟨trivial, rfl, rfl, [some (.box [.int .u64 y.id, .bool y.leaf, .str y.label, .sl 2 (y.attrs.map attrV), .str y.text, .sl 6 [(y.subV.drop (Int.toNat 0)).take (n.toNat - Int.toNat 0), [nodeV x], (y.subV.drop n.toNat).take ((y.subV.length : Int).toNat - n.toNat)].flatten])], rfl, rfl, ⟨⟨rfl, rfl⟩, trivial⟩, ?_⟩
  have e : [(y.subV.drop (Int.toNat 0)).take (n.toNat - Int.toNat 0), [nodeV x], (y.subV.drop n.toNat).take ((y.subV.length : Int).toNat - n.toNat)].flatten = (y.subs.take n.toNat ++ x :: y.subs.drop n.toNat).map nodeV := by
    rw [subV_eq]
    simp [List.map_take, List.map_drop]
    rw [List.take_of_length_le (by simp)]
  rw [e, insT, withSubs_V]
  rfl

set_option maxRecDepth 100000 in
theorem w_remove1 (y : Tree) (n : Int) (h0 : 0 ≤ n) (h1 : n < y.subs.length) (hl : y.subs.length ≤ 900000) : Fun Tryz.prog 195 [some (.box (nodeV y).cells)] [.ptr (.loc 0) 0, .iptr [intV n] 0] (fun _ T => T = [some (.box (nodeV (delT n y)).cells)]) := by
  refine fun_keep 1 rfl (fun_fn 100 Tryz.func195 rfl rfl rfl fun imps B hi => ?_)
  obtain ⟨r, rfl⟩ := List.length_eq_one_iff.1 hi
  show Goes _ _ _ _
  have hnl : n ≤ (y.subV.length : Int) := by rw [subV_len]; omega
  have hnl' : n + 1 ≤ (y.subV.length : Int) := by rw [subV_len]; omega
  have hc := w_ConcatNode [(y.subV.drop (Int.toNat 0)).take (n.toNat - Int.toNat 0), (y.subV.drop (n + 1).toNat).take ((y.subV.length : Int).toNat - (n + 1).toNat)] (by
    simp [subV_len]; omega) (by simp)
  refine goes_draw 100 ⟨by decide, h0, hnl, ?_⟩
  refine ⟨⟨by omega, by omega⟩, by omega, hnl', Int.le_refl _, ?_⟩
  refine ⟨by kernel_rfl, ⟨rfl, rfl, trivial⟩, rfl, rfl, rfl, _, hc, rfl, ?_⟩
  refine ⟨by kernel_rfl, ?_⟩
  refine ⟨trivial, rfl, rfl, [some (.box [.int .u64 y.id, .bool y.leaf, .str y.label, .sl 2 (y.attrs.map attrV), .str y.text, .sl 6 [(y.subV.drop (Int.toNat 0)).take (n.toNat - Int.toNat 0), (y.subV.drop (n + 1).toNat).take ((y.subV.length : Int).toNat - (n + 1).toNat)].flatten])], rfl, rfl, ⟨⟨rfl, rfl⟩, trivial⟩, ?_⟩
  have e : [(y.subV.drop (Int.toNat 0)).take (n.toNat - Int.toNat 0), (y.subV.drop (n + 1).toNat).take ((y.subV.length : Int).toNat - (n + 1).toNat)].flatten = (y.subs.take n.toNat ++ y.subs.drop (n.toNat + 1)).map nodeV := by
    have e1 : (n + 1).toNat = n.toNat + 1 := by omega
    rw [subV_eq, e1]
    simp [List.map_take, List.map_drop]
    rw [List.take_of_length_le (by simp)]
  rw [e, delT, withSubs_V]
  rfl

set_option maxRecDepth 100000 in
theorem w_insert (t x y : Tree) (p : List Int) (n : Int) (hp : p.length ≤ 1000000) (ht : t.weight ≤ 900000) (hy : atT t p = some y) (h0 : 0 ≤ n) (h1 : n ≤ y.subs.length) :
    Pure Tryz.prog 149 [nodeV t, pathV p, intV n, nodeV x] (fun z => z = nodeV (changeT (insT n x) t p)) := by
  have hyw := atT_weight hy
  have hys := subs_le_weight y
  refine pure_fn 100 Tryz.func149 rfl rfl rfl fun B => ?_
  show CallThen _ _ _ _ _ _
  refine call_freeze 1 rfl rfl ?_
  refine call_freeze 2 rfl rfl ?_
  refine call_pure (w_change2 193 [intV n] (nodeV x).cells (insT n x) y (w_insert1 x y n h0 h1 (by omega)) p t hp (by omega) hy) rfl ?_
  rintro z rfl
  exact ⟨trivial, rfl, rfl, rfl, rfl⟩

set_option maxRecDepth 100000 in
theorem w_remove (t y : Tree) (p : List Int) (hp : p.length ≤ 1000000) (hne : p ≠ []) (ht : t.weight ≤ 900000) (hy : atT t p.dropLast = some y) (h0 : 0 ≤ p.getLast hne) (h1 : p.getLast hne < y.subs.length) :
    Pure Tryz.prog 150 [nodeV t, pathV p] (fun z => z = nodeV (changeT (delT (p.getLast hne)) t p.dropLast)) := by
  have hyw := atT_weight hy
  have hys := subs_le_weight y
  refine pure_fn 100 Tryz.func150 rfl rfl rfl fun B => ?_
  show CallThen _ _ _ _ _ _
  refine call_pure (w_Parent p hp hne) rfl ?_
  rintro z rfl
  show CallThen _ _ _ _ _ _
  refine call_freeze 2 rfl rfl ?_
  refine call_pure (w_change1 195 [intV (p.getLast hne)] (delT (p.getLast hne)) y (w_remove1 y _ h0 h1 (by omega)) p.dropLast t (by simp; omega) (by omega) hy) rfl ?_
  rintro z rfl
  exact ⟨trivial, rfl, rfl, rfl, rfl⟩
end Bow
/- W20: where a moved node lands. -/
namespace Bow
open Go Go.Proofs

def landV (r : List Int × Int) : V := .tup [pathV r.1, intV r.2]

set_option maxRecDepth 100000 in
theorem w_landing (p to : List Int) (n : Int) (hp : p.length ≤ 1000000) (ht : to.length ≤ 1000000) (hne : p ≠ []) (hn : inI n) (hr : ∀ x ∈ to, inI x) (h0 : 0 ≤ p.getLast hne) :
    Pure Tryz.prog 151 [pathV p, pathV to, intV n] (fun z => z = landV (landT p.dropLast (p.getLast hne) to n)) := by
  obtain ⟨hn1, hn2⟩ := hn
  have hq : p.dropLast.length ≤ 1000000 := by simp; omega
  refine pure_fn 100 Tryz.func151 rfl rfl rfl fun B => ?_
  show CallThen _ _ _ _ _ _
  refine call_pure (w_Parent p hp hne) rfl ?_
  rintro z rfl
  show CallThen _ _ _ _ _ _
  refine call_pure (w_pathSame p.dropLast to hq) rfl ?_
  rintro z rfl
  have other : (decide (p.dropLast = to) && decide (p.getLast hne < n)) = false → landT p.dropLast (p.getLast hne) to n = bif within p.dropLast to && (decide (p.dropLast.length < to.length) && decide (p.getLast hne < to.getD p.dropLast.length 0)) then (to.set p.dropLast.length (to.getD p.dropLast.length 0 - 1), n) else (to, n) := fun h => by
    unfold landT
    rw [h]
    rfl
  have hlen : ((p.dropLast.map intV).length : Int) = (p.dropLast.length : Int) := by simp
  refine ⟨fun g1 => go 100 ⟨fun g2 => go 100 ?_, fun g2 => ?_⟩, fun g1 => ?_⟩
  · have g2' := lt_of g2
    refine ⟨by constructor <;> omega, ?_⟩
    refine ⟨trivial, rfl, rfl, rfl, ?_⟩
    unfold landT
    rw [g1, g2]
    rfl
  case refine_2 =>
    replace other := other (by rw [g1, g2]; rfl)
    refine go 100 ?_
    show CallThen _ _ _ _ _ _
    refine call_pure (w_pathWithin p.dropLast to hq) rfl ?_
    rintro z rfl
    refine ⟨fun g3 => go 100 ⟨fun g4 => go 100 ?_, fun g4 => go 100 ?_⟩, fun g3 => go 100 ?_⟩
    · have g4' := lt_of g4
      rw [hlen] at g4'
      simp only [List.length_map] at g4'
      have g4l : p.dropLast.length < to.length := by omega
      have hx : (to.map intV)[(((p.dropLast.map intV).length : Nat) : Int).toNat]? = some (intV (to.getD p.dropLast.length 0)) := by
        have e : (((p.dropLast.map intV).length : Nat) : Int).toNat = p.dropLast.length := by simp
        rw [e, List.getElem?_map, List.getElem?_eq_getElem g4l, List.getD_eq_getElem?_getD, List.getElem?_eq_getElem g4l]
        rfl
      refine ⟨Int.natCast_nonneg _, _, hx, ?_⟩
      refine ⟨fun g5 => go 100 ?_, fun g5 => go 100 ?_⟩
      · show CallThen _ _ _ _ _ _
        refine call_sub [] (w_CloneInt (to.map intV) (by simpa using ht)) rfl rfl trivial rfl rfl rfl ?_
        rintro z T1 (⟨e, _⟩ | ⟨rfl, rfl⟩)
        · have := congrArg List.length e
          simp at this
          subst this
          simp at g4l
        refine ⟨rfl, ?_⟩
        have hx' : (to.map intV)[0 + (((p.dropLast.map intV).length : Nat) : Int).toNat]? = some (intV (to.getD p.dropLast.length 0)) := by rw [Nat.zero_add]; exact hx
        have hlt : (((p.dropLast.map intV).length : Nat) : Int) < ((to.map intV).length : Nat) := by simp; simp at g4l; omega
        have hr' := hr (to.getD p.dropLast.length 0) (by rw [List.getD_eq_getElem?_getD, List.getElem?_eq_getElem g4l]; exact List.getElem_mem g4l)
        have g5' := lt_of g5
        obtain ⟨r1, r2⟩ := hr'
        refine ⟨rfl, Int.natCast_nonneg _, hlt, rfl, _, hx', ⟨by omega, by omega⟩, rfl, Int.natCast_nonneg _, hlt, rfl, _, hx', ?_⟩
        refine ⟨trivial, rfl, rfl, rfl, by simp, rfl, ?_⟩
        rw [other]
        rw [g3, decide_eq_true g4l, g5]
        have e : 0 + (((p.dropLast.map intV).length : Nat) : Int).toNat = p.dropLast.length := by simp
        show V.tup [V.sl 1 (((to.map intV)).set _ (intV (to.getD p.dropLast.length 0 - 1))), intV n] = landV (to.set p.dropLast.length (to.getD p.dropLast.length 0 - 1), n)
        rw [e, ← List.map_set]
        rfl
      · refine ⟨trivial, rfl, rfl, rfl, ?_⟩
        rw [other, g3, decide_eq_true g4l, g5]
        rfl
    · refine ⟨trivial, rfl, rfl, rfl, ?_⟩
      have g4' := not_lt_of g4
      rw [hlen] at g4'
      simp only [List.length_map] at g4'
      have g4l : ¬ p.dropLast.length < to.length := by omega
      rw [other, g3, decide_eq_false g4l]
      rfl
    · refine ⟨trivial, rfl, rfl, rfl, ?_⟩
      rw [other, g3]
      rfl
  case refine_3 =>
    replace other := other (by rw [g1]; rfl)
    refine go 100 ?_
    show CallThen _ _ _ _ _ _
    refine call_pure (w_pathWithin p.dropLast to hq) rfl ?_
    rintro z rfl
    refine ⟨fun g3 => go 100 ⟨fun g4 => go 100 ?_, fun g4 => go 100 ?_⟩, fun g3 => go 100 ?_⟩
    · have g4' := lt_of g4
      rw [hlen] at g4'
      simp only [List.length_map] at g4'
      have g4l : p.dropLast.length < to.length := by omega
      have hx : (to.map intV)[(((p.dropLast.map intV).length : Nat) : Int).toNat]? = some (intV (to.getD p.dropLast.length 0)) := by
        have e : (((p.dropLast.map intV).length : Nat) : Int).toNat = p.dropLast.length := by simp
        rw [e, List.getElem?_map, List.getElem?_eq_getElem g4l, List.getD_eq_getElem?_getD, List.getElem?_eq_getElem g4l]
        rfl
      refine ⟨Int.natCast_nonneg _, _, hx, ?_⟩
      refine ⟨fun g5 => go 100 ?_, fun g5 => go 100 ?_⟩
      · show CallThen _ _ _ _ _ _
        refine call_sub [] (w_CloneInt (to.map intV) (by simpa using ht)) rfl rfl trivial rfl rfl rfl ?_
        rintro z T1 (⟨e, _⟩ | ⟨rfl, rfl⟩)
        · have := congrArg List.length e
          simp at this
          subst this
          simp at g4l
        refine ⟨rfl, ?_⟩
        have hx' : (to.map intV)[0 + (((p.dropLast.map intV).length : Nat) : Int).toNat]? = some (intV (to.getD p.dropLast.length 0)) := by rw [Nat.zero_add]; exact hx
        have hlt : (((p.dropLast.map intV).length : Nat) : Int) < ((to.map intV).length : Nat) := by simp; simp at g4l; omega
        have hr' := hr (to.getD p.dropLast.length 0) (by rw [List.getD_eq_getElem?_getD, List.getElem?_eq_getElem g4l]; exact List.getElem_mem g4l)
        have g5' := lt_of g5
        obtain ⟨r1, r2⟩ := hr'
        refine ⟨rfl, Int.natCast_nonneg _, hlt, rfl, _, hx', ⟨by omega, by omega⟩, rfl, Int.natCast_nonneg _, hlt, rfl, _, hx', ?_⟩
        refine ⟨trivial, rfl, rfl, rfl, by simp, rfl, ?_⟩
        rw [other]
        rw [g3, decide_eq_true g4l, g5]
        have e : 0 + (((p.dropLast.map intV).length : Nat) : Int).toNat = p.dropLast.length := by simp
        show V.tup [V.sl 1 (((to.map intV)).set _ (intV (to.getD p.dropLast.length 0 - 1))), intV n] = landV (to.set p.dropLast.length (to.getD p.dropLast.length 0 - 1), n)
        rw [e, ← List.map_set]
        rfl
      · refine ⟨trivial, rfl, rfl, rfl, ?_⟩
        rw [other, g3, decide_eq_true g4l, g5]
        rfl
    · refine ⟨trivial, rfl, rfl, rfl, ?_⟩
      have g4' := not_lt_of g4
      rw [hlen] at g4'
      simp only [List.length_map] at g4'
      have g4l : ¬ p.dropLast.length < to.length := by omega
      rw [other, g3, decide_eq_false g4l]
      rfl
    · refine ⟨trivial, rfl, rfl, rfl, ?_⟩
      rw [other, g3]
      rfl
end Bow
/- W21: right trees. -/
namespace Bow
open Go Go.Proofs

set_option maxRecDepth 100000 in
theorem w_rightN (t : Tree) (h : t.weight ≤ 1000000) : Pure Tryz.prog 109 [nodeV t] (fun x => x = .bool (rightN t)) := by
  have hw := weight_eq t
  refine pure_wk (pure_fn 300 Tryz.func109 rfl rfl rfl fun B => ?_)
  repeat' first
    | (refine ⟨fun _ => go 300 ?_, fun _ => go 300 ?_⟩)
    | (refine ⟨trivial, rfl, rfl, rfl, leaf_ff ?_⟩)
    | (show Goes _ _ _ _
       suffices hr : rightN t = attrsOk none t.attrs by
         refine goes_iter (ι := Nat) (fun i => i ≤ t.attrs.length ∧ attrsOk (prevK t.attrs i) (t.attrs.drop i) = rightN t) (fun i => t.attrs.length - i) (fun i => [(32, .int .i64 i), (31, .int .i64 (t.attrs.map attrV).length), (30, .sl 2 (t.attrs.map attrV)), (1, .ptr (.loc 0) 0)]) (fun i => [some (.box (nodeV t).cells)]) 0 300 (fun _ => rfl) (fun _ => rfl) ⟨⟨Nat.zero_le _, hr.symm⟩, ⟨⟨rfl, rfl⟩, ⟨rfl, rfl⟩, ⟨rfl, rfl⟩, ⟨rfl, rfl⟩, trivial⟩, ⟨⟨rfl, rfl⟩, trivial⟩⟩ ?_
         rintro i ⟨k1, k2⟩ next
         refine ⟨fun hlt => go 300 ?_, fun hge => go 300 ?_⟩
         · have hi : i < t.attrs.length := by simpa using hlt
           have hx : (t.attrs.map attrV)[i]? = some (attrV t.attrs[i]) := by simp [hi]
           rw [attrs_at hi] at k2
           unfold attrOk at k2
           have cont : keyOk t.attrs[i].1 = true → decide ((t.attrs[i].2.length : Int) ≤ 256) = true → ordOk (prevK t.attrs i) t.attrs[i].1 = true → attrsOk (prevK t.attrs (i + 1)) (t.attrs.drop (i + 1)) = rightN t := fun a b c => by rw [a, b, c] at k2; simpa using k2
           have stop1 : keyOk t.attrs[i].1 = false → rightN t = false := fun a => by rw [← k2, a]; rfl
           have stop2 : decide ((t.attrs[i].2.length : Int) ≤ 256) = false → rightN t = false := fun a => by rw [← k2, a]; simp
           have stop3 : ordOk (prevK t.attrs i) t.attrs[i].1 = false → rightN t = false := fun a => by rw [← k2, a]; simp
           refine ⟨Int.natCast_nonneg i, _, hx, ?_⟩
           show Goes _ _ _ _
           refine goes_draw 300 ⟨_, w_Key t.attrs[i].1, rfl, ⟨fun q1 => ?_, fun q1 => ⟨fun q2 => ?_, fun q2 => ⟨fun q3 => ?_, fun q3 => ?_⟩⟩⟩⟩
           · refine ⟨by kernel_rfl, ?_⟩
             exact ⟨trivial, rfl, rfl, rfl, leaf_ff (stop1 (by simpa using q1))⟩
           · refine ⟨by kernel_rfl, ?_⟩
             exact ⟨trivial, rfl, rfl, rfl, leaf_ff (stop2 (by have := lt_of q2; simp; omega))⟩
           · have q3' : 0 < i := by have := lt_of q3; omega
             have hx' : (t.attrs.map attrV)[((i : Int) - 1).toNat]? = some (attrV t.attrs[i - 1]) := by
               have : ((i : Int) - 1).toNat = i - 1 := by omega
               rw [this]
               simp [show i - 1 < t.attrs.length by omega]
             have hp : prevK t.attrs i = some t.attrs[i - 1].1 := by
               obtain ⟨j, rfl⟩ : ∃ j, i = j + 1 := ⟨i - 1, by omega⟩
               rw [prevK, List.getD_eq_getElem?_getD, List.getElem?_eq_getElem (by omega)]
               rfl
             rw [hp] at cont stop3
             refine ⟨⟨by omega, by omega⟩, by omega, _, hx', ?_⟩
             refine ⟨by kernel_rfl, ?_⟩
             refine ⟨fun q4 => go 300 ?_, fun q4 => go 300 ?_⟩
             · exact ⟨trivial, rfl, rfl, rfl, leaf_ff (stop3 (congrArg Bool.not q4))⟩
             · refine ⟨by constructor <;> omega, ?_⟩
               exact next (i + 1) _ _ ⟨⟨hi, cont (by simpa using q1) (by have := not_lt_of q2; simp; omega) (congrArg Bool.not q4)⟩, by omega, ⟨⟨rfl, rfl⟩, ⟨rfl, rfl⟩, ⟨rfl, rfl⟩, ⟨rfl, rfl⟩, trivial⟩, ⟨⟨rfl, rfl⟩, trivial⟩⟩
           · have q3' : i = 0 := by have := not_lt_of q3; omega
             subst q3'
             refine ⟨by kernel_rfl, ?_⟩
             refine ⟨by constructor <;> omega, ?_⟩
             exact next 1 _ _ ⟨⟨hi, cont (by simpa using q1) (by have := not_lt_of q2; simp; omega) rfl⟩, by omega, ⟨⟨rfl, rfl⟩, ⟨rfl, rfl⟩, ⟨rfl, rfl⟩, ⟨rfl, rfl⟩, trivial⟩, ⟨⟨rfl, rfl⟩, trivial⟩⟩
         · have hi : i = t.attrs.length := by have : t.attrs.length ≤ i := by simpa using hge
                                              omega
           subst hi
           rw [List.drop_eq_nil_of_le (Nat.le_refl _), attrsOk] at k2
           exact ⟨trivial, rfl, rfl, rfl, leaf_tt k2.symm⟩)
    | fail
  all_goals (simp_all [rightN, headOk, subV_eq])
def rightUpd (_ : Unit) (p : Int × Tree) : Unit × Option Code := bif rightN p.2 then ((), none) else ((), some .ret)
theorem rightUpd_all : ∀ l : List (Int × Tree), rfold rightUpd () l = bif l.all (fun p => rightN p.2) then ((), none) else ((), some .ret)
  | [] => rfl
  | p :: l => by
    rw [rfold, List.all_cons]
    cases h : rightN p.2 with
    | false => simp [rightUpd, h]
    | true =>
      simp only [rightUpd, h, cond_true, Bool.true_and]
      exact rightUpd_all l

set_option maxRecDepth 100000 in
theorem w_RightT (t : Tree) (h : t.weight ≤ 1000000) : Pure Tryz.prog 56 [nodeV t] (fun x => x = .bool (rightT t)) := by
  have hs := size_le_weight t
  refine pure_wk (pure_fn 100 Tryz.func56 rfl rfl rfl fun B => ?_)
  refine ⟨fun g1 => go 100 ?_, fun g1 => go 100 ?_⟩
  · exact ⟨trivial, rfl, rfl, rfl, leaf_ff (by unfold rightT; rw [g1]; rfl)⟩
  show CallThen _ _ _ _ _ _
  refine call_pure (w_nodes t) rfl ?_
  rintro x rfl
  show Goes _ _ _ _
  refine goes_range (σ := Unit) 100 2 (fun _ => [some (.box (nodeV t).cells), some (.box [.ff])]) rightUpd preV (fun _ l => ∀ p ∈ l, p.2.weight ≤ 1000000) () (t.pre 0) rfl rfl rfl (w_iter t (by omega)) rfl (fun _ => rfl) (fun _ => rfl) (fun _ => rfl) rfl (fun _ => rfl) (fun _ _ h => by cases h) ?_ ?_ ?_
  · exact fun p hp => Nat.le_trans (pre_mem_weight t 0 p hp).1 h
  · intro s a l hI
    refine ⟨fun _ p hp => hI p (List.mem_cons_of_mem _ hp), fun imps B r l h1 h2 => ?_⟩
    have h0 := hI a List.mem_cons_self
    have hr := w_rightN a.2 h0
    show Goes _ _ _ _
    refine goes_beginRound 100 rfl h2 rfl ?_
    show CallThen _ _ _ _ _ _
    refine call_pure hr rfl ?_
    rintro x rfl
    unfold rightUpd
    refine ⟨fun g => go 100 ?_, fun g => go 100 ?_⟩
    · have g : rightN a.2 = false := by simpa using g
      rw [g]
      exact ⟨rfl, rfl, trivial, ⟨rfl, rfl⟩, ⟨rfl, rfl⟩, ⟨rfl, rfl⟩, ⟨rfl, rfl⟩, trivial⟩
    · have g : rightN a.2 = true := by simpa using g
      rw [g]
      exact ⟨rfl, rfl, trivial, ⟨rfl, rfl⟩, ⟨rfl, rfl⟩, ⟨rfl, rfl⟩, ⟨rfl, rfl⟩, trivial⟩
  · rw [rightUpd_all, pre_right]
    cases hr : t.rightA with
    | true => exact ⟨trivial, rfl, rfl, rfl, leaf_tt (by unfold rightT; rw [g1, hr]; rfl)⟩
    | false => exact ⟨trivial, rfl, rfl, rfl, leaf_ff (by unfold rightT; rw [g1, hr]; rfl)⟩
end Bow
/- W22: right trees, in the document's words. -/
namespace Bow
open Go Go.Proofs

theorem rightsA_at {l : List Tree} {i : Nat} (hi : i < l.length) : rightsA (l.drop i) = (l[i].rightA && rightsA (l.drop (i + 1))) := by rw [List.drop_eq_getElem_cons hi, rightsA]

set_option maxRecDepth 100000 in
theorem w_refRightA (t : Tree) : t.weight ≤ 1000000 → Pure Tryz.prog 133 [nodeV t] (fun x => x = .bool t.rightA) := by
  induction t using Tree.ind with
  | _ t ih =>
  intro h
  have hw := weight_eq t
  refine pure_wk (pure_fn 300 Tryz.func133 rfl rfl rfl fun B => ?_)
  have hA := rightA_eq t
  have no : rightN t = false → t.rightA = false := fun e => by rw [hA, e]; rfl
  repeat' first
    | (refine ⟨fun _ => go 300 ?_, fun _ => go 300 ?_⟩)
    | (refine ⟨trivial, rfl, rfl, rfl, leaf_ff ?_⟩)
    | (show Goes _ _ _ _
       suffices hr : rightN t = attrsOk none t.attrs by
         refine goes_while (ι := Nat) (fun i => i ≤ t.attrs.length ∧ attrsOk (prevK t.attrs i) (t.attrs.drop i) = rightN t) (fun i => t.attrs.length - i) (fun i => [(3, .int .i64 i), (1, .ptr (.loc 0) 0)]) (fun i => [some (.box (nodeV t).cells)]) 0
           (fun _ : Unit => rightN t = true) (fun _ => [(1, .ptr (.loc 0) 0)]) (fun _ => [some (.box (nodeV t).cells)]) 300 (fun _ => rfl) (fun _ => rfl) (fun _ => rfl) (fun _ => rfl) ⟨⟨Nat.zero_le _, hr.symm⟩, ⟨⟨rfl, rfl⟩, ⟨rfl, rfl⟩, trivial⟩, ⟨⟨rfl, rfl⟩, trivial⟩⟩ ?_ ?_
         · rintro ⟨⟩ hN
           show Goes _ _ _ _
           refine goes_iter (ι := Nat) (fun i => i ≤ t.subs.length ∧ rightsA (t.subs.drop i) = rightsA t.subs) (fun i => t.subs.length - i) (fun i => [(4, .int .i64 i), (1, .ptr (.loc 0) 0)]) (fun i => [some (.box (nodeV t).cells)]) 0 300 (fun _ => rfl) (fun _ => rfl) ⟨⟨Nat.zero_le _, rfl⟩, ⟨⟨rfl, rfl⟩, ⟨rfl, rfl⟩, trivial⟩, ⟨⟨rfl, rfl⟩, trivial⟩⟩ ?_
           rintro i ⟨k1, k2⟩ next
           refine ⟨fun hlt => go 300 ?_, fun hge => go 300 ?_⟩
           · have hi : i < t.subs.length := by simpa [subV_eq] using hlt
             have hmem : t.subs[i] ∈ t.subs := List.getElem_mem hi
             have hws := weight_sub hmem
             have hsl := subs_le_weight t
             rw [rightsA_at hi] at k2
             refine ⟨Int.natCast_nonneg i, nodeV t.subs[i], by simp [subV_eq, hi], ?_⟩
             show CallThen _ _ _ _ _ _
             refine call_pure (ih _ hmem (by omega)) rfl ?_
             rintro x rfl
             refine ⟨fun g => go 300 ?_, fun g => go 300 ?_⟩
             · have g : (t.subs[i]).rightA = false := by simpa using g
               exact ⟨trivial, rfl, rfl, rfl, leaf_ff (by rw [hA, ← k2, g]; simp)⟩
             · have g : (t.subs[i]).rightA = true := by simpa using g
               rw [g, Bool.true_and] at k2
               refine ⟨by constructor <;> omega, ?_⟩
               exact next (i + 1) _ _ ⟨⟨hi, k2⟩, by omega, ⟨⟨rfl, rfl⟩, ⟨rfl, rfl⟩, trivial⟩, ⟨⟨rfl, rfl⟩, trivial⟩⟩
           · have hi : t.subs.length ≤ i := by simpa [subV_eq] using hge
             rw [List.drop_eq_nil_of_le hi, rightsA] at k2
             exact ⟨trivial, rfl, rfl, rfl, leaf_tt (by rw [hA, hN, ← k2]; rfl)⟩
         · rintro i ⟨k1, k2⟩ next post
           refine ⟨fun hlt => go 300 ?_, fun hge => go 300 ?_⟩
           · have hi : i < t.attrs.length := by simpa using hlt
             have hx : (t.attrs.map attrV)[i]? = some (attrV t.attrs[i]) := by simp [hi]
             rw [attrs_at hi] at k2
             unfold attrOk at k2
             have cont : keyOk t.attrs[i].1 = true → decide ((t.attrs[i].2.length : Int) ≤ 256) = true → ordOk (prevK t.attrs i) t.attrs[i].1 = true → attrsOk (prevK t.attrs (i + 1)) (t.attrs.drop (i + 1)) = rightN t := fun a b c => by rw [a, b, c] at k2; simpa using k2
             have stop1 : keyOk t.attrs[i].1 = false → rightN t = false := fun a => by rw [← k2, a]; rfl
             have stop2 : decide ((t.attrs[i].2.length : Int) ≤ 256) = false → rightN t = false := fun a => by rw [← k2, a]; simp
             have stop3 : ordOk (prevK t.attrs i) t.attrs[i].1 = false → rightN t = false := fun a => by rw [← k2, a]; simp
             show Goes _ _ _ _
             refine goes_draw 300 ⟨Int.natCast_nonneg i, _, hx, _, w_refKey t.attrs[i].1, rfl, ⟨fun q1 => ?_, fun q1 => ⟨Int.natCast_nonneg i, _, hx, ⟨fun q2 => ?_, fun q2 => ⟨fun q3 => ?_, fun q3 => ?_⟩⟩⟩⟩⟩
             · refine ⟨by kernel_rfl, ?_⟩
               exact ⟨trivial, rfl, rfl, rfl, leaf_ff (no (stop1 (by simpa using q1)))⟩
             · refine ⟨by kernel_rfl, ?_⟩
               exact ⟨trivial, rfl, rfl, rfl, leaf_ff (no (stop2 (by have := lt_of q2; simp; omega)))⟩
             · have q3' : 0 < i := by have := lt_of q3; omega
               have hx' : (t.attrs.map attrV)[((i : Int) - 1).toNat]? = some (attrV t.attrs[i - 1]) := by
                 have : ((i : Int) - 1).toNat = i - 1 := by omega
                 rw [this]
                 simp [show i - 1 < t.attrs.length by omega]
               have hp : prevK t.attrs i = some t.attrs[i - 1].1 := by
                 obtain ⟨j, rfl⟩ : ∃ j, i = j + 1 := ⟨i - 1, by omega⟩
                 rw [prevK, List.getD_eq_getElem?_getD, List.getElem?_eq_getElem (by omega)]
                 rfl
               rw [hp] at cont stop3
               refine ⟨Int.natCast_nonneg i, _, hx, ⟨by omega, by omega⟩, by omega, _, hx', ?_⟩
               refine ⟨by kernel_rfl, ?_⟩
               refine ⟨fun q4 => go 300 ?_, fun q4 => go 300 ?_⟩
               · exact ⟨trivial, rfl, rfl, rfl, leaf_ff (no (stop3 (congrArg Bool.not q4)))⟩
               · refine ⟨by constructor <;> omega, ?_⟩
                 exact next (i + 1) _ _ ⟨⟨hi, cont (by simpa using q1) (by have := not_lt_of q2; simp; omega) (congrArg Bool.not q4)⟩, by omega, ⟨⟨rfl, rfl⟩, ⟨rfl, rfl⟩, trivial⟩, ⟨⟨rfl, rfl⟩, trivial⟩⟩
             · have q3' : i = 0 := by have := not_lt_of q3; omega
               subst q3'
               refine ⟨by kernel_rfl, ?_⟩
               refine ⟨by constructor <;> omega, ?_⟩
               exact next 1 _ _ ⟨⟨hi, cont (by simpa using q1) (by have := not_lt_of q2; simp; omega) rfl⟩, by omega, ⟨⟨rfl, rfl⟩, ⟨rfl, rfl⟩, trivial⟩, ⟨⟨rfl, rfl⟩, trivial⟩⟩
           · have hi : i = t.attrs.length := by have : t.attrs.length ≤ i := by simpa using hge
                                                omega
             subst hi
             rw [List.drop_eq_nil_of_le (Nat.le_refl _), attrsOk] at k2
             exact post () _ _ _ rfl ⟨k2.symm, ⟨⟨rfl, rfl⟩, trivial⟩, ⟨⟨rfl, rfl⟩, trivial⟩⟩)
    | fail
  all_goals (first | refine no ?_ | skip)
  all_goals (simp_all [rightN, headOk, subV_eq])

theorem w_refRightT (t : Tree) (h : t.weight ≤ 1000000) : Pure Tryz.prog 75 [nodeV t] (fun x => x = .bool (rightT t)) := by
  refine pure_wk (pure_fn 100 Tryz.func75 rfl rfl rfl fun B => ?_)
  refine ⟨fun g1 => go 100 ?_, fun g1 => go 100 ?_⟩
  · show CallThen _ _ _ _ _ _
    refine call_pure (w_refRightA t h) rfl ?_
    rintro x rfl
    refine ⟨trivial, rfl, rfl, rfl, leaf_b ?_⟩
    unfold rightT
    rw [g1]
    rfl
  · refine ⟨trivial, rfl, rfl, rfl, leaf_ff ?_⟩
    unfold rightT
    rw [g1]
    rfl
end Bow
/- W23: edits of a text, in the document's words. -/
namespace Bow
open Go Go.Proofs

set_option maxRecDepth 100000 in
theorem w_extent (l : List PieceT) (hl : l.length ≤ 4096) (hok : ∀ p ∈ l, p.Ok) : Pure Tryz.prog 190 [piecesV l] (fun x => x = .int .i64 (extentP l)) := by
  refine pure_fn 100 Tryz.func190 rfl rfl rfl fun B => ?_
  show Goes _ _ _ _
  refine goes_iter (ι := Nat × Int) (fun i => i.1 ≤ l.length ∧ 0 ≤ i.2 ∧ i.2 + extentP (l.drop i.1) = extentP l) (fun i => l.length - i.1) (fun i => [(8, .int .i64 i.1), (7, .int .i64 (l.map pieceV).length), (6, piecesV l), (3, .int .i64 i.2)]) (fun _ => []) (0, 0) 100 (fun _ => rfl) (fun _ => rfl) ⟨⟨Nat.zero_le _, Int.le_refl _, by simp⟩, ⟨⟨rfl, rfl⟩, ⟨rfl, rfl⟩, ⟨rfl, rfl⟩, ⟨rfl, rfl⟩, trivial⟩, trivial⟩ ?_
  rintro ⟨i, n⟩ ⟨k1, k2, k3⟩ next
  simp only at k1 k2 k3
  have hle := extentP_le hok
  refine ⟨fun hlt => go 100 ?_, fun hge => go 100 ?_⟩
  · have hi : i < l.length := by simpa using hlt
    have hx : (l.map pieceV)[i]? = some (pieceV l[i]) := by simp [hi]
    have hp := hok l[i] (List.getElem_mem hi)
    have := hp.k0
    have := hp.d0
    have hn := extentP_nonneg (l := l.drop (i + 1)) fun q hq => hok q (List.mem_of_mem_drop hq)
    rw [drop_cons hi, extentP_cons] at k3
    refine ⟨Int.natCast_nonneg i, _, hx, ⟨by omega, by omega⟩, ⟨by omega, by omega⟩, ⟨by omega, by omega⟩, ?_⟩
    exact next (i + 1, n + (l[i].keep + l[i].drop)) _ _ ⟨⟨hi, by simp only; omega, by simp only; omega⟩, by simp only; omega, ⟨⟨rfl, rfl⟩, ⟨rfl, rfl⟩, ⟨rfl, rfl⟩, ⟨rfl, rfl⟩, trivial⟩, trivial⟩
  · have hi : l.length ≤ i := by simpa using hge
    rw [List.drop_eq_nil_of_le hi] at k3
    exact ⟨trivial, rfl, rfl, rfl, by rw [← k3]; simp [extentP]; rfl⟩

set_option maxRecDepth 100000 in
theorem w_refExtent (l : List PieceT) (hl : l.length ≤ 4096) (hok : ∀ p ∈ l, p.Ok) : Pure Tryz.prog 136 [piecesV l] (fun x => x = .int .i64 (extentP l)) := by
  refine pure_fn 100 Tryz.func136 rfl rfl rfl fun B => ?_
  show Goes _ _ _ _
  refine goes_iter (ι := Nat × Int) (fun i => i.1 ≤ l.length ∧ 0 ≤ i.2 ∧ i.2 + extentP (l.drop i.1) = extentP l) (fun i => l.length - i.1) (fun i => [(4, .int .i64 i.1), (0, piecesV l), (3, .int .i64 i.2)]) (fun _ => []) (0, 0) 100 (fun _ => rfl) (fun _ => rfl) ⟨⟨Nat.zero_le _, Int.le_refl _, by simp⟩, ⟨⟨rfl, rfl⟩, ⟨rfl, rfl⟩, ⟨rfl, rfl⟩, trivial⟩, trivial⟩ ?_
  rintro ⟨i, n⟩ ⟨k1, k2, k3⟩ next
  simp only at k1 k2 k3
  have hle := extentP_le hok
  refine ⟨fun hlt => go 100 ?_, fun hge => go 100 ?_⟩
  · have hi : i < l.length := by simpa using hlt
    have hx : (l.map pieceV)[i]? = some (pieceV l[i]) := by simp [hi]
    have hp := hok l[i] (List.getElem_mem hi)
    have := hp.k0
    have := hp.d0
    have hn := extentP_nonneg (l := l.drop (i + 1)) fun q hq => hok q (List.mem_of_mem_drop hq)
    rw [drop_cons hi, extentP_cons] at k3
    show Goes _ _ _ _
    refine goes_draw 100 ⟨Int.natCast_nonneg i, _, hx, ⟨by omega, by omega⟩, Int.natCast_nonneg i, _, hx, ⟨by omega, by omega⟩, ?_⟩
    refine ⟨by kernel_rfl, ?_⟩
    refine ⟨⟨by omega, by omega⟩, ?_⟩
    exact next (i + 1, n + l[i].keep + l[i].drop) _ _ ⟨⟨hi, by simp only; omega, by simp only; omega⟩, by simp only; omega, ⟨⟨rfl, rfl⟩, ⟨rfl, rfl⟩, ⟨rfl, rfl⟩, trivial⟩, trivial⟩
  · have hi : l.length ≤ i := by simpa using hge
    rw [List.drop_eq_nil_of_le hi] at k3
    exact ⟨trivial, rfl, rfl, rfl, by rw [← k3]; simp [extentP]; rfl⟩

set_option maxRecDepth 100000 in
theorem w_refEdit (t : List UInt8) (l : List PieceT) (ht : t.length ≤ 1000000000) (hl : l.length ≤ 1000000) (hpl : ∀ p ∈ l, p.put.length ≤ 1000000000) :
    Pure Tryz.prog 83 [.str t, piecesV l] (fun x => x = strE (applyE t l)) := by
  refine pure_fn 100 Tryz.func83 rfl rfl rfl fun B => ?_
  show CallThen _ _ _ _ _ _
  refine call_pure (w_refRight l hl hpl) rfl ?_
  rintro x rfl
  refine ⟨fun g1 => go 100 ?_, fun g1 => go 100 ?_⟩
  · exact ⟨trivial, rfl, rfl, rfl, by unfold applyE; rw [g1]; rfl⟩
  have hr : rightP l = true := by simpa using g1
  obtain ⟨r1, r2, r3⟩ := rightP_ok hr
  show CallThen _ _ _ _ _ _
  refine call_pure (w_refExtent l r1 r2) rfl ?_
  rintro x rfl
  refine ⟨fun g2 => go 100 ?_, fun g2 => go 100 ?_⟩
  · exact ⟨trivial, rfl, rfl, rfl, by unfold applyE; rw [g1, g2]; rfl⟩
  have g2' := not_lt_of g2
  have hfin : applyE t l = (editP t l, 0) := by unfold applyE; rw [g1, g2]; rfl
  show Goes _ _ _ _
  refine goes_iter (ι := Nat × List UInt8 × List UInt8) (fun i => i.1 ≤ l.length ∧ extentP (l.drop i.1) ≤ i.2.2.length ∧ i.2.1.length + i.2.2.length + putsLen (l.drop i.1) ≤ t.length + putsLen l ∧ i.2.1 ++ editP i.2.2 (l.drop i.1) = editP t l) (fun i => l.length - i.1)
    (fun i => [(7, .int .i64 i.1), (6, .str i.2.1), (0, .str i.2.2), (1, piecesV l)]) (fun _ => []) (0, [], t) 100 (fun _ => rfl) (fun _ => rfl) ⟨⟨Nat.zero_le _, g2', by simp, rfl⟩, ⟨⟨rfl, rfl⟩, ⟨rfl, rfl⟩, ⟨rfl, rfl⟩, ⟨rfl, rfl⟩, trivial⟩, trivial⟩ ?_
  rintro ⟨i, o, u⟩ ⟨k1, k2, k3, k4⟩ next
  simp only at k1 k2 k3 k4
  refine ⟨fun hlt => go 100 ?_, fun hge => go 100 ?_⟩
  · have hi : i < l.length := by simpa using hlt
    have hx : (l.map pieceV)[i]? = some (pieceV l[i]) := by simp [hi]
    have hp := r2 l[i] (List.getElem_mem hi)
    have p1 := hp.k0
    have p2 := hp.d0
    have p3 := hp.k1
    have p4 := hp.d1
    have hn := extentP_nonneg (l := l.drop (i + 1)) fun q hq => r2 q (List.mem_of_mem_drop hq)
    have e : putsLen (l[i] :: l.drop (i + 1)) = l[i].put.length + putsLen (l.drop (i + 1)) := rfl
    rw [drop_cons hi, extentP_cons] at k2
    rw [drop_cons hi, e] at k3
    rw [drop_cons hi, editP] at k4
    have hlen1 : ((u.drop (Int.toNat 0)).take (l[i].keep.toNat - Int.toNat 0)).length = l[i].keep.toNat := by simp; omega
    show Goes _ _ _ _
    refine goes_draw 100 ⟨Int.natCast_nonneg i, _, hx, by decide, p1, by simp only; omega, ?_, Int.natCast_nonneg i, _, hx, ?_, ?_⟩
    · simp only; rw [List.length_append, hlen1]; omega
    · simp only; rw [List.length_append, List.length_append, hlen1]; omega
    refine ⟨by kernel_rfl, ?_⟩
    show Goes _ _ _ _
    refine goes_draw 100 ⟨Int.natCast_nonneg i, _, hx, Int.natCast_nonneg i, _, hx, ⟨by omega, by omega⟩, by omega, by simp only; omega, Int.le_refl _, ?_⟩
    refine ⟨by kernel_rfl, ?_⟩
    refine ⟨⟨by omega, by omega⟩, ?_⟩
    have hlen2 : ((u.drop (l[i].keep + l[i].drop).toNat).take ((u.length : Int).toNat - (l[i].keep + l[i].drop).toNat)) = u.drop (l[i].keep + l[i].drop).toNat := List.take_of_length_le (by simp)
    refine next (i + 1, o ++ (u.drop (Int.toNat 0)).take (l[i].keep.toNat - Int.toNat 0) ++ l[i].put, (u.drop (l[i].keep + l[i].drop).toNat).take ((u.length : Int).toNat - (l[i].keep + l[i].drop).toNat)) _ _ ⟨⟨hi, ?_, ?_, ?_⟩, by simp only; omega, ⟨⟨rfl, rfl⟩, ⟨rfl, rfl⟩, ⟨rfl, rfl⟩, ⟨rfl, rfl⟩, trivial⟩, trivial⟩
    · simp only
      rw [hlen2, List.length_drop]
      omega
    · simp only
      rw [hlen2, List.length_drop, List.length_append, List.length_append, hlen1]
      omega
    · simp only
      rw [hlen2, ← k4]
      simp
  · have hi : l.length ≤ i := by simpa using hge
    rw [List.drop_eq_nil_of_le hi, editP] at k4
    rw [List.drop_eq_nil_of_le hi] at k3
    have e : putsLen [] = 0 := rfl
    rw [e] at k3
    refine ⟨by simp only; rw [List.length_append]; omega, ?_⟩
    exact ⟨trivial, rfl, rfl, rfl, by rw [hfin, ← k4]; rfl⟩
end Bow
/- WB1: strings.Builder's methods at this program: by the kit's own tactics. -/
namespace Bow
open Go Go.Proofs Go.RowKit Go.Shelf

theorem b_size : ((Tryz.prog).info? 160).map (·.size) = some 2 := by kernel_rfl
theorem b_lies : liesAt Tryz.prog Tryz.prog.depth 160 (2 / (Tryz.prog).cellsOf 160) 0 160 1 = true := by kernel_rfl
theorem b_byte : ((Tryz.prog).info? 5).map (fun i => (i.zero, i.size, i.bytes)) = some (some (.int .u8 0), 1, 1) := by kernel_rfl

set_option maxHeartbeats 1000000 in
set_option maxRecDepth 100000 in
theorem b_copyCheck_used (b : Nat) (w : World) (h0 : w.cell? ⟨b, 0, none⟩ = some (.pointer (some ⟨b, 0, none⟩))) :
    Calls Tryz.prog 224 #[.pointer (some ⟨b, 0, none⟩)] w fun e w' => e = .returned (.tuple #[]) ∧ w' = w := by
  obtain ⟨j, hj, _⟩ := Option.map_eq_some_iff.1 b_size
  go_enter Tryz.func224, Tryz.ntmps224
  go_wp2
  rw [Lib.run_neq_ptr_same w _ Tryz.underlying158 hj]
  go_wp2
  go_end0
  exact ⟨rfl, rfl⟩

set_option maxHeartbeats 1000000 in
set_option maxRecDepth 100000 in
theorem b_copyCheck_fresh (b : Nat) (w : World) (h0 : w.cell? ⟨b, 0, none⟩ = some (.pointer none)) (hsh : w.shape? b = some (160, 2)) (hfz : w.frozen? ⟨b, 0, none⟩ = false) :
    Calls Tryz.prog 224 #[.pointer (some ⟨b, 0, none⟩)] w fun e w' => e = .returned (.tuple #[]) ∧ w' = w.setCell ⟨b, 0, none⟩ (.pointer (some ⟨b, 0, none⟩)) := by
  obtain ⟨j, hj, hjs⟩ := Option.map_eq_some_iff.1 b_size
  go_enter Tryz.func224, Tryz.ntmps224
  go_wp2
  rw [Lib.run_to_unsafe w ⟨b, 0, none⟩ Tryz.underlying158 Tryz.underlying220 hj (by rw [hjs]; decide) hsh (Nat.zero_lt_succ 1)]
  simp only [Result.andThen]
  rw [Oper.upon_value]
  go_wp2
  rw [run_callFunc_extern Tryz.func245 (by kernel_rfl) (by kernel_rfl) (by kernel_rfl) (e := Extern.AbiNoEscape.same) (by kernel_rfl)]
  rw [Lib.run_noEscape]
  simp only [Result.andThen]
  rw [Oper.upon_value]
  go_wp2
  rw [Lib.run_from_unsafe w ⟨b, 0, none⟩ Tryz.underlying220 Tryz.underlying158 hj hsh b_lies]
  simp only [Result.andThen]
  rw [Oper.upon_value]
  go_wp2
  go_end0
  exact ⟨rfl, rfl⟩

theorem b_copyCheck (B b : Nat) (bs : List Value) (w : World) (h : Lib.IsBuilderF 160 5 B b bs w) :
    Calls Tryz.prog 224 #[.pointer (some ⟨b, 0, none⟩)] w fun e w' => e = .returned (.tuple #[]) ∧ (Lib.BuilderAtF 160 5 B b (.pointer (some ⟨b, 0, none⟩)) bs w' ∧ Below B w w' ∧ Lib.OthersKept 5 (some b) w w') := by
  rcases h with h | h
  · refine (b_copyCheck_fresh b w h.cell0 h.shape h.frozen0).mono ?_
    rintro e w' ⟨rfl, rfl⟩
    exact ⟨rfl, h.used _, (Below.refl B w).setCell (p := ⟨b, 0, none⟩) h.1 _, (Lib.OthersKept.refl _ _ w).setCell ⟨b, 0, none⟩ rfl _⟩
  · refine (b_copyCheck_used b w h.cell0).mono ?_
    rintro e w' ⟨rfl, rfl⟩
    exact ⟨rfl, h, Below.refl B _, Lib.OthersKept.refl _ _ _⟩

set_option maxHeartbeats 2000000 in
set_option maxRecDepth 100000 in
theorem b_WriteString (B b : Nat) (bs : List Value) (s : ByteArray) (w : World) (h : Lib.IsBuilderF 160 5 B b bs w) (hlen : bs.length + s.size ≤ 140737488355328) (hBw : B ≤ w.heap.size) :
    Calls Tryz.prog 191 #[.pointer (some ⟨b, 0, none⟩), .string s] w fun e w' => e = .returned (.tuple #[.int .i64 s.size, .nilIface]) ∧ (Lib.BuilderAtF 160 5 B b (.pointer (some ⟨b, 0, none⟩)) (bs ++ Lib.strCells s) w' ∧ Below B w w' ∧ Lib.OthersKept 5 (some b) w w') := by
  obtain ⟨i0, hi, hz0, hz1, hz2⟩ := info_parts b_byte
  go_enter Tryz.func191, Tryz.ntmps191
  go_wp2_with (go_at_call 224; refine (b_copyCheck B b bs _ h).mono ?_)
  rintro e w1 ⟨rfl, h1, hb1, hk1⟩
  obtain ⟨hB, v, hbk, hown, hne⟩ := h1
  have c0 : w1.cell? ⟨b, 0, none⟩ = some (.pointer (some ⟨b, 0, none⟩)) := by rw [Lib.cell_of_heap hbk]; rfl
  have c1 : w1.cell? ⟨b, 1, none⟩ = some v := by rw [Lib.cell_of_heap hbk]; rfl
  go_wp2_with (at_builtin; refine Lib.wpList_append_own_stringF _ rfl _ _ 42 9 rfl B 5 i0 Tryz.underlying42 Tryz.underlying9 hi hz0 hz1 hz2 _ _ _ rfl hown s rfl ?c3 ?c4 ?c5 ?_)
  case c3 => unfold maxLen; omega
  case c4 => omega
  case c5 => have := hb1.size; omega
  intro v' w2 hown' hgrow _
  have hlt : b < w1.heap.size := by
    rcases Nat.lt_or_ge b w1.heap.size with h' | h'
    · exact h'
    · simp [Array.getElem?_eq_none h'] at hbk
  have hb2 : w2.heap[b]? = some (.cells #[.pointer (some ⟨b, 0, none⟩), v] 160 (0, 0)) := by
    rw [hgrow.block b hlt (fun e => hne e.symm)]
    exact hbk
  have d0 : w2.cell? ⟨b, 0, none⟩ = some (.pointer (some ⟨b, 0, none⟩)) := by rw [Lib.cell_of_heap hb2]; rfl
  have d1 : w2.cell? ⟨b, 1, none⟩ = some v := by rw [Lib.cell_of_heap hb2]; rfl
  have f1 : w2.frozen? ⟨b, 1, none⟩ = false := Lib.frozen_of_heap hb2 1
  obtain ⟨ao, n', cap, rfl⟩ : ∃ ao n' cap, v' = .slice ao n' cap := by
    rcases hown'.2 with ⟨hv, _⟩ | ⟨g, cap, cur, fz, hv, _⟩
    · exact ⟨_, _, _, hv⟩
    · exact ⟨_, _, _, hv⟩
  go_wp2
  go_ret2
  refine ⟨rfl, ?_, ?_, (hk1.grown hgrow (Lib.ownsRowF_kind hown)).setCell ⟨b, 1, none⟩ rfl _⟩
  · exact Lib.BuilderAtF.put (T := 160) (e := 5) hB hb2 (bs' := bs ++ Lib.strCells s) (by simpa [Lib.strCells_length] using hown') (by decide)
  · exact (hb1.grown hgrow (by have := hb1.size; omega) (fun k hk => (hown.lt k hk).1)).setCell (p := ⟨b, 1, none⟩) hB _

def bRen : Ren where
  f := fun | 169 => 192 | n => n
  t := fun | 0 => 0 | 3 => 3 | 9 => 9 | 37 => 42 | 70 => 158 | 72 => 160 | 127 => 192 | 5 => 5 | n => n
  g := fun n => n
theorem bLays : Lays.n169 Tryz.prog bRen := {
  mixed := by kernel_rfl
  f169 := Tryz.func192.trans (congrArg some (by kernel_rfl))
  t0 := Tryz.underlying0
  a0 := Tryz.isAgg0
  z0 := Tryz.sizeOf0
  v0 := Tryz.zeroValue0
  t3 := Tryz.underlying3
  a3 := Tryz.isAgg3
  z3 := Tryz.sizeOf3
  v3 := Tryz.zeroValue3
  t9 := Tryz.underlying9
  a9 := Tryz.isAgg9
  z9 := Tryz.sizeOf9
  v9 := Tryz.zeroValue9
  t37 := Tryz.underlying42
  a37 := Tryz.isAgg42
  z37 := Tryz.sizeOf42
  v37 := Tryz.zeroValue42
  t70 := Tryz.underlying158
  a70 := Tryz.isAgg158
  z70 := Tryz.sizeOf158
  v70 := Tryz.zeroValue158
  t72 := Tryz.underlying160
  a72 := Tryz.isAgg160
  z72 := Tryz.sizeOf160
  v72 := Tryz.zeroValue160
  t127 := Tryz.underlying192
  a127 := Tryz.isAgg192
  z127 := Tryz.sizeOf192
  v127 := Tryz.zeroValue192
}
theorem bExtra : Builder.Extra Tryz.prog bRen := {
  sizeBuilder := by kernel_rfl
  liesBuilder := by kernel_rfl
  t5 := Tryz.underlying5
  a5 := Tryz.isAgg5
  z5 := Tryz.sizeOf5
  v5 := Tryz.zeroValue5
  infoByte := by kernel_rfl
  cellsByte := by kernel_rfl
  sizeByte := by kernel_rfl
  neB5 := by decide
}
theorem b_String (B b : Nat) (l : List UInt8) (w : World) (h : Lib.IsBuilderF 160 5 B b (Lib.byteCells l) w) (hBw : B ≤ w.heap.size) :
    Calls Tryz.prog 192 #[.pointer (some ⟨b, 0, none⟩)] w fun e w' => e = .returned (.string ⟨l.toArray⟩) ∧ (Lib.IsBuilderF 160 5 B b (Lib.byteCells l) w' ∧ Below B w w' ∧ Lib.OthersKept 5 (some b) w w') :=
  Any.Builder_String_any_k bLays bExtra B b l w h hBw
end Bow
/- W24: leaftext.Apply, by the kit's own tactics. -/
namespace Bow
open Go Go.Proofs Go.RowKit

theorem pieces_flat (l : List PieceT) : ∀ x ∈ l.map pieceV, flatL x.cells = true := by
  intro x hx
  obtain ⟨p, _, rfl⟩ := List.mem_map.1 hx
  rfl

theorem c_right (l : List PieceT) (hl : l.length ≤ 1000000) (hpl : ∀ p ∈ l, p.put.length ≤ 1000000000) (v : Value) (w : World) (h : Rep w β0 [] (piecesV l) v) :
    Calls Tryz.prog 113 #[v] w fun e w' => e = .returned (.bool (rightP l)) ∧ Below w.heap.size w w' := by
  refine calls_of_pureQ (β := β0) (H := []) (w_Right l hl hpl) (fun x u w' β' H' hx hu => ?_) rfl rfl ?_
  · subst hx
    exact rep_bool (m := []) hu
  · intro j x u hj hu
    cases j with
    | zero => simp at hj hu; subst hj hu; exact h
    | succ j => simp at hj
theorem c_extent (l : List PieceT) (hl : l.length ≤ 4096) (hok : ∀ p ∈ l, p.Ok) (v : Value) (w : World) (h : Rep w β0 [] (piecesV l) v) :
    Calls Tryz.prog 190 #[v] w fun e w' => e = .returned (.int .i64 (extentP l)) ∧ Below w.heap.size w w' := by
  refine calls_of_pureQ (β := β0) (H := []) (w_extent l hl hok) (fun x u w' β' H' hx hu => ?_) rfl rfl ?_
  · subst hx
    exact rep_int (m := []) hu
  · intro j x u hj hu
    cases j with
    | zero => simp at hj hu; subst hj hu; exact h
    | succ j => simp at hj

theorem rep_below {w w' : World} {x : V} {v : Value} (h : Rep w β0 [] x v) (hb : Below w.heap.size w w') : Rep w' β0 [] x v := h.mono (Fr.of_below hb)

theorem ba_of (x : ByteArray) (y : List UInt8) (h : x.data.toList = y) : x = ⟨y.toArray⟩ := by
  obtain ⟨⟨l⟩⟩ := x
  subst h
  rfl
theorem hidU {p : Prop} (h : p) : Hid p := h

set_option maxHeartbeats 4000000 in
set_option maxRecDepth 1000000 in
theorem edit_walk (S : ByteArray) (l : List PieceT) (ht : S.size ≤ 1000000000) (hl : l.length ≤ 1000000) (hpl : ∀ p ∈ l, p.put.length ≤ 1000000000) (ao : Option Addr) (cap : Nat) (w : World) (hrep : Rep w β0 [] (piecesV l) (.slice ao l.length cap)) :
    Calls Tryz.prog 148 #[.string S, .slice ao l.length cap] w fun e w' => e = .returned (.tuple #[.string ⟨(applyE S.data.toList l).1.toArray⟩, .int .i64 (applyE S.data.toList l).2]) ∧ Below w.heap.size w w' := by
  go_enter Tryz.func148, Tryz.ntmps148
  have cR := c_right l hl hpl _ w hrep
  go_wp2_with (go_at_call 113; refine cR.mono ?_)
  rintro e w1 ⟨rfl, hb1⟩
  clear cR
  cases hr : rightP l with
  | false =>
    go_wp2
    go_ret2
    refine ⟨?_, hb1⟩
    unfold applyE
    rw [hr]
    rfl
  | true =>
    obtain ⟨r1, r2, r3⟩ := rightP_ok hr
    have cE := c_extent l r1 r2 _ w1 (rep_below hrep hb1)
    go_wp2_with (go_at_call 190; refine cE.mono ?_)
    rintro e w2 ⟨rfl, hb2⟩
    clear cE
    have hb12 : Below w.heap.size w w2 := hb1.trans (hb2.mono hb1.size)
    by_cases hx : (S.size : Int) < extentP l
    · go_wp2
      go_ret2
      refine ⟨?_, hb12⟩
      unfold applyE
      rw [hr, decide_eq_true (by simpa using hx)]
      rfl
    · go_wp2
      go_loopw [0, 21] (fun text i wr => ∃ (k : Nat) (T acc : List UInt8), k ≤ l.length ∧ text = .string ⟨T.toArray⟩ ∧ i = .int .i64 k ∧ Lib.IsBuilderF 160 5 w2.heap.size w2.heap.size (Lib.byteCells acc) wr ∧ Below w2.heap.size w2 wr ∧ acc ++ editP T (l.drop k) = editP S.data.toList l ∧ extentP (l.drop k) ≤ T.length ∧ acc.length + T.length + putsLen (l.drop k) ≤ S.data.toList.length + putsLen l) (fun _ i _ => l.length - (intOf i).toNat)
      case atStart =>
        refine ⟨0, S.data.toList, [], Nat.zero_le _, rfl, rfl, Lib.IsBuilderF.of (Lib.fresh_isBuilder _ _ w2), (Below.refl _ _).alloc (Nat.le_refl _) _, rfl, ?_, ?_⟩
        · simpa using hx
        · simp
      case round =>
        obtain ⟨k, T, acc, hk, rfl, rfl, hI, hbw, hacc, hext, hsz⟩ := hrel
        by_cases hlt : k < l.length
        · obtain ⟨a, cap', hv, hcap, hmax, hc⟩ := sl_cells (rep_below (rep_below hrep hb12) hbw)
          obtain ⟨e1, e2, e3⟩ : ao = a ∧ l.length = (l.map pieceV).length ∧ cap = cap' := by injection hv with e1 e2 e3; exact ⟨e1, e2, e3⟩
          obtain ⟨ad, rfl, hblk, hc⟩ := hc (by intro h; simp at h; subst h; simp at hlt)
          subst e1
          have hg : (l.map pieceV)[k]? = some (pieceV l[k]) := by simp [hlt]
          obtain ⟨u0, h0, q0⟩ := hc k _ 0 _ hg rfl
          obtain ⟨u1, h1, q1⟩ := hc k _ 1 _ hg rfl
          obtain ⟨u2, h2, q2⟩ := hc k _ 2 _ hg rfl
          cases rep_int (m := []) q0
          cases rep_int (m := []) q1
          obtain ⟨q2, hput⟩ := rep_str (m := []) q2
          subst q2
          rw [← add_add'] at h1 h2
          have h0 : wr.cell? (ad.add (k * 3)) = some (.int .i64 l[k].keep) := h0
          have h1 : wr.cell? ⟨(ad.add (k * 3)).block, (ad.add (k * 3)).off + 1, none⟩ = some (.int .i64 l[k].drop) := h1
          have h2 : wr.cell? ⟨(ad.add (k * 3)).block, (ad.add (k * 3)).off + 2, none⟩ = some (.string ⟨l[k].put.toArray⟩) := h2
          clear q0 q1 hc hg hcap hmax hv e2 e3
          have hd : l.drop k = l[k] :: l.drop (k + 1) := drop_cons hlt
          have hok := r2 l[k] (List.getElem_mem hlt)
          have k0 := hok.k0; have k1 := hok.k1; have d0 := hok.d0; have d1 := hok.d1
          have hen : 0 ≤ extentP (l.drop (k + 1)) := extentP_nonneg fun q hq => r2 q (List.mem_of_mem_drop hq)
          rw [hd, extentP_cons] at hext
          have hpt : putsLen (l[k] :: l.drop (k + 1)) = l[k].put.length + putsLen (l.drop (k + 1)) := rfl
          rw [hd, hpt] at hsz
          rw [hd] at hacc
          have hacc := hidU hacc
          have hN := hidU hsz
          clear hsz
          obtain ⟨p, hp⟩ : ∃ p, l[k] = p := ⟨_, rfl⟩
          simp only [hp] at *
          have hsT : (⟨T.toArray⟩ : ByteArray).size = T.length := by simp [ByteArray.size]
          have hI1 := Lib.IsBuilderF.alloc hI (.cells #[.int .i64 p.keep, .int .i64 p.drop, .string ⟨p.put.toArray⟩] 37)
          have hw1 : Below w2.heap.size w2 (wr.alloc (.cells #[.int .i64 p.keep, .int .i64 p.drop, .string ⟨p.put.toArray⟩] 37)) := hbw.alloc hbw.size _
          have hbl : w2.heap.size < wr.heap.size := by
            have : ∀ q, Lib.BuilderAtF 160 5 w2.heap.size w2.heap.size q (Lib.byteCells acc) wr → w2.heap.size < wr.heap.size := by
              rintro q ⟨_, v, hbk, _⟩
              exact (Array.getElem?_eq_some_iff.1 hbk).1
            rcases hI with h | h
            · exact this _ h
            · exact this _ h
          have hbox : (wr.alloc (.cells #[.int .i64 p.keep, .int .i64 p.drop, .string ⟨p.put.toArray⟩] 37)).heap[wr.heap.size]? = some (.cells #[.int .i64 p.keep, .int .i64 p.drop, .string ⟨p.put.toArray⟩] 37 (0, 0)) := heap_alloc_new wr _
          have hne : ∀ (c : Array Value) (fz : Nat × Nat), (Obj.cells #[.int .i64 p.keep, .int .i64 p.drop, .string ⟨p.put.toArray⟩] 37 (0, 0)) ≠ Obj.cells c 5 fz := fun c fz h => by
            injection h with h1 h2 h3
            exact absurd h2 (by decide)
          have hne := hidU hne
          have hI1 := hidU hI1
          have hN2 := hN.out
          have hx1 : (ByteArray.extract ⟨T.toArray⟩ 0 p.keep.toNat).data.toList = T.take p.keep.toNat := by rw [Lib.extract_data]; simp
          have hx1s : (ByteArray.extract ⟨T.toArray⟩ 0 p.keep.toNat).size = p.keep.toNat := by
            rw [Lib.size_eq, hx1, List.length_take]
            omega
          have hsz' : S.data.toList.length + putsLen l ≤ 1000000000 + 1048576 := by rw [← Lib.size_eq]; omega
          have hsz'' : acc.length + (T.length + (p.put.length + putsLen (l.drop (k + 1)))) ≤ 1000000000 + 1048576 := by omega
          have hsz'' := hidU hsz''
          clear hN2 hsz'
          go_wp2_with fail
          refine (b_WriteString w2.heap.size w2.heap.size _ _ _ hI1.out (by rw [Lib.byteCells_length, hx1s]; have := hsz''.out; omega) (Nat.le_trans (Nat.le_of_lt hbl) (by simp))).mono ?_
          rintro e W1 ⟨rfl, hA1, b1, q1⟩
          have hbox1 := q1 _ _ hbox (by simp; omega) hne.out
          have c2 : W1.cell? ⟨wr.heap.size, 2, none⟩ = some (.string ⟨p.put.toArray⟩) := by rw [Lib.cell_of_heap hbox1]; rfl
          have hsz1 : w2.heap.size ≤ W1.heap.size := Nat.le_trans hw1.size b1.size
          have hA1 : Lib.IsBuilderF 160 5 w2.heap.size w2.heap.size _ W1 := .inr hA1
          have hA1 := hidU hA1
          have hbox1 := hidU hbox1
          have hq : Below w2.heap.size w2 W1 := hw1.trans b1
          clear b1 q1 hw1 hbox
          go_wp2_with fail
          refine (b_WriteString w2.heap.size w2.heap.size _ _ _ hA1.out (by rw [List.length_append, Lib.byteCells_length, Lib.strCells_eq, Lib.byteCells_length, hx1, List.length_take, Lib.size_eq]; have := hsz''.out; simp only []; omega) hsz1).mono ?_
          rintro e W2 ⟨rfl, hA2, b2, q2⟩
          have hbox2 := q2 _ _ hbox1.out (by simp; omega) hne.out
          have c3 : W2.cell? ⟨wr.heap.size, 0, none⟩ = some (.int .i64 p.keep) := by rw [Lib.cell_of_heap hbox2]; rfl
          have c4 : W2.cell? ⟨wr.heap.size, 1, none⟩ = some (.int .i64 p.drop) := by rw [Lib.cell_of_heap hbox2]; rfl
          have hA2 : Lib.IsBuilderF 160 5 w2.heap.size w2.heap.size _ W2 := .inr hA2
          have hA2 := hidU hA2
          have hq2 : Below w2.heap.size w2 W2 := hq.trans b2
          clear b2 q2 hbox2 c2
          go_wp2_with fail
          refine ⟨⟨k + 1, T.drop (p.keep + p.drop).toNat, acc ++ T.take p.keep.toNat ++ p.put, hlt, ?_, rfl, ?_, hq2, ?_, ?_, ?_⟩, ?_⟩
          · congr 1
            refine ba_of _ _ ?_
            rw [Lib.extract_data]
            exact List.take_of_length_le (by simp)
          · have := hA2.out
            rw [Lib.strCells_eq, Lib.strCells_eq, hx1, ← Lib.byteCells_append, ← Lib.byteCells_append] at this
            exact this
          · rw [← hacc.out]
            show _ = acc ++ editP T (p :: l.drop (k + 1))
            rw [editP]
            simp only [List.append_assoc]
          · rw [List.length_drop]
            omega
          · have := hN.out
            simp only [List.length_append, List.length_take, List.length_drop]
            omega
          · show l.length - (k + 1 : Int).toNat < l.length - (k : Int).toNat
            omega
        · have hke : k = l.length := by omega
          have hd : l.drop k = [] := List.drop_eq_nil_of_le (by omega)
          rw [hd] at hacc hsz hext
          have hacc : acc ++ T = editP S.data.toList l := hacc
          have hsz : acc.length + T.length + 0 ≤ S.data.toList.length + putsLen l := hsz
          have hS : S.data.toList.length ≤ 1000000000 := by rw [← Lib.size_eq]; omega
          have hI := hidU hI
          have hacc := hidU hacc
          have hN : Hid (acc.length + T.length ≤ 1000000000 + 1048576) := hidU (by omega)
          clear hsz hext hS
          go_wp2_with fail
          refine (b_WriteString w2.heap.size w2.heap.size _ _ _ hI.out (by rw [Lib.byteCells_length, Lib.size_eq]; have := hN.out; simp only []; omega) hbw.size).mono ?_
          rintro e W1 ⟨rfl, hA1, b1, q1⟩
          have hq : Below w2.heap.size w2 W1 := hbw.trans b1
          have hA1 : Lib.IsBuilderF 160 5 w2.heap.size w2.heap.size _ W1 := .inr hA1
          rw [Lib.strCells_eq, ← Lib.byteCells_append] at hA1
          have hA1 := hidU hA1
          clear b1 q1
          go_wp2_with fail
          refine (b_String w2.heap.size w2.heap.size _ _ hA1.out hq.size).mono ?_
          rintro e W2 ⟨rfl, _, b2, _⟩
          have hq2 : Below w2.heap.size w2 W2 := hq.trans b2
          clear b2
          go_wp2
          go_ret2
          refine ⟨?_, hb12.trans (hq2.mono hb12.size)⟩
          have : applyE S.data.toList l = (editP S.data.toList l, 0) := by
            unfold applyE
            rw [hr, decide_eq_false (by rw [← Lib.size_eq]; simpa using hx)]
            rfl
          rw [this, ← hacc.out]
          rfl

theorem editP_length : ∀ (t : List UInt8) (l : List PieceT), (∀ p ∈ l, p.Ok) → (editP t l).length ≤ t.length + putsLen l
  | t, [], _ => Nat.le_refl _
  | t, p :: l, h => by
    have ih := editP_length (t.drop (p.keep + p.drop).toNat) l fun q hq => h q (List.mem_cons_of_mem _ hq)
    have hp := h p List.mem_cons_self
    have := hp.k0
    have := hp.d0
    have e : putsLen (p :: l) = p.put.length + putsLen l := rfl
    rw [editP, e]
    rw [List.length_drop] at ih
    simp only [List.length_append, List.length_take]
    omega
theorem applyE_len (t : List UInt8) (l : List PieceT) : (applyE t l).1.length ≤ t.length + 1048576 := by
  unfold applyE
  cases hr : rightP l with
  | false => simp
  | true =>
    obtain ⟨r1, r2, r3⟩ := rightP_ok hr
    cases decide ((t.length : Int) < extentP l) with
    | false =>
      have := editP_length t l r2
      simp only [Bool.not_true, cond_false]
      omega
    | true => simp

theorem w_edit (t : List UInt8) (l : List PieceT) (ht : t.length ≤ 1000000000) (hl : l.length ≤ 1000000) (hpl : ∀ p ∈ l, p.put.length ≤ 1000000000) :
    Pure Tryz.prog 148 [.str t, piecesV l] (fun x => x = strE (applyE t l)) := by
  refine pure_of_calls ?_ rfl fun w β H vals hv hr => ?_
  · exact ⟨_, Tryz.func148, rfl, rfl⟩
  · obtain ⟨v0, v1, rfl⟩ : ∃ v0 v1, vals = #[v0, v1] := by
      obtain ⟨l⟩ := vals
      match l, hv with
      | [v0, v1], _ => exact ⟨v0, v1, rfl⟩
    have h0 := hr 0 _ v0 rfl rfl
    have h1 := hr 1 _ v1 rfl rfl
    obtain ⟨rfl, _⟩ := rep_str (m := []) h0
    have h1 := Rep.flat_sl (pieces_flat l) h1
    obtain ⟨a, cap, rfl, _⟩ := sl_cells h1
    have e : (l.map pieceV).length = l.length := by simp
    rw [e] at h1 ⊢
    refine (edit_walk ⟨t.toArray⟩ l (by simpa [ByteArray.size] using ht) hl hpl a cap w h1).mono ?_
    rintro e w' ⟨rfl, hb⟩
    have hm := applyE_len t l
    have hS : (⟨t.toArray⟩ : ByteArray).data.toList = t := rfl
    rw [hS]
    refine ⟨hb, strE (applyE t l), _, rfl, rfl, rfl, .tup _ _ rfl fun j c v hc hv => ?_⟩
    match j, hc, hv with
    | 0, hc, hv =>
      simp at hc hv
      subst hc hv
      exact .str _ (by unfold maxLen; omega)
    | 1, hc, hv =>
      simp at hc hv
      subst hc hv
      exact .int _ _
    | j + 2, hc, hv => simp at hc
end Bow
/- W25: which operations are valid. -/
namespace Bow
open Go Go.Proofs

theorem text_le_weight (t : Tree) : t.text.length < t.weight := by have := weight_eq t; omega
set_option maxRecDepth 100000 in
theorem w_valid (t : Tree) (o : OpT) (ht : t.weight ≤ 1000000) (ho : o.Ok) : Pure Tryz.prog 105 [nodeV t, opV o] (fun x => x = .int .i64 (validE t o)) := by
  have hp := ho.lt.path
  have hto := ho.lt.to
  have hpc := ho.lt.pieces
  have hpl := ho.each
  refine pure_fn 300 Tryz.func105 rfl rfl rfl fun B => ?_
  show CallThen _ _ _ _ _ _
  refine call_pure (w_At t o.path hp) rfl ?_
  rintro x rfl
  cases hat : atT t o.path with
  | none =>
    repeat' first
      | (refine ⟨fun _ => go 300 ?_, fun _ => go 300 ?_⟩)
      | (refine ⟨trivial, rfl, rfl, rfl, ?_⟩)
      | fail
    all_goals (show V.int _ _ = _; simp_all [validE]; done)
  | some x =>
    have hxw := atT_weight hat
    have hxt := text_le_weight x
    repeat' first
      | (refine ⟨fun _ => go 300 ?_, fun _ => go 300 ?_⟩)
      | (show CallThen _ _ _ _ _ _; refine call_pure (w_into x o.at_) rfl ?_; rintro z rfl)
      | (show CallThen _ _ _ _ _ _; refine call_pure (w_pathWithin o.path o.to hp) rfl ?_; rintro z rfl)
      | (show CallThen _ _ _ _ _ _; refine call_pure (w_edit x.text o.pieces (by omega) (by omega) hpl) rfl ?_; rintro z rfl)
      | (show CallThen _ _ _ _ _ _; refine call_pure (w_At t o.to hto) rfl ?_; rintro z rfl; cases hat2 : atT t o.to with
          | none => exact ⟨trivial, rfl, rfl, rfl, (by show V.int _ _ = _; simp_all [validE])⟩
          | some y =>
            show CallThen _ _ _ _ _ _
            refine call_pure (w_into y o.at_) rfl ?_
            rintro z rfl
            exact ⟨trivial, rfl, rfl, rfl, (by show V.int _ _ = _; simp_all [validE])⟩)
      | (refine ⟨trivial, rfl, rfl, rfl, ?_⟩)
      | fail
    all_goals (show V.int _ _ = _; simp_all [validE])

set_option maxRecDepth 100000 in
theorem w_Valid (t : Tree) (o : OpT) (ht : t.weight ≤ 1000000) (ho : o.Ok) : Pure Tryz.prog 49 [nodeV t, opV o] (fun x => x = .int .i64 (ValidE t o)) := by
  refine pure_fn 300 Tryz.func49 rfl rfl rfl fun B => ?_
  show CallThen _ _ _ _ _ _
  refine call_pure (w_RightT t ht) rfl ?_
  rintro x rfl
  refine ⟨fun g1 => go 300 ?_, fun g1 => go 300 ?_⟩
  · exact ⟨trivial, rfl, rfl, rfl, by unfold ValidE; rw [g1]; rfl⟩
  show CallThen _ _ _ _ _ _
  refine call_pure (w_Formed o ho.lt ho.each) rfl ?_
  rintro x rfl
  refine ⟨fun g2 => go 300 ?_, fun g2 => go 300 ?_⟩
  · exact ⟨trivial, rfl, rfl, rfl, by unfold ValidE; rw [g1, g2]; rfl⟩
  show CallThen _ _ _ _ _ _
  refine call_pure (w_valid t o ht ho) rfl ?_
  rintro x rfl
  exact ⟨trivial, rfl, rfl, rfl, by unfold ValidE; rw [g1, g2]; rfl⟩

set_option maxHeartbeats 4000000 in
set_option maxRecDepth 100000 in
theorem w_refValid (t : Tree) (o : OpT) (ht : t.weight ≤ 1000000) (ho : o.Ok) : Pure Tryz.prog 45 [nodeV t, opV o] (fun x => x = .int .i64 (ValidE t o)) := by
  have hp := ho.lt.path
  have hto := ho.lt.to
  have hpc := ho.lt.pieces
  have hpl := ho.each
  refine pure_fn 300 Tryz.func45 rfl rfl rfl fun B => ?_
  show CallThen _ _ _ _ _ _
  refine call_pure (w_refRightT t ht) rfl ?_
  rintro x rfl
  refine ⟨fun g1 => go 300 ?_, fun g1 => go 300 ?_⟩
  · exact ⟨trivial, rfl, rfl, rfl, by unfold ValidE; rw [g1]; rfl⟩
  show CallThen _ _ _ _ _ _
  refine call_pure (w_refFormed o ho.lt ho.each) rfl ?_
  rintro x rfl
  refine ⟨fun g2 => go 300 ?_, fun g2 => go 300 ?_⟩
  · exact ⟨trivial, rfl, rfl, rfl, by unfold ValidE; rw [g1, g2]; rfl⟩
  have hV : ValidE t o = validE t o := by unfold ValidE; rw [g1, g2]; rfl
  rw [hV]
  clear hV g1 g2
  repeat' first
    | (refine ⟨fun _ => go 300 ?_, fun _ => go 300 ?_⟩)
    | (show CallThen _ _ _ _ _ _; refine call_pure (w_refAt t o.path hp) rfl ?_; rintro z rfl; cases hat : atT t o.path with
        | none => exact ⟨trivial, rfl, rfl, rfl, (by show V.int _ _ = _; simp_all [validE])⟩
        | some x =>
          have hxw := atT_weight hat
          have hxt := text_le_weight x
          repeat' first
            | (refine ⟨fun _ => go 300 ?_, fun _ => go 300 ?_⟩)
            | (show CallThen _ _ _ _ _ _; refine call_pure (w_refInto x o.at_) rfl ?_; rintro z rfl)
            | (show CallThen _ _ _ _ _ _; refine call_pure (w_refWithin o.path o.to hp) rfl ?_; rintro z rfl)
            | (show CallThen _ _ _ _ _ _; refine call_pure (w_refEdit x.text o.pieces (by omega) (by omega) hpl) rfl ?_; rintro z rfl)
            | (show CallThen _ _ _ _ _ _; refine call_pure (w_refAt t o.to hto) rfl ?_; rintro z rfl; cases hat2 : atT t o.to with
                | none => exact ⟨trivial, rfl, rfl, rfl, (by show V.int _ _ = _; simp_all [validE])⟩
                | some y =>
                  show CallThen _ _ _ _ _ _
                  refine call_pure (w_refInto y o.at_) rfl ?_
                  rintro z rfl
                  exact ⟨trivial, rfl, rfl, rfl, (by show V.int _ _ = _; simp_all [validE])⟩)
            | (refine ⟨trivial, rfl, rfl, rfl, ?_⟩)
            | fail
          all_goals (show V.int _ _ = _; simp_all [validE]))
    | (refine ⟨trivial, rfl, rfl, rfl, ?_⟩)
    | fail
  all_goals (show V.int _ _ = _; simp_all [validE])
end Bow
/- W26: what becomes of a tree. -/
namespace Bow
open Go Go.Proofs

theorem w_apply2 (o : OpT) (y : Tree) : Fun Tryz.prog 155 [some (.box (nodeV y).cells)] [.ptr (.loc 0) 0, .iptr (opV o).cells 0] (fun _ T => T = [some (.box (nodeV (relabelT o.label y)).cells)]) := by
  refine fun_fn 100 Tryz.func155 rfl rfl rfl fun imps B hi => ?_
  obtain ⟨r, rfl⟩ := List.length_eq_one_iff.1 hi
  refine ⟨trivial, rfl, rfl, ?_⟩
  cases y
  rfl
set_option maxRecDepth 100000 in
theorem w_apply3 (o : OpT) (y : Tree) (ho : o.Ok) (hy : y.weight ≤ 1000000) : Fun Tryz.prog 156 [some (.box (nodeV y).cells)] [.ptr (.loc 0) 0, .iptr (opV o).cells 0] (fun _ T => T = [some (.box (nodeV (retextT o.pieces y)).cells)]) := by
  refine fun_fn 100 Tryz.func156 rfl rfl rfl fun imps B hi => ?_
  obtain ⟨r, rfl⟩ := List.length_eq_one_iff.1 hi
  have := text_le_weight y
  show Goes _ _ _ _
  refine goes_draw 100 ⟨_, w_edit y.text o.pieces (by omega) ho.lt.pieces ho.each, rfl, ?_⟩
  refine ⟨by kernel_rfl, ?_⟩
  refine ⟨trivial, rfl, rfl, ?_⟩
  cases y
  rfl
/-- What an operation's walk asks: it is formed, and valid on the tree; and what it makes of it. -/
inductive Does (t : Tree) (o : OpT) : Tree → Prop
  | ins (y) (hk : o.kind = 1) (hy : atT t o.path = some y) (h0 : 0 ≤ o.at_) (h1 : o.at_ ≤ y.subs.length) : Does t o (changeT (insT o.at_ (freshT o)) t o.path)
  | del (x) (hk : o.kind = 2) (hne : o.path ≠ []) (hx : atT t o.path = some x) : Does t o (changeT (delT (lastP o.path)) t o.path.dropLast)
  | mov (x z) (hk : o.kind = 3) (hne : o.path ≠ []) (hx : atT t o.path = some x) (hw : within o.path o.to = false) (hz : atT t o.to = some z) (h0 : 0 ≤ o.at_) (h1 : o.at_ ≤ z.subs.length) : Does t o (moveT x t o)
  | lab (y) (hk : o.kind = 5) (hy : atT t o.path = some y) : Does t o (changeT (relabelT o.label) t o.path)
  | edt (y) (hk : o.kind = 6) (hy : atT t o.path = some y) : Does t o (changeT (retextT o.pieces) t o.path)

theorem wk_fresh (o : OpT) : Wk (.agg [.int .u64 o.id, .bool o.leaf, .str o.label, .nilsl, .str [], .nilsl]) (nodeV (freshT o)) :=
  Wk.agg ⟨.refl _, .refl _, .refl _, Wk.nil 2, .refl _, Wk.nil 6, trivial⟩

set_option maxHeartbeats 1000000 in
set_option maxRecDepth 100000 in
theorem w_apply_k (t : Tree) (o : OpT) (m : Tree) (ht : t.weight ≤ 900000) (ho : o.Ok) (hto : o.kind = 3 → ∀ x ∈ o.to, inI x) (h : Does t o m) : Pure Tryz.prog 106 [nodeV t, opV o] (fun x => x = nodeV m) := by
  have hp := ho.lt.path
  have hpt := ho.lt.to
  refine pure_fn 300 Tryz.func106 rfl rfl rfl fun B => ?_
  cases h with
  | ins y hk hy h0 h1 =>
    refine ⟨fun g1 => go 300 ?_, fun g1 => absurd hk (ne_of g1)⟩
    show CallThen _ _ _ _ _ _
    refine call_pure (pure_args (w_insert t (freshT o) y o.path o.at_ hp ht hy h0 h1) ⟨.refl _, .refl _, .refl _, wk_fresh o, trivial⟩ rfl rfl) rfl ?_
    rintro z rfl
    exact ⟨trivial, rfl, rfl, rfl, rfl⟩
  | del x hk hne hx =>
    obtain ⟨y, y1, y2, y3, y4⟩ := at_parent hne hx
    refine ⟨fun g1 => absurd (hk.symm.trans (eq_of g1)) (by decide), fun g1 => go 300 ?_⟩
    refine ⟨fun g1 => go 300 ?_, fun g1 => absurd hk (ne_of g1)⟩
    show CallThen _ _ _ _ _ _
    refine call_pure (w_remove t y o.path hp hne ht y1 y2 y3) rfl ?_
    rintro z rfl
    exact ⟨trivial, rfl, rfl, rfl, by rw [lastP_eq]; rfl⟩
  | mov x z hk hne hx hw hz h0 h1 =>
    obtain ⟨y, y1, y2, y3, y4⟩ := at_parent hne hx
    refine ⟨fun g1 => absurd (hk.symm.trans (eq_of g1)) (by decide), fun g1 => go 300 ?_⟩
    refine ⟨fun g1 => absurd (hk.symm.trans (eq_of g1)) (by decide), fun g1 => go 300 ?_⟩
    refine ⟨fun g1 => go 300 ?_, fun g1 => absurd hk (ne_of g1)⟩
    show CallThen _ _ _ _ _ _
    refine call_pure (w_At t o.path hp) rfl ?_
    rintro _ rfl
    rw [hx]
    have hzl := subs_le_weight z
    have hzw := atT_weight hz
    show CallThen _ _ _ _ _ _
    refine call_pure (w_landing o.path o.to o.at_ hp hpt hne ⟨by omega, by omega⟩ (hto hk) y2) rfl ?_
    rintro _ rfl
    show Goes _ _ _ _
    have hlast := lastP_eq hne
    have hw' : within (o.path.dropLast ++ [lastP o.path]) o.to = false := by rw [← hlast, List.dropLast_concat_getLast]; exact hw
    obtain ⟨z', z1, z2, z3⟩ := land_at (by rw [← hlast]; exact y2) h0 o.path.dropLast o.to t y z y1 (by rw [← hlast]; exact y3) hw' hz h1
    have hmw := change_weight (del_weight (lastP o.path)) o.path.dropLast t
    have hrem := w_remove t y o.path hp hne ht y1 y2 y3
    have hins := w_insert (changeT (delT (lastP o.path)) t o.path.dropLast) x z' (landT o.path.dropLast (lastP o.path) o.to o.at_).1 (landT o.path.dropLast (lastP o.path) o.to o.at_).2 (by rw [land_len]; exact hpt) (by omega) z1 z2 z3
    rw [← hlast] at hins
    refine goes_draw 300 ⟨_, hrem, rfl, _, hins, rfl, ?_⟩
    refine ⟨by kernel_rfl, ?_⟩
    refine ⟨trivial, rfl, rfl, rfl, ?_⟩
    unfold moveT
    rw [← hlast]
    rfl
  | lab y hk hy =>
    refine ⟨fun g1 => absurd (hk.symm.trans (eq_of g1)) (by decide), fun g1 => go 300 ?_⟩
    refine ⟨fun g1 => absurd (hk.symm.trans (eq_of g1)) (by decide), fun g1 => go 300 ?_⟩
    refine ⟨fun g1 => absurd (hk.symm.trans (eq_of g1)) (by decide), fun g1 => go 300 ?_⟩
    refine ⟨fun g1 => absurd (hk.symm.trans (eq_of g1)) (by decide), fun g1 => go 300 ?_⟩
    refine ⟨fun g1 => go 300 ?_, fun g1 => absurd hk (ne_of g1)⟩
    show CallThen _ _ _ _ _ _
    refine call_freeze 1 rfl rfl ?_
    refine call_pure (w_change1 155 (opV o).cells (relabelT o.label) y (w_apply2 o y) o.path t hp (by omega) hy) rfl ?_
    rintro z rfl
    exact ⟨trivial, rfl, rfl, rfl, rfl⟩
  | edt y hk hy =>
    have hyw := atT_weight hy
    refine ⟨fun g1 => absurd (hk.symm.trans (eq_of g1)) (by decide), fun g1 => go 300 ?_⟩
    refine ⟨fun g1 => absurd (hk.symm.trans (eq_of g1)) (by decide), fun g1 => go 300 ?_⟩
    refine ⟨fun g1 => absurd (hk.symm.trans (eq_of g1)) (by decide), fun g1 => go 300 ?_⟩
    refine ⟨fun g1 => absurd (hk.symm.trans (eq_of g1)) (by decide), fun g1 => go 300 ?_⟩
    refine ⟨fun g1 => absurd (hk.symm.trans (eq_of g1)) (by decide), fun g1 => go 300 ?_⟩
    show CallThen _ _ _ _ _ _
    refine call_freeze 1 rfl rfl ?_
    refine call_pure (w_change1 156 (opV o).cells (retextT o.pieces) y (w_apply3 o y ho (by omega)) o.path t hp (by omega) hy) rfl ?_
    rintro z rfl
    exact ⟨trivial, rfl, rfl, rfl, rfl⟩
theorem w_apply (t : Tree) (o : OpT) (m : Tree) (ht : t.weight ≤ 900000) (ho : o.Ok) (hto : ∀ x ∈ o.to, inI x) (h : Does t o m) : Pure Tryz.prog 106 [nodeV t, opV o] (fun x => x = nodeV m) := w_apply_k t o m ht ho (fun _ => hto) h
/-! ### Apply -/
def ApplyV (r : Tree × Int) : V := .tup [nodeV r.1, .int .i64 r.2]
set_option maxRecDepth 100000 in
theorem w_Apply_bad (t : Tree) (o : OpT) (ht : t.weight ≤ 1000000) (ho : o.Ok) (h : ValidE t o ≠ 0) : Pure Tryz.prog 51 [nodeV t, opV o] (fun x => x = ApplyV (zeroT [], ValidE t o)) := by
  refine pure_wk (pure_fn 300 Tryz.func51 rfl rfl rfl fun B => ?_)
  show CallThen _ _ _ _ _ _
  refine call_pure (w_Valid t o ht ho) rfl ?_
  rintro x rfl
  refine ⟨fun g1 => go 300 ?_, fun g1 => absurd (eq_of' g1) h⟩
  exact ⟨trivial, rfl, rfl, rfl, ApplyV (zeroT [], ValidE t o), Wk.tup ⟨wk_zero (ss := []) (Wk.nil 6), .refl _, trivial⟩, rfl, rfl⟩
set_option maxRecDepth 100000 in
theorem w_Apply_ok (t : Tree) (o : OpT) (m : Tree) (ht : t.weight ≤ 1000000) (ho : o.Ok) (h : ValidE t o = 0) (hm : Pure Tryz.prog 106 [nodeV t, opV o] (fun x => x = nodeV m)) : Pure Tryz.prog 51 [nodeV t, opV o] (fun x => x = ApplyV (m, 0)) := by
  refine pure_fn 300 Tryz.func51 rfl rfl rfl fun B => ?_
  show CallThen _ _ _ _ _ _
  refine call_pure (w_Valid t o ht ho) rfl ?_
  rintro x rfl
  refine ⟨fun g1 => absurd h (ne_of' g1), fun g1 => go 300 ?_⟩
  show CallThen _ _ _ _ _ _
  refine call_pure hm rfl ?_
  rintro x rfl
  exact ⟨trivial, rfl, rfl, rfl, rfl⟩
end Bow
/- SP9: trees that are the same, in plain Lean. -/
namespace Bow
open Go

mutual
def sameT (ids : Bool) : Tree → Tree → Bool
  | .mk i l b a t ss, u => (!ids || decide (i = u.id)) && ((l == u.leaf) && (decide (b = u.label) && (decide (t = u.text) && (decide (a = u.attrs) && sameTs ids ss u.subs))))
def sameTs (ids : Bool) : List Tree → List Tree → Bool
  | [], [] => true
  | s :: ss, u :: us => sameT ids s u && sameTs ids ss us
  | _, _ => false
end
theorem sameT_eq (ids : Bool) (t u : Tree) : sameT ids t u = ((!ids || decide (t.id = u.id)) && ((t.leaf == u.leaf) && (decide (t.label = u.label) && (decide (t.text = u.text) && (decide (t.attrs = u.attrs) && sameTs ids t.subs u.subs))))) := by
  cases t
  rw [sameT]
  rfl
theorem sameTs_len {ids : Bool} : ∀ {ss us : List Tree}, sameTs ids ss us = true → ss.length = us.length
  | [], [], _ => rfl
  | [], _ :: _, h => by simp [sameTs] at h
  | _ :: _, [], h => by simp [sameTs] at h
  | s :: ss, u :: us, h => by
    rw [sameTs, Bool.and_eq_true] at h
    simp [sameTs_len h.2]
theorem sameTs_at {ids : Bool} {ss us : List Tree} {i : Nat} (h1 : i < ss.length) (h2 : i < us.length) : sameTs ids (ss.drop i) (us.drop i) = (sameT ids ss[i] us[i] && sameTs ids (ss.drop (i + 1)) (us.drop (i + 1))) := by
  rw [List.drop_eq_getElem_cons h1, List.drop_eq_getElem_cons h2, sameTs]
mutual
theorem sameT_refl (ids : Bool) : ∀ t : Tree, sameT ids t t = true
  | .mk i l b a c ss => by
    rw [sameT_eq]
    simp only [Tree.id, Tree.leaf, Tree.label, Tree.text, Tree.attrs, Tree.subs]
    rw [sameTs_refl ids ss]
    simp
theorem sameTs_refl (ids : Bool) : ∀ ss : List Tree, sameTs ids ss ss = true
  | [] => by rw [sameTs]
  | s :: ss => by rw [sameTs, sameT_refl ids s, sameTs_refl ids ss]; rfl
end
end Bow
/- W27: trees that are the same. -/
namespace Bow
open Go Go.Proofs

def bV : Bool → V
  | true => .tt
  | false => .ff

set_option maxRecDepth 100000 in
theorem w_EqualNodes (ids : Bool) (t u : Tree) (ht : t.weight ≤ 1000000)
    (hg : ∀ s ∈ t.subs, ∀ v : Tree, Pure Tryz.prog 159 [nodeV s, nodeV v, .iptr [bV ids] 0] (fun x => x = .bool (sameT ids s v))) :
    Pure Tryz.prog 158 [.sl 6 t.subV, .sl 6 u.subV, .fn (.func 159) [] [.iptr [bV ids] 0]] (fun x => x = .bool (sameTs ids t.subs u.subs)) := by
  have hsl := subs_le_weight t
  refine pure_wk (pure_fn 300 Tryz.func158 rfl rfl rfl fun B => ?_)
  refine ⟨fun g1 => go 300 ?_, fun g1 => go 300 ?_⟩
  · have g1 := ne_of' g1
    rw [subV_len, subV_len] at g1
    refine ⟨trivial, rfl, rfl, rfl, leaf_ff ?_⟩
    cases h : sameTs ids t.subs u.subs with
    | false => rfl
    | true => exact absurd (congrArg Nat.cast (sameTs_len h)) g1
  have g1 : t.subs.length = u.subs.length := by have := eq_of' g1; rw [subV_len, subV_len] at this; omega
  show Goes _ _ _ _
  refine goes_iter (ι := Nat) (fun i => i ≤ t.subs.length ∧ sameTs ids (t.subs.drop i) (u.subs.drop i) = sameTs ids t.subs u.subs) (fun i => t.subs.length - i) (fun i => [(17, .int .i64 i), (16, .int .i64 t.subV.length), (15, .sl 6 t.subV), (1, .sl 6 u.subV), (2, .fn (.func 159) [] [.iptr [bV ids] 0])]) (fun _ => []) 0 300 (fun _ => rfl) (fun _ => rfl) ⟨⟨Nat.zero_le _, rfl⟩, ⟨⟨rfl, rfl⟩, ⟨rfl, rfl⟩, ⟨rfl, rfl⟩, ⟨rfl, rfl⟩, ⟨rfl, rfl⟩, trivial⟩, trivial⟩ ?_
  rintro i ⟨k1, k2⟩ next
  refine ⟨fun hlt => go 300 ?_, fun hge => go 300 ?_⟩
  · have hi : i < t.subs.length := by simpa [subV_eq] using hlt
    have hi' : i < u.subs.length := by omega
    have hx : t.subV[i]? = some (nodeV t.subs[i]) := by simp [subV_eq, hi]
    have hy : u.subV[i]? = some (nodeV u.subs[i]) := by simp [subV_eq, hi']
    rw [sameTs_at hi hi'] at k2
    refine ⟨Int.natCast_nonneg i, _, hx, Int.natCast_nonneg i, _, hy, ?_⟩
    show CallThen _ _ _ _ _ _
    refine call_pure (hg _ (List.getElem_mem hi) _) rfl ?_
    rintro x rfl
    refine ⟨fun g => go 300 ?_, fun g => go 300 ?_⟩
    · have g : sameT ids t.subs[i] u.subs[i] = false := by simpa using g
      exact ⟨trivial, rfl, rfl, rfl, leaf_ff (by rw [← k2, g]; rfl)⟩
    · have g : sameT ids t.subs[i] u.subs[i] = true := by simpa using g
      rw [g, Bool.true_and] at k2
      refine ⟨by constructor <;> omega, ?_⟩
      exact next (i + 1) _ _ ⟨⟨hi, k2⟩, by omega, ⟨⟨rfl, rfl⟩, ⟨rfl, rfl⟩, ⟨rfl, rfl⟩, ⟨rfl, rfl⟩, ⟨rfl, rfl⟩, trivial⟩, trivial⟩
  · have hi : t.subs.length ≤ i := by simpa [subV_eq] using hge
    rw [List.drop_eq_nil_of_le hi, List.drop_eq_nil_of_le (by omega), sameTs] at k2
    exact ⟨trivial, rfl, rfl, rfl, leaf_tt k2.symm⟩

set_option maxRecDepth 100000 in
theorem w_same1 (ids : Bool) (t u : Tree) (h : Pure Tryz.prog 107 [nodeV t, nodeV u, bV ids] (fun x => x = .bool (sameT ids t u))) :
    Pure Tryz.prog 159 [nodeV t, nodeV u, .iptr [bV ids] 0] (fun x => x = .bool (sameT ids t u)) := by
  cases ids <;>
  · refine pure_fn 300 Tryz.func159 rfl rfl rfl fun B => ?_
    show CallThen _ _ _ _ _ _
    refine call_pure h rfl ?_
    rintro x rfl
    exact ⟨trivial, rfl, rfl, rfl, rfl⟩

set_option maxHeartbeats 1000000 in
set_option maxRecDepth 100000 in
theorem w_same (ids : Bool) (t : Tree) : ∀ u : Tree, t.weight ≤ 1000000 → Pure Tryz.prog 107 [nodeV t, nodeV u, bV ids] (fun x => x = .bool (sameT ids t u)) := by
  induction t using Tree.ind with
  | _ t ih =>
  intro u ht
  have hE := w_EqualNodes ids t u ht fun s hs v => w_same1 ids s v (ih s hs v (by have := weight_sub hs; omega))
  have hwt := weight_eq t
  have hA := w_EqualAttr t.attrs u.attrs (by omega)
  clear ih
  have e := sameT_eq ids t u
  cases ids
  all_goals
    refine pure_wk (pure_fn 300 Tryz.func107 rfl rfl rfl fun B => ?_)
    repeat' first
      | (refine ⟨fun _ => go 300 ?_, fun _ => go 300 ?_⟩)
      | (show CallThen _ _ _ _ _ _; refine call_pure hA rfl ?_; rintro z rfl)
      | (show CallThen _ _ _ _ _ _; refine call_freeze 2 rfl rfl ?_; refine call_pure hE rfl ?_; rintro z rfl)
      | (refine ⟨trivial, rfl, rfl, rfl, leaf_ff ?_⟩)
      | (refine ⟨trivial, rfl, rfl, rfl, leaf_b ?_⟩)
      | fail
  all_goals (rw [e]; simp_all)

theorem w_Same (t u : Tree) (ht : t.weight ≤ 1000000) : Pure Tryz.prog 52 [nodeV t, nodeV u] (fun x => x = .bool (sameT true t u)) := by
  refine pure_fn 300 Tryz.func52 rfl rfl rfl fun B => ?_
  show CallThen _ _ _ _ _ _
  refine call_pure (w_same true t u ht) rfl ?_
  rintro x rfl
  exact ⟨trivial, rfl, rfl, rfl, rfl⟩
end Bow
/- W30a: Light, just so. -/
namespace Bow
open Go Go.Proofs

def lightB (o : OpT) (top : Nat) : Bool := decide (o.path.length ≤ top) && decide (o.to.length ≤ top) && decide (o.label.length ≤ top) && decide (o.key.length ≤ top) && decide (o.value.length ≤ top) && decide (o.pieces.length ≤ top) && decide (putsLen o.pieces ≤ top)
theorem lightB_iff (o : OpT) (top : Nat) : lightB o top = true ↔ o.Lt top ∧ putsLen o.pieces ≤ top := by
  unfold lightB
  simp only [Bool.and_eq_true, decide_eq_true_eq]
  constructor
  · rintro ⟨⟨⟨⟨⟨⟨h1, h2⟩, h3⟩, h4⟩, h5⟩, h6⟩, h7⟩
    exact ⟨⟨h1, h2, h3, h4, h5, h6⟩, h7⟩
  · rintro ⟨⟨h1, h2, h3, h4, h5, h6⟩, h7⟩
    exact ⟨⟨⟨⟨⟨⟨h1, h2⟩, h3⟩, h4⟩, h5⟩, h6⟩, h7⟩
theorem Lt_mono {o : OpT} {a b : Nat} (h : o.Lt a) (hab : a ≤ b) : o.Lt b := by
  have := h.path; have := h.to; have := h.label; have := h.key; have := h.value; have := h.pieces
  exact ⟨by omega, by omega, by omega, by omega, by omega, by omega⟩
theorem light_ok {o : OpT} {top : Nat} (h : lightB o top = true) (ht : top ≤ 1000000) : o.Ok := by
  obtain ⟨h1, h2⟩ := (lightB_iff o top).1 h
  exact ⟨Lt_mono h1 ht, by omega⟩

set_option maxRecDepth 100000 in
/-- Light: within the bound, the lengths and what is put. -/
theorem w_LightX (o : OpT) (top : Nat) (ht : top ≤ 1000000) : Pure Tryz.prog 48 [opV o, .int .i64 top] (fun x => x = .bool (lightB o top)) := by
  have bad : ¬ (o.Lt top ∧ putsLen o.pieces ≤ top) → ∃ y, Wk .ff y ∧ y.pureB = true ∧ y = .bool (lightB o top) := fun h => leaf_ff (Bool.eq_false_iff.2 fun h' => h ((lightB_iff o top).1 h'))
  refine pure_wk (pure_fn 300 Tryz.func48 rfl rfl rfl fun B => ?_)
  refine ⟨fun g1 => go 300 ?_, fun g1 => go 300 ?_⟩
  · exact ⟨trivial, rfl, rfl, rfl, bad fun ⟨h, _⟩ => by have := lt_of g1; have := h.path; have := h.to; have := h.label; have := h.key; have := h.value; have := h.pieces; simp only [List.length_map] at *; omega⟩
  refine ⟨fun g2 => go 300 ?_, fun g2 => go 300 ?_⟩
  · exact ⟨trivial, rfl, rfl, rfl, bad fun ⟨h, _⟩ => by have := lt_of g2; have := h.path; have := h.to; have := h.label; have := h.key; have := h.value; have := h.pieces; simp only [List.length_map] at *; omega⟩
  refine ⟨fun g3 => go 300 ?_, fun g3 => go 300 ?_⟩
  · exact ⟨trivial, rfl, rfl, rfl, bad fun ⟨h, _⟩ => by have := lt_of g3; have := h.path; have := h.to; have := h.label; have := h.key; have := h.value; have := h.pieces; simp only [List.length_map] at *; omega⟩
  refine ⟨fun g4 => go 300 ?_, fun g4 => go 300 ?_⟩
  · exact ⟨trivial, rfl, rfl, rfl, bad fun ⟨h, _⟩ => by have := lt_of g4; have := h.path; have := h.to; have := h.label; have := h.key; have := h.value; have := h.pieces; simp only [List.length_map] at *; omega⟩
  refine ⟨fun g5 => go 300 ?_, fun g5 => go 300 ?_⟩
  · exact ⟨trivial, rfl, rfl, rfl, bad fun ⟨h, _⟩ => by have := lt_of g5; have := h.path; have := h.to; have := h.label; have := h.key; have := h.value; have := h.pieces; simp only [List.length_map] at *; omega⟩
  refine ⟨fun g6 => go 300 ?_, fun g6 => go 300 ?_⟩
  · exact ⟨trivial, rfl, rfl, rfl, bad fun ⟨h, _⟩ => by have := lt_of g6; have := h.path; have := h.to; have := h.label; have := h.key; have := h.value; have := h.pieces; simp only [List.length_map] at *; omega⟩
  have g1 := not_lt_of g1
  have g2 := not_lt_of g2
  have g3 := not_lt_of g3
  have g4 := not_lt_of g4
  have g5 := not_lt_of g5
  have g6 := not_lt_of g6
  simp only [List.length_map] at g1 g2 g6
  have hlt : o.Lt top := ⟨by omega, by omega, by omega, by omega, by omega, by omega⟩
  show Goes _ _ _ _
  refine goes_iter (ι := Nat × Nat) (fun i => i.1 ≤ o.pieces.length ∧ i.2 ≤ top ∧ putsLen o.pieces = i.2 + putsLen (o.pieces.drop i.1)) (fun i => o.pieces.length - i.1) (fun i => [(6, .int .i64 i.1), (5, .int .i64 i.2), (1, .int .i64 top), (2, .ptr (.loc 0) 0)]) (fun _ => [some (.box (opV o).cells)]) (0, 0) 200 (fun _ => rfl) (fun _ => rfl) ⟨⟨Nat.zero_le _, Nat.zero_le _, by simp⟩, ?_, ?_⟩ ?_
  · exact ⟨⟨rfl, rfl⟩, ⟨rfl, rfl⟩, ⟨rfl, rfl⟩, ⟨rfl, rfl⟩, trivial⟩
  · exact ⟨⟨rfl, rfl⟩, trivial⟩
  · rintro ⟨i, n⟩ ⟨h1, h3, h2⟩ next
    simp only at h1 h2 h3
    refine ⟨fun hlt => go 200 ?_, fun hge => go 200 ?_⟩
    · have hi : i < o.pieces.length := by simpa using hlt
      have hx : (o.pieces.map pieceV)[i]? = some (pieceV o.pieces[i]) := by simp [hi]
      rw [drop_cons hi] at h2
      have h2 : putsLen o.pieces = n + ((o.pieces[i]).put.length + putsLen (o.pieces.drop (i + 1))) := h2
      refine ⟨Int.natCast_nonneg i, _, hx, ?_⟩
      refine ⟨by constructor <;> omega, ?_⟩
      refine ⟨fun g7 => go 200 ?_, fun g7 => go 200 ?_⟩
      · exact ⟨trivial, rfl, rfl, rfl, bad fun ⟨h, _⟩ => by have := lt_of g7; have := h.path; have := h.to; have := h.label; have := h.key; have := h.value; have := h.pieces; simp only [List.length_map] at *; omega⟩
      have g7 := not_lt_of g7
      refine ⟨Int.natCast_nonneg i, _, hx, ?_⟩
      refine ⟨by constructor <;> omega, ?_⟩
      refine ⟨by constructor <;> omega, ?_⟩
      show Goes _ _ _ _
      refine next (i + 1, n + (o.pieces[i]).put.length) _ _ ⟨⟨hi, by simp only; omega, by simp only; omega⟩, ?_, ⟨⟨rfl, rfl⟩, ⟨rfl, rfl⟩, ⟨rfl, rfl⟩, ⟨rfl, rfl⟩, trivial⟩, ⟨⟨rfl, rfl⟩, trivial⟩⟩
      simp only; omega
    · have hi : o.pieces.length ≤ i := by simpa using hge
      rw [List.drop_eq_nil_of_le hi] at h2
      have h2 : putsLen o.pieces = n + 0 := h2
      exact ⟨trivial, rfl, rfl, rfl, leaf_tt ((lightB_iff o top).2 ⟨hlt, by omega⟩)⟩


end Bow
/- W31: the reference's Put, put, drop, change. -/
namespace Bow
open Go Go.Proofs

theorem w_CopiedQ (xs : List V) (hl : xs.length ≤ 1000000) : Fun Tryz.prog 122 [] [.sl 1 xs] (fun x T => x = .osl (.loc 0) 0 0 xs.length ∧ T = [some (.vec 0 1 xs)]) := by
  refine fun_fn 100 Tryz.func122 rfl rfl rfl fun imps B hi => ?_
  have : imps = [] := List.length_eq_zero_iff.1 hi
  subst this
  refine ⟨Nat.le_trans (Nat.mul_le_mul_right _ hl) (by decide), ?_⟩
  exact ⟨trivial, rfl, rfl, rfl, rfl⟩

set_option maxRecDepth 100000 in
theorem w_refPut (x : Tree) : ∀ (p : List Int) (t y : Tree), p.length ≤ 1000000 → t.weight ≤ 1000000 → atT t p = some y → Pure Tryz.prog 134 [nodeV t, pathV p, nodeV x] (fun r => r = .tup [nodeV (changeT (fun _ => x) t p), .tt])
  | [], t, y, _, _, _ => by
    refine pure_fn 300 Tryz.func134 rfl rfl rfl fun B => ?_
    refine ⟨fun g => go 300 ?_, fun g => absurd rfl (ne_of g)⟩
    exact ⟨trivial, rfl, rfl, rfl, rfl⟩
  | i :: p, t, y, hp, ht, hy => by
    rw [atT] at hy
    cases hs : subT t i with
    | none => rw [hs] at hy; cases hy
    | some s =>
    rw [hs] at hy
    simp only at hy
    obtain ⟨hi, hsi, hm⟩ := subT_some hs
    have hil := lt_of_get hsi
    have hsw := weight_sub hm
    have ih := w_refPut x p s y (by simp at hp; omega) (by omega) hy
    refine pure_fn 300 Tryz.func134 rfl rfl rfl fun B => ?_
    refine ⟨fun g => absurd (eq_of g) (by simp; omega), fun g => go 300 ?_⟩
    show Goes _ _ _ _
    refine goes_draw 300 ?_
    refine ⟨Int.le_refl 0, _, rfl, ⟨fun q1 => absurd (lt_of q1) (by omega), fun q1 => ⟨Int.le_refl 0, _, rfl, ?_⟩⟩⟩
    refine ⟨by kernel_rfl, ?_⟩
    refine ⟨fun q2 => absurd (le_of q2) (by simp [subV_eq]; omega), fun q2 => go 300 ?_⟩
    show Goes _ _ _ _
    have hx : t.subV[i.toNat]? = some (nodeV s) := subV_at hsi
    have hil' : i < (t.subV.length : Int) := by rw [subV_len]; omega
    have e : V.sl 1 ((((i :: p).map intV).drop (Int.toNat 1)).take (((((i :: p).map intV).length : Nat) : Int).toNat - Int.toNat 1)) = pathV p := by
      unfold pathV
      rw [List.take_of_length_le (by simp)]
      rfl
    refine goes_draw 300 ⟨Int.le_refl 0, _, rfl, hi, _, hx, by decide, by simp; omega, by omega, .tup [nodeV (changeT (fun _ => x) s p), .tt], ?_, rfl, ?_⟩
    · unfold pathV at e ih
      rw [e]
      exact ih
    refine ⟨by kernel_rfl, ?_⟩
    refine ⟨by kernel_rfl, ?_⟩
    have hsl := subs_le_weight t
    refine ⟨room_of (by rw [subV_len]; omega) (by decide), ?_⟩
    show Goes _ _ _ _
    have hx0 : t.subV[0 + i.toNat]? = some (nodeV s) := by rw [Nat.zero_add]; exact hx
    refine goes_draw 1 ⟨Int.le_refl 0, _, rfl, rfl, hi, hil', rfl, _, hx0, ?_⟩
    refine ⟨by kernel_rfl, ?_⟩
    show Goes _ _ _ _
    refine goes_fzSlot 10 4 rfl rfl (by simp) ?_
    refine go 300 ?_
    refine ⟨trivial, rfl, rfl, rfl, ?_⟩
    rw [changeT, hs]
    simp only
    rw [withSubs_V, ← subV_set, Nat.zero_add]
    rfl
end Bow
/- W32: the reference's put, drop, change, Without. -/
namespace Bow
open Go Go.Proofs

theorem row_ins (t x : Tree) (at_ : Int) : (t.subV.take (at_.toNat - Int.toNat 0 : Nat)).drop 0 ++ [nodeV x] ++ (t.subV.drop at_.toNat).take ((t.subV.length : Int).toNat - at_.toNat) = (t.subs.take at_.toNat ++ x :: t.subs.drop at_.toNat).map nodeV := by
  rw [subV_eq, List.take_of_length_le (l := List.drop _ _) (by simp)]
  simp
theorem row_del (t : Tree) (at_ : Int) (h0 : 0 ≤ at_) : (t.subV.take (at_.toNat - Int.toNat 0 : Nat)).drop 0 ++ (t.subV.drop (at_ + 1).toNat).take ((t.subV.length : Int).toNat - (at_ + 1).toNat) = (t.subs.take at_.toNat ++ t.subs.drop (at_.toNat + 1)).map nodeV := by
  have e : (at_ + 1).toNat = at_.toNat + 1 := by omega
  rw [subV_eq, List.take_of_length_le (l := List.drop _ _) (by simp), e]
  simp

set_option maxRecDepth 100000 in
theorem w_refputs (t x : Tree) (at_ : Int) (ht : t.weight ≤ 1000000) (h0 : 0 ≤ at_) (h1 : at_ ≤ t.subs.length) : Pure Tryz.prog 79 [nodeV t, .int .i64 at_, nodeV x] (fun r => r = nodeV (insT at_ x t)) := by
  have hsl := subs_le_weight t
  have hl : t.subV.length = t.subs.length := subV_len t
  refine pure_fn 300 Tryz.func79 rfl rfl rfl fun B => ?_
  refine ⟨by decide, h0, by rw [hl]; exact h1, room_of (by simp; omega) (by decide), ?_⟩
  refine ⟨⟨rfl, trivial⟩, ?_⟩
  refine ⟨rfl, rfl, rfl, rfl, room_of (by simp; omega) (by decide), ?_⟩
  refine ⟨h0, by rw [hl]; exact h1, Int.le_refl _, rfl, ?_, room_of (by simp; omega) (by decide), ?_⟩
  · simp
  refine ⟨trivial, rfl, rfl, rfl, by simp only [List.length_append], rfl, ?_⟩
  rw [insT, withSubs_V, ← row_ins]
  rfl

set_option maxRecDepth 100000 in
theorem w_refdrop (t : Tree) (at_ : Int) (ht : t.weight ≤ 1000000) (h0 : 0 ≤ at_) (h1 : at_ < t.subs.length) : Pure Tryz.prog 135 [nodeV t, .int .i64 at_] (fun r => r = nodeV (delT at_ t)) := by
  have hsl := subs_le_weight t
  have hl : t.subV.length = t.subs.length := subV_len t
  refine pure_fn 300 Tryz.func135 rfl rfl rfl fun B => ?_
  refine ⟨by decide, h0, by rw [hl]; omega, room_of (by simp; omega) (by decide), ?_⟩
  refine ⟨⟨by omega, by omega⟩, by omega, by rw [hl]; omega, Int.le_refl _, rfl, by simp, room_of (by simp; omega) (by decide), ?_⟩
  refine ⟨trivial, rfl, rfl, rfl, by simp [List.length_append], rfl, ?_⟩
  rw [delT, withSubs_V, ← row_del _ _ h0]
  rfl

set_option maxRecDepth 100000 in
theorem w_refchange (t x y : Tree) (p : List Int) (hp : p.length ≤ 1000000) (ht : t.weight ≤ 1000000) (hy : atT t p = some y) : Pure Tryz.prog 78 [nodeV t, pathV p, nodeV x] (fun r => r = nodeV (changeT (fun _ => x) t p)) := by
  refine pure_fn 300 Tryz.func78 rfl rfl rfl fun B => ?_
  show CallThen _ _ _ _ _ _
  refine call_pure (w_refPut x p t y hp ht hy) rfl ?_
  rintro z rfl
  exact ⟨trivial, rfl, rfl, rfl, rfl⟩

theorem change_const {F : Tree → Tree} {y : Tree} : ∀ {p : List Int} {t : Tree}, atT t p = some y → changeT (fun _ => F y) t p = changeT F t p
  | [], t, h => by
    rw [atT] at h
    injection h with h
    subst h
    rfl
  | i :: p, t, h => by
    rw [atT] at h
    cases hs : subT t i with
    | none => rw [hs] at h; cases h
    | some s =>
      rw [hs] at h
      rw [changeT, changeT, hs]
      simp only
      rw [change_const (p := p) h]

set_option maxRecDepth 100000 in
theorem w_refWithout (t x : Tree) (p : List Int) (hp : p.length ≤ 1000000) (hne : p ≠ []) (ht : t.weight ≤ 1000000) (hx : atT t p = some x) : Pure Tryz.prog 80 [nodeV t, pathV p] (fun r => r = nodeV (withoutT t p)) := by
  obtain ⟨y, y1, y2, y3, y4⟩ := at_parent hne hx
  have hlen : 0 < p.length := List.length_pos_iff.2 hne
  have hyw := atT_weight y1
  refine pure_fn 300 Tryz.func80 rfl rfl rfl fun B => ?_
  refine ⟨by constructor <;> simp <;> omega, by decide, by simp; omega, by simp; omega, ?_⟩
  have e : (List.take ((((p.map intV).length : Int) - 1).toNat - Int.toNat 0) (List.drop (Int.toNat 0) (p.map intV))) = p.dropLast.map intV := by
    rw [List.dropLast_eq_take, List.map_take]
    simp
  show CallThen _ _ _ _ _ _
  rw [e]
  refine call_pure (w_refAt t p.dropLast (by simp; omega)) rfl ?_
  rintro z rfl
  rw [y1]
  show Goes _ _ _ _
  have hg : (p.map intV)[(((p.map intV).length : Int) - 1).toNat]? = some (intV (lastP p)) := by
    have e1 : (((p.map intV).length : Int) - 1).toNat = p.length - 1 := by simp
    rw [e1, List.getElem?_map, ← List.getLast?_eq_getElem?, List.getLast?_eq_some_getLast hne, lastP_eq hne]
    rfl
  have hlast := lastP_eq hne
  refine goes_draw 300 ⟨⟨by simp; omega, by simp; omega⟩, by simp; omega, _, hg, _, w_refdrop y (lastP p) (by omega) (by omega) (by omega), rfl, _, w_refchange t (delT (lastP p) y) y p.dropLast (by simp; omega) ht y1, rfl, ?_⟩
  refine ⟨by kernel_rfl, ?_⟩
  refine ⟨trivial, rfl, rfl, rfl, ?_⟩
  rw [change_const (F := delT (lastP p)) y1]
  rfl
end Bow
/- W33: the reference's attr. -/
namespace Bow
open Go Go.Proofs

theorem withAttrs_V (t : Tree) (a : AttrL) : nodeV (t.withAttrs a) = .agg [.int .u64 t.id, .bool t.leaf, .str t.label, .sl 2 (a.map attrV), .str t.text, .sl 6 t.subV] := by
  cases t
  rfl
theorem attrs_le_weight (t : Tree) : t.attrs.length ≤ t.weight := by rw [weight_eq]; omega

set_option maxHeartbeats 1000000 in
set_option maxRecDepth 100000 in
theorem w_refattr (t : Tree) (o : OpT) (ht : t.weight ≤ 400000) : Pure Tryz.prog 82 [nodeV t, opV o] (fun r => r = nodeV (t.withAttrs (refA o o.gone t.attrs))) := by
  have hal := attrs_le_weight t
  refine pure_fn 300 Tryz.func82 rfl rfl rfl fun B => ?_
  show Goes _ _ _ _
  refine goes_own 5 2 rfl ?_
  refine goes_iter (ι := Nat × Bool × Nat × Nat × List V) (fun i => i.1 ≤ t.attrs.length ∧ ∃ acc : AttrL, i.2.2.2.2 = acc.map attrV ∧ i.2.2.2.1 = acc.length ∧ acc.length ≤ 2 * i.1 ∧ acc ++ refA o i.2.1 (t.attrs.drop i.1) = refA o o.gone t.attrs) (fun i => t.attrs.length - i.1)
    (fun i => [(7, .int .i64 i.1), (6, .bool i.2.1), (5, .osl (.loc 3) i.2.2.1 0 i.2.2.2.1), (2, .ptr (.loc 0) 0), (3, .ptr (.loc 1) 0), (4, .ptr (.loc 2) 0)])
    (fun i => [some (.box (nodeV t).cells), some (.box (opV o).cells), some (.box (zeroV .nilsl).cells), some (.vec i.2.2.1 2 i.2.2.2.2)]) (0, o.gone, 0, 0, []) 300 (fun _ => rfl) (fun _ => rfl) ⟨⟨Nat.zero_le _, [], rfl, rfl, Nat.le_refl _, rfl⟩, ?_, ?_⟩ ?_
  · exact ⟨⟨rfl, rfl⟩, ⟨rfl, rfl⟩, ⟨rfl, rfl⟩, ⟨rfl, rfl⟩, ⟨rfl, rfl⟩, ⟨rfl, rfl⟩, trivial⟩
  · exact ⟨⟨rfl, rfl⟩, ⟨rfl, rfl⟩, ⟨rfl, rfl⟩, ⟨rfl, rfl⟩, trivial⟩
  rintro ⟨i, d, g, n, xs⟩ ⟨k1, acc, rfl, rfl, k2, k3⟩ next
  simp only at k1 k2 k3
  refine ⟨fun hlt => go 300 ?_, fun hge => go 300 ?_⟩
  · have hi : i < t.attrs.length := by simpa using hlt
    have hx : (t.attrs.map attrV)[i]? = some (attrV t.attrs[i]) := by simp [hi]
    rw [drop_cons hi, refA] at k3
    show Goes _ _ _ _
    refine goes_draw 300 ⟨fun q1 => ⟨Int.natCast_nonneg i, _, hx, ?_⟩, fun q1 => ?_⟩
    all_goals refine ⟨by kernel_rfl, ?_⟩
    · have hd : d = false := by simpa using q1
      subst hd
      refine ⟨fun q2 => go 300 ?_, fun q2 => go 300 ?_⟩
      · have hl : Op.bytesLess t.attrs[i].1 o.key = false := by simpa using q2
        rw [hl] at k3
        refine ⟨⟨rfl, trivial⟩, rfl, rfl, rfl, (by simp), room_of (by simp; omega) (by decide), ?_⟩
        show Goes _ _ _ _
        refine goes_draw 300 ⟨Int.natCast_nonneg i, _, hx, ?_⟩
        refine ⟨by kernel_rfl, ?_⟩
        refine ⟨fun q3 => go 300 ?_, fun q3 => go 300 ?_⟩
        · have he : decide (t.attrs[i].1 = o.key) = false := by simpa using q3
          rw [he] at k3
          refine ⟨Int.natCast_nonneg i, _, hx, ⟨rfl, trivial⟩, rfl, rfl, rfl, (by simp), room_of (by simp; omega) (by decide), ?_⟩
          refine ⟨by constructor <;> omega, ?_⟩
          show Goes _ _ _ _
          refine goes_wkSlot 6 (v := .tt) (v' := .bool true) rfl rfl rfl Wk.tt ?_
          refine next (i + 1, true, _, _, _) _ _ ⟨⟨hi, acc ++ [(o.key, o.value)] ++ [t.attrs[i]], ?_, ?_, ?_, ?_⟩, ?_, ⟨⟨rfl, rfl⟩, ⟨rfl, rfl⟩, ⟨rfl, rfl⟩, ⟨rfl, rfl⟩, ⟨rfl, rfl⟩, ⟨rfl, rfl⟩, trivial⟩, ⟨⟨rfl, rfl⟩, ⟨rfl, rfl⟩, ⟨rfl, rfl⟩, ⟨rfl, rfl⟩, trivial⟩⟩
          · simp [attrV]
          · simp
          · simp; omega
          · simpa using k3
          · simp only; omega
        · have he : decide (t.attrs[i].1 = o.key) = true := by simpa using q3
          rw [he] at k3
          refine ⟨by constructor <;> omega, ?_⟩
          show Goes _ _ _ _
          refine goes_wkSlot 6 (v := .tt) (v' := .bool true) rfl rfl rfl Wk.tt ?_
          refine next (i + 1, true, _, _, _) _ _ ⟨⟨hi, acc ++ [(o.key, o.value)], ?_, ?_, ?_, ?_⟩, ?_, ⟨⟨rfl, rfl⟩, ⟨rfl, rfl⟩, ⟨rfl, rfl⟩, ⟨rfl, rfl⟩, ⟨rfl, rfl⟩, ⟨rfl, rfl⟩, trivial⟩, ⟨⟨rfl, rfl⟩, ⟨rfl, rfl⟩, ⟨rfl, rfl⟩, ⟨rfl, rfl⟩, trivial⟩⟩
          · simp [attrV]
          · simp
          · simp; omega
          · simpa using k3
          · simp only; omega
      · have hl : Op.bytesLess t.attrs[i].1 o.key = true := by simpa using q2
        rw [hl] at k3
        show Goes _ _ _ _
        refine goes_draw 300 ⟨Int.natCast_nonneg i, _, hx, ?_⟩
        refine ⟨by kernel_rfl, ?_⟩
        refine ⟨fun q3 => go 300 ?_, fun q3 => go 300 ?_⟩
        · have he : decide (t.attrs[i].1 = o.key) = false := by simpa using q3
          rw [he] at k3
          refine ⟨Int.natCast_nonneg i, _, hx, ⟨rfl, trivial⟩, rfl, rfl, rfl, (by simp), room_of (by simp; omega) (by decide), ?_⟩
          refine ⟨by constructor <;> omega, ?_⟩
          show Goes _ _ _ _
          refine next (i + 1, false, bump g, (acc.map attrV).length + 1, acc.map attrV ++ [attrV t.attrs[i]]) _ _ ⟨⟨hi, acc ++ [t.attrs[i]], ?_, ?_, ?_, ?_⟩, ?_, ⟨⟨rfl, rfl⟩, ⟨rfl, rfl⟩, ⟨rfl, rfl⟩, ⟨rfl, rfl⟩, ⟨rfl, rfl⟩, ⟨rfl, rfl⟩, trivial⟩, ⟨⟨rfl, rfl⟩, ⟨rfl, rfl⟩, ⟨rfl, rfl⟩, ⟨rfl, rfl⟩, trivial⟩⟩
          · simp [attrV]
          · simp
          · simp; omega
          · simpa using k3
          · simp only; omega
        · have he : decide (t.attrs[i].1 = o.key) = true := by simpa using q3
          rw [he] at k3
          refine ⟨by constructor <;> omega, ?_⟩
          show Goes _ _ _ _
          refine next (i + 1, false, _, _, _) _ _ ⟨⟨hi, acc, ?_, ?_, ?_, ?_⟩, ?_, ⟨⟨rfl, rfl⟩, ⟨rfl, rfl⟩, ⟨rfl, rfl⟩, ⟨rfl, rfl⟩, ⟨rfl, rfl⟩, ⟨rfl, rfl⟩, trivial⟩, ⟨⟨rfl, rfl⟩, ⟨rfl, rfl⟩, ⟨rfl, rfl⟩, ⟨rfl, rfl⟩, trivial⟩⟩
          · simp
          · simp
          · simp; omega
          · simpa using k3
          · simp only; omega
    · have hd : d = true := by simpa using q1
      subst hd
      show Goes _ _ _ _
      refine goes_draw 300 ⟨Int.natCast_nonneg i, _, hx, ?_⟩
      refine ⟨by kernel_rfl, ?_⟩
      refine ⟨fun q3 => go 300 ?_, fun q3 => go 300 ?_⟩
      · have he : decide (t.attrs[i].1 = o.key) = false := by simpa using q3
        rw [he] at k3
        refine ⟨Int.natCast_nonneg i, _, hx, ⟨rfl, trivial⟩, rfl, rfl, rfl, (by simp), room_of (by simp; omega) (by decide), ?_⟩
        refine ⟨by constructor <;> omega, ?_⟩
        show Goes _ _ _ _
        refine next (i + 1, true, bump g, (acc.map attrV).length + 1, acc.map attrV ++ [attrV t.attrs[i]]) _ _ ⟨⟨hi, acc ++ [t.attrs[i]], ?_, ?_, ?_, ?_⟩, ?_, ⟨⟨rfl, rfl⟩, ⟨rfl, rfl⟩, ⟨rfl, rfl⟩, ⟨rfl, rfl⟩, ⟨rfl, rfl⟩, ⟨rfl, rfl⟩, trivial⟩, ⟨⟨rfl, rfl⟩, ⟨rfl, rfl⟩, ⟨rfl, rfl⟩, ⟨rfl, rfl⟩, trivial⟩⟩
        · simp [attrV]
        · simp
        · simp; omega
        · simpa using k3
        · simp only; omega
      · have he : decide (t.attrs[i].1 = o.key) = true := by simpa using q3
        rw [he] at k3
        refine ⟨by constructor <;> omega, ?_⟩
        show Goes _ _ _ _
        refine next (i + 1, true, _, _, _) _ _ ⟨⟨hi, acc, ?_, ?_, ?_, ?_⟩, ?_, ⟨⟨rfl, rfl⟩, ⟨rfl, rfl⟩, ⟨rfl, rfl⟩, ⟨rfl, rfl⟩, ⟨rfl, rfl⟩, ⟨rfl, rfl⟩, trivial⟩, ⟨⟨rfl, rfl⟩, ⟨rfl, rfl⟩, ⟨rfl, rfl⟩, ⟨rfl, rfl⟩, trivial⟩⟩
        · simp
        · simp
        · simp; omega
        · simpa using k3
        · simp only; omega
  · have hi : i = t.attrs.length := by have : t.attrs.length ≤ i := by simpa using hge
                                       omega
    subst hi
    rw [List.drop_length, refA] at k3
    refine ⟨fun q1 => go 300 ?_, fun q1 => go 300 ?_⟩
    · have hd : d = false := by simpa using q1
      subst hd
      refine ⟨⟨rfl, trivial⟩, rfl, rfl, rfl, (by simp), room_of (by simp; omega) (by decide), ?_⟩
      refine ⟨trivial, rfl, rfl, rfl, (by simp), rfl, ?_⟩
      rw [withAttrs_V, ← k3]
      simp [attrV]
    · have hd : d = true := by simpa using q1
      subst hd
      refine ⟨trivial, rfl, rfl, rfl, (by simp), rfl, ?_⟩
      rw [withAttrs_V, ← k3]
      simp
end Bow
/- W34: the reference's move. -/
namespace Bow
open Go Go.Proofs

theorem pure_sl_cast {P : Program} {f : FuncId} {a : V} {sz : Nat} {q q' : List V} {Q : V → Prop} (h : Pure P f [a, .sl sz q'] Q) (e : q = q') : Pure P f [a, .sl sz q] Q := e ▸ h

set_option maxHeartbeats 1000000 in
set_option maxRecDepth 100000 in
theorem w_refmove (t x z : Tree) (o : OpT) (ht : t.weight ≤ 400000) (ho : o.Ok) (hfr : ∀ i ∈ o.path, inI (i + 1)) (hne : o.path ≠ []) (hx : atT t o.path = some x) (hw : within o.path o.to = false) (hz : atT t o.to = some z) (h0 : 0 ≤ o.at_) (h1 : o.at_ ≤ z.subs.length) :
    Pure Tryz.prog 81 [nodeV t, opV o] (fun r => r = nodeV (moveT x t o)) := by
  have hp := ho.lt.path
  have hpt := ho.lt.to
  have hxw := atT_weight hx
  have hzw := atT_weight hz
  have hmw := change_weight_add (F := insT o.at_ x) (n := x.weight) (ins_weight o.at_ x) o.to t
  obtain ⟨s', hs'⟩ := lift_at h0 x o.path o.to t x z hne hx hw hz h1
  have law := move_law h0 x o.path o.to t x z hne hx hw hz h1
  refine pure_fn 300 Tryz.func81 rfl rfl rfl fun B => ?_
  show CallThen _ _ _ _ _ _
  refine call_pure (w_refAt t o.path hp) rfl ?_
  rintro _ rfl
  rw [hx]
  show CallThen _ _ _ _ _ _
  refine call_pure (w_refAt t o.to hpt) rfl ?_
  rintro _ rfl
  rw [hz]
  show Goes _ _ _ _
  refine goes_draw 300 ⟨_, w_refputs z x o.at_ (by omega) h0 h1, rfl, _, w_refchange t (insT o.at_ x z) z o.to hpt (by omega) hz, rfl, ?_⟩
  rw [change_const (F := insT o.at_ x) hz]
  refine ⟨by kernel_rfl, ?_⟩
  refine ⟨by kernel_rfl, ?_⟩
  show CallThen _ _ _ _ _ _
  refine call_sub [] (w_CopiedQ (o.path.map intV) (by simpa using hp)) rfl rfl trivial rfl rfl rfl ?_
  rintro r T1 ⟨rfl, rfl⟩
  refine ⟨rfl, ?_⟩
  show Goes _ _ _ _
  have hwith := w_refWithin o.to o.path hpt
  have hm : (changeT (insT o.at_ x) t o.to).weight ≤ 1000000 := by omega
  have hwo : Pure Tryz.prog 80 [nodeV (changeT (insT o.at_ x) t o.to), pathV (liftP o.to o.at_ o.path)] (fun r => r = nodeV (moveT x t o)) := by
    have := w_refWithout (changeT (insT o.at_ x) t o.to) s' (liftP o.to o.at_ o.path) (by rw [lift_len]; exact hp) (fun e => hne (List.length_eq_zero_iff.1 (by rw [← lift_len o.to o.at_ o.path, e]; rfl))) hm hs'
    rw [law] at this
    exact this
  have hsame : (decide (o.to.length < o.path.length) && (within o.to o.path && decide (o.at_ ≤ o.path.getD o.to.length 0))) = false → liftP o.to o.at_ o.path = o.path := fun h => by unfold liftP; rw [h]; rfl
  refine goes_draw 300 ⟨rfl, fun q1 => ⟨rfl, rfl, _, hwith, rfl, ⟨fun q2 => ?_, fun q2 => ?_⟩⟩, fun q1 => ?_⟩
  · have hd : o.to.length < o.path.length := by have := lt_of q1; simp at this; omega
    have hg : (o.path.map intV)[0 + (((o.to.map intV).length : Nat) : Int).toNat]? = some (intV o.path[o.to.length]) := by simp [hd]
    have hgd : o.path.getD o.to.length 0 = o.path[o.to.length] := by simp [List.getD_eq_getElem?_getD, hd]
    have hb0 : (0 : Int) ≤ ((o.to.map intV).length : Nat) := Int.natCast_nonneg _
    have hb1 : (((o.to.map intV).length : Nat) : Int) < ((o.path.map intV).length : Nat) := by simp; omega
    refine ⟨rfl, hb0, hb1, rfl, _, hg, ?_⟩
    refine ⟨by kernel_rfl, ?_⟩
    refine ⟨fun q3 => go 300 ?_, fun q3 => go 300 ?_⟩
    · have hin := hfr _ (List.getElem_mem hd)
      refine ⟨rfl, hb0, hb1, rfl, _, hg, hin, rfl, hb0, hb1, rfl, _, hg, ?_⟩
      show CallThen _ _ _ _ _ _
      refine call_pure_frz ?_
      refine ⟨rfl, by simp, fun r => r = nodeV (moveT x t o), ?_, rfl, ?_⟩
      · refine pure_sl_cast (q' := (liftP o.to o.at_ o.path).map intV) hwo ?_
        have e : liftP o.to o.at_ o.path = o.path.set o.to.length (o.path[o.to.length] + 1) := by
          unfold liftP
          have q2 : within o.to o.path = true := by simpa using q2
          have q3 : o.at_ ≤ o.path[o.to.length] := le_of q3
          rw [hgd, decide_eq_true hd, q2, decide_eq_true q3]
          rfl
        rw [e, List.map_set]
        simp
        rfl
      · rintro r rfl
        exact ⟨trivial, rfl, rfl, rfl, rfl⟩
    · have e := hsame (by
        have q3 := not_le_of q3
        rw [hgd, decide_eq_false (by omega : ¬ o.at_ ≤ o.path[o.to.length])]
        simp)
      rw [e] at hwo
      show CallThen _ _ _ _ _ _
      refine call_pure_frz ?_
      refine ⟨rfl, rfl, fun r => r = nodeV (moveT x t o), hwo, rfl, ?_⟩
      rintro r rfl
      exact ⟨trivial, rfl, rfl, rfl, rfl⟩
  · have e := hsame (by
      have q2 : within o.to o.path = false := by simpa using q2
      rw [q2]
      simp)
    rw [e] at hwo
    refine ⟨by kernel_rfl, ?_⟩
    show CallThen _ _ _ _ _ _
    refine call_pure_frz ?_
    refine ⟨rfl, rfl, fun r => r = nodeV (moveT x t o), hwo, rfl, ?_⟩
    rintro r rfl
    exact ⟨trivial, rfl, rfl, rfl, rfl⟩
  · have e := hsame (by
      have q1 : ¬ o.to.length < o.path.length := by have := not_lt_of q1; simp at this; omega
      rw [decide_eq_false q1]
      rfl)
    rw [e] at hwo
    refine ⟨by kernel_rfl, ?_⟩
    show CallThen _ _ _ _ _ _
    refine call_pure_frz ?_
    refine ⟨rfl, rfl, fun r => r = nodeV (moveT x t o), hwo, rfl, ?_⟩
    rintro r rfl
    exact ⟨trivial, rfl, rfl, rfl, rfl⟩
end Bow
/- WB2: strings.Compare at this program: by the kit's own tactics. -/
namespace Bow
open Go Go.Proofs Go.RowKit Go.Shelf

set_option maxHeartbeats 1000000 in
set_option maxRecDepth 100000 in
theorem c_CompareString (a b : ByteArray) (w : World) :
    Calls Tryz.prog 226 #[.string a, .string b] w fun e w' => e = .returned (.int .i64 (Lib.compareBytes a.data.toList b.data.toList)) ∧ w' = w := by
  go_enter Tryz.func226, Tryz.ntmps226
  go_wp2
  rw [run_callFunc_extern Tryz.func246 (by kernel_rfl) (by kernel_rfl) (by kernel_rfl) (e := Extern.BytealgCompare.compare) (by kernel_rfl), Lib.run_compareString]
  simp only [Result.andThen]
  rw [Oper.upon_value]
  go_wp2
  go_ret
  exact ⟨rfl, rfl⟩
set_option maxHeartbeats 1000000 in
set_option maxRecDepth 100000 in
theorem c_Compare (a b : ByteArray) (w : World) :
    Calls Tryz.prog 199 #[.string a, .string b] w fun e w' => e = .returned (.int .i64 (Lib.compareBytes a.data.toList b.data.toList)) ∧ w' = w := by
  go_enter Tryz.func199, Tryz.ntmps199
  go_wp2_with (go_at_call 226; refine (c_CompareString _ _ _).mono ?_; rintro e w' ⟨rfl, rfl⟩)
  go_ret
  exact ⟨rfl, rfl⟩

theorem w_Compare (a b : List UInt8) : Pure Tryz.prog 199 [.str a, .str b] (fun x => x = .int .i64 (Lib.compareBytes a b)) := by
  refine pure_of_calls ⟨_, Tryz.func199, rfl, rfl⟩ rfl fun w β H vals hv hr => ?_
  obtain ⟨v0, v1, rfl⟩ : ∃ v0 v1, vals = #[v0, v1] := by
    obtain ⟨l⟩ := vals
    match l, hv with
    | [v0, v1], _ => exact ⟨v0, v1, rfl⟩
  obtain ⟨rfl, _⟩ := rep_str (m := []) (hr 0 _ v0 rfl rfl)
  obtain ⟨rfl, _⟩ := rep_str (m := []) (hr 1 _ v1 rfl rfl)
  refine (c_Compare ⟨a.toArray⟩ ⟨b.toArray⟩ w).mono ?_
  rintro e w' ⟨rfl, rfl⟩
  exact ⟨Below.refl _ _, .int .i64 (Lib.compareBytes a b), _, rfl, rfl, rfl, .int _ _⟩
end Bow
/- W35: the program's search for an attribute. -/
namespace Bow
open Go Go.Proofs

theorem w_cmpAttr (a : List UInt8 × List UInt8) (k : List UInt8) : Pure Tryz.prog 198 [attrV a, .str k] (fun x => x = .int .i64 (Lib.compareBytes a.1 k)) := by
  refine pure_fn 300 Tryz.func198 rfl rfl rfl fun B => ?_
  show CallThen _ _ _ _ _ _
  refine call_pure (w_Compare a.1 k) rfl ?_
  rintro x rfl
  exact ⟨trivial, rfl, rfl, rfl, rfl⟩

theorem half_eq (i j : Nat) (h : i + j ≤ 2000000) : IntKind.i64.wrap (IntKind.u64.wrap ((i : Int) + j) / 2 ^ min (1 : Int).toNat IntKind.u64.bits) = (((i + j) / 2 : Nat) : Int) := by
  have e : IntKind.u64.wrap ((i : Int) + j) = ((i + j : Nat) : Int) := by
    unfold IntKind.wrap
    simp [IntKind.signed, IntKind.bits]
    omega
  rw [e]
  unfold IntKind.wrap
  simp [IntKind.signed, IntKind.bits]
  omega

set_option maxRecDepth 100000 in
theorem w_search (l : AttrL) (k : List UInt8) (k0 : Option (List UInt8)) (hl : l.length ≤ 1000000) (hs : attrsOk k0 l = true) : Pure Tryz.prog 197 [.sl 2 (l.map attrV), .str k, .fn (.func 198) [] []] (fun x => x = .tup [.int .i64 (posK k l), .bool (hasK k l)]) := by
  have hpl := pos_le k l
  refine pure_wk (pure_fn 300 Tryz.func197 rfl rfl rfl fun B => ?_)
  show Goes _ _ _ _
  refine goes_while (ι := Nat × Nat) (κ := Unit) (fun i => i.1 ≤ posK k l ∧ posK k l ≤ i.2 ∧ i.2 ≤ l.length) (fun i => i.2 - i.1)
    (fun i => [(9, .int .i64 i.1), (10, .int .i64 i.2), (8, .int .i64 (l.map attrV).length), (0, .sl 2 (l.map attrV)), (1, .str k), (2, .fn (.func 198) [] [])]) (fun _ => []) (0, (l.map attrV).length) (fun _ => True)
    (fun _ => [(9, .int .i64 (posK k l)), (8, .int .i64 (l.map attrV).length), (0, .sl 2 (l.map attrV)), (1, .str k), (2, .fn (.func 198) [] [])]) (fun _ => []) 300 (fun _ => rfl) (fun _ => rfl) (fun _ => rfl) (fun _ => rfl) ⟨⟨Nat.zero_le _, by simpa using hpl, by simp⟩, ?_, trivial⟩ ?_ ?_
  · exact ⟨⟨rfl, rfl⟩, ⟨rfl, rfl⟩, ⟨rfl, rfl⟩, ⟨rfl, rfl⟩, ⟨rfl, rfl⟩, ⟨rfl, rfl⟩, trivial⟩
  · rintro ⟨⟩ _
    refine ⟨fun q1 => go 300 ?_, fun q1 => go 300 ?_⟩
    · have hp : posK k l < l.length := by have := lt_of q1; simp at this; omega
      have hx : (l.map attrV)[posK k l]? = some (attrV l[posK k l]) := by simp [hp]
      refine ⟨Int.natCast_nonneg _, _, hx, ?_⟩
      show CallThen _ _ _ _ _ _
      refine call_pure (w_cmpAttr l[posK k l] k) rfl ?_
      rintro x rfl
      refine ⟨trivial, rfl, rfl, rfl, _, Wk.refl _, rfl, ?_⟩
      have hgd : l.getD (posK k l) ([], []) = l[posK k l] := by simp [List.getD_eq_getElem?_getD, hp]
      have e : hasK k l = decide (Lib.compareBytes l[posK k l].1 k = 0) := by
        unfold hasK
        rw [decide_eq_true hp, Bool.true_and, hgd]
        exact decide_eq_decide.2 (cmp_zero _ _).symm
      rw [e]
    · have hp : ¬ posK k l < l.length := by have := not_lt_of q1; simp at this; omega
      refine ⟨trivial, rfl, rfl, rfl, .tup [.int .i64 (posK k l), .bool false], Wk.tup ⟨.refl _, Wk.ff, trivial⟩, rfl, ?_⟩
      have e : hasK k l = false := by unfold hasK; rw [decide_eq_false hp]; rfl
      rw [e]
  · rintro ⟨i, j⟩ ⟨k1, k2, k3⟩ next post
    simp only at k1 k2 k3
    refine ⟨fun hlt => go 300 ?_, fun hge => go 300 ?_⟩
    · have hij : i < j := by have := lt_of hlt; omega
      refine ⟨by constructor <;> simp only <;> omega, ?_⟩
      show Goes _ _ _ _
      refine goes_shr 2 rfl rfl rfl rfl rfl (by decide) ?_
      show Goes _ _ _ _
      refine goes_wkSlot 11 (v' := .int .i64 (((i + j) / 2 : Nat) : Int)) rfl rfl rfl (Wk.of_eq (congrArg (V.int .i64) (half_eq i j (by omega)))) ?_
      refine go 300 ?_
      obtain ⟨m, hm⟩ : ∃ m, (i + j) / 2 = m := ⟨_, rfl⟩
      have hml : m < l.length := by omega
      have hx : (l.map attrV)[m]? = some (attrV l[m]) := by simp [hml]
      rw [hm]
      refine ⟨Int.natCast_nonneg _, _, hx, ?_⟩
      show CallThen _ _ _ _ _ _
      refine call_pure (w_cmpAttr l[m] k) rfl ?_
      rintro x rfl
      have hpi := pos_iff k hs m hml
      refine ⟨fun q2 => go 300 ?_, fun q2 => go 300 ?_⟩
      · have q2 := hpi.1 ((cmp_less _ _).1 (lt_of q2))
        refine ⟨by constructor <;> omega, ?_⟩
        show Goes _ _ _ _
        refine next (m + 1, j) _ _ ⟨⟨q2, k2, k3⟩, by simp only; omega, ⟨⟨rfl, rfl⟩, ⟨rfl, rfl⟩, ⟨rfl, rfl⟩, ⟨rfl, rfl⟩, ⟨rfl, rfl⟩, ⟨rfl, rfl⟩, trivial⟩, trivial⟩
      · have q2 : ¬ m < posK k l := fun h => by
          have := (cmp_less _ _).2 (hpi.2 h)
          have := not_lt_of q2
          omega
        show Goes _ _ _ _
        refine next (i, m) _ _ ⟨⟨k1, by simp only; omega, by simp only; omega⟩, by simp only; omega, ⟨⟨rfl, rfl⟩, ⟨rfl, rfl⟩, ⟨rfl, rfl⟩, ⟨rfl, rfl⟩, ⟨rfl, rfl⟩, ⟨rfl, rfl⟩, trivial⟩, trivial⟩
    · have hij : i = posK k l := by have := not_lt_of hge; omega
      subst hij
      exact post () _ _ _ rfl ⟨trivial, ⟨⟨rfl, rfl⟩, ⟨rfl, rfl⟩, ⟨rfl, rfl⟩, ⟨rfl, rfl⟩, ⟨rfl, rfl⟩, trivial⟩, trivial⟩
end Bow
/- W36: the program's setAttr. -/
namespace Bow
open Go Go.Proofs

set_option maxHeartbeats 1000000 in
set_option maxRecDepth 100000 in
theorem w_setAttr (o : OpT) (y : Tree) (k0 : Option (List UInt8)) (hs : attrsOk k0 y.attrs = true) (hl : y.attrs.length ≤ 900000) : Fun Tryz.prog 154 [some (.box (nodeV y).cells)] [.ptr (.loc 0) 0, opV o] (fun _ T => T = [some (.box (nodeV (setAT o y)).cells)]) := by
  refine fun_keep 1 rfl (fun_fn 300 Tryz.func154 rfl rfl rfl fun imps B hi => ?_)
  obtain ⟨r, rfl⟩ := List.length_eq_one_iff.1 hi
  have hpl := pos_le o.key y.attrs
  have hpl' : ((posK o.key y.attrs : Nat) : Int) ≤ (y.attrs.map attrV).length := by simp; omega
  have hsr := w_search y.attrs o.key k0 (by omega) hs
  show Goes _ _ _ _
  refine goes_draw 300 ⟨_, hsr, rfl, ?_⟩
  refine ⟨by kernel_rfl, ?_⟩
  refine ⟨fun q1 => go 300 ?_, fun q1 => go 300 ?_⟩
  · have q1 : hasK o.key y.attrs = true := by simpa using q1
    have hp : posK o.key y.attrs < y.attrs.length := by
      unfold hasK at q1
      simp only [Bool.and_eq_true, decide_eq_true_eq] at q1
      exact q1.1
    have hpl'' : ((posK o.key y.attrs : Nat) : Int) + 1 ≤ (y.attrs.map attrV).length := by simp; omega
    have hp0 : (0 : Int) ≤ ((posK o.key y.attrs : Nat) : Int) + 1 := by omega
    refine ⟨by constructor <;> omega, ?_⟩
    refine ⟨fun q2 => go 300 ?_, fun q2 => go 300 ?_⟩
    · have q2 : o.gone = false := by simpa using q2
      refine ⟨⟨rfl, trivial⟩, ?_⟩
      show Goes _ _ _ _
      have hc := w_ConcatAttr [(((y.attrs.map attrV).drop (Int.toNat 0)).take (((posK o.key y.attrs : Nat) : Int).toNat - Int.toNat 0)), [attrV (o.key, o.value)], (((y.attrs.map attrV).drop (((posK o.key y.attrs : Nat) : Int) + 1).toNat).take (((y.attrs.map attrV).length : Int).toNat - (((posK o.key y.attrs : Nat) : Int) + 1).toNat))] (by simp; omega) (by simp)
      refine goes_draw 300 ⟨by decide, Int.natCast_nonneg _, hpl', hp0, hpl'', Int.le_refl _, ?_⟩
      refine ⟨by kernel_rfl, rfl, rfl, ⟨rfl, rfl, rfl, trivial⟩, rfl, rfl, rfl, _, hc, rfl, ?_⟩
      refine ⟨by kernel_rfl, ?_⟩
      refine ⟨trivial, rfl, rfl, [some (.box [.int .u64 y.id, .bool y.leaf, .str y.label, .sl 2 [(((y.attrs.map attrV).drop (Int.toNat 0)).take (((posK o.key y.attrs : Nat) : Int).toNat - Int.toNat 0)), [attrV (o.key, o.value)], (((y.attrs.map attrV).drop (((posK o.key y.attrs : Nat) : Int) + 1).toNat).take (((y.attrs.map attrV).length : Int).toNat - (((posK o.key y.attrs : Nat) : Int) + 1).toNat))].flatten, .str y.text, .sl 6 y.subV])], rfl, rfl, ⟨⟨rfl, rfl⟩, trivial⟩, ?_⟩
      have e : [(((y.attrs.map attrV).drop (Int.toNat 0)).take (((posK o.key y.attrs : Nat) : Int).toNat - Int.toNat 0)), [attrV (o.key, o.value)], (((y.attrs.map attrV).drop (((posK o.key y.attrs : Nat) : Int) + 1).toNat).take (((y.attrs.map attrV).length : Int).toNat - (((posK o.key y.attrs : Nat) : Int) + 1).toNat))].flatten = (setA o y.attrs).map attrV := by
        unfold setA midA
        rw [q1, q2]
        rw [List.take_of_length_le (l := List.drop (((posK o.key y.attrs : Nat) : Int) + 1).toNat (y.attrs.map attrV)) (by simp)]
        have e1 : (((posK o.key y.attrs : Nat) : Int) + 1).toNat = posK o.key y.attrs + 1 := by omega
        rw [e1]
        simp [List.map_take, List.map_drop]
      rw [e, setAT, withAttrs_V]
      rfl
    · have q2 : o.gone = true := by simpa using q2
      show Goes _ _ _ _
      have hc := w_ConcatAttr [(((y.attrs.map attrV).drop (Int.toNat 0)).take (((posK o.key y.attrs : Nat) : Int).toNat - Int.toNat 0)), [], (((y.attrs.map attrV).drop (((posK o.key y.attrs : Nat) : Int) + 1).toNat).take (((y.attrs.map attrV).length : Int).toNat - (((posK o.key y.attrs : Nat) : Int) + 1).toNat))] (by simp; omega) (by simp)
      have hc := pure_args (args' := [.sl 1 ([(((y.attrs.map attrV).drop (Int.toNat 0)).take (((posK o.key y.attrs : Nat) : Int).toNat - Int.toNat 0)), [], (((y.attrs.map attrV).drop (((posK o.key y.attrs : Nat) : Int) + 1).toNat).take (((y.attrs.map attrV).length : Int).toNat - (((posK o.key y.attrs : Nat) : Int) + 1).toNat))].map (V.sl 2))]) (args := [.sl 1 [.sl 2 (((y.attrs.map attrV).drop (Int.toNat 0)).take (((posK o.key y.attrs : Nat) : Int).toNat - Int.toNat 0)), .nilsl, .sl 2 (((y.attrs.map attrV).drop (((posK o.key y.attrs : Nat) : Int) + 1).toNat).take (((y.attrs.map attrV).length : Int).toNat - (((posK o.key y.attrs : Nat) : Int) + 1).toNat))]]) hc ⟨Wk.sl ⟨⟨⟨.refl _, trivial⟩, ⟨rfl, rfl⟩⟩, ⟨⟨Wk.nil 2, trivial⟩, ⟨rfl, rfl⟩⟩, ⟨⟨.refl _, trivial⟩, ⟨rfl, rfl⟩⟩, trivial⟩, trivial⟩ rfl rfl
      refine goes_draw 300 ⟨by decide, Int.natCast_nonneg _, hpl', hp0, hpl'', Int.le_refl _, ?_⟩
      refine ⟨by kernel_rfl, ⟨rfl, rfl, rfl, trivial⟩, rfl, rfl, rfl, _, hc, rfl, ?_⟩
      refine ⟨by kernel_rfl, ?_⟩
      refine ⟨trivial, rfl, rfl, [some (.box [.int .u64 y.id, .bool y.leaf, .str y.label, .sl 2 [(((y.attrs.map attrV).drop (Int.toNat 0)).take (((posK o.key y.attrs : Nat) : Int).toNat - Int.toNat 0)), [], (((y.attrs.map attrV).drop (((posK o.key y.attrs : Nat) : Int) + 1).toNat).take (((y.attrs.map attrV).length : Int).toNat - (((posK o.key y.attrs : Nat) : Int) + 1).toNat))].flatten, .str y.text, .sl 6 y.subV])], rfl, rfl, ⟨⟨rfl, rfl⟩, trivial⟩, ?_⟩
      have e : [(((y.attrs.map attrV).drop (Int.toNat 0)).take (((posK o.key y.attrs : Nat) : Int).toNat - Int.toNat 0)), [], (((y.attrs.map attrV).drop (((posK o.key y.attrs : Nat) : Int) + 1).toNat).take (((y.attrs.map attrV).length : Int).toNat - (((posK o.key y.attrs : Nat) : Int) + 1).toNat))].flatten = (setA o y.attrs).map attrV := by
        unfold setA midA
        rw [q1, q2]
        rw [List.take_of_length_le (l := List.drop (((posK o.key y.attrs : Nat) : Int) + 1).toNat (y.attrs.map attrV)) (by simp)]
        have e1 : (((posK o.key y.attrs : Nat) : Int) + 1).toNat = posK o.key y.attrs + 1 := by omega
        rw [e1]
        simp [List.map_take, List.map_drop]
      rw [e, setAT, withAttrs_V]
      rfl
  · have q1 : hasK o.key y.attrs = false := by simpa using q1
    have hpl'' := hpl'
    have hp0 : (0 : Int) ≤ ((posK o.key y.attrs : Nat) : Int) := Int.natCast_nonneg _
    refine ⟨fun q2 => go 300 ?_, fun q2 => go 300 ?_⟩
    · have q2 : o.gone = false := by simpa using q2
      refine ⟨⟨rfl, trivial⟩, ?_⟩
      show Goes _ _ _ _
      have hc := w_ConcatAttr [(((y.attrs.map attrV).drop (Int.toNat 0)).take (((posK o.key y.attrs : Nat) : Int).toNat - Int.toNat 0)), [attrV (o.key, o.value)], (((y.attrs.map attrV).drop ((posK o.key y.attrs : Nat) : Int).toNat).take (((y.attrs.map attrV).length : Int).toNat - ((posK o.key y.attrs : Nat) : Int).toNat))] (by simp; omega) (by simp)
      refine goes_draw 300 ⟨by decide, Int.natCast_nonneg _, hpl', hp0, hpl'', Int.le_refl _, ?_⟩
      refine ⟨by kernel_rfl, rfl, rfl, ⟨rfl, rfl, rfl, trivial⟩, rfl, rfl, rfl, _, hc, rfl, ?_⟩
      refine ⟨by kernel_rfl, ?_⟩
      refine ⟨trivial, rfl, rfl, [some (.box [.int .u64 y.id, .bool y.leaf, .str y.label, .sl 2 [(((y.attrs.map attrV).drop (Int.toNat 0)).take (((posK o.key y.attrs : Nat) : Int).toNat - Int.toNat 0)), [attrV (o.key, o.value)], (((y.attrs.map attrV).drop ((posK o.key y.attrs : Nat) : Int).toNat).take (((y.attrs.map attrV).length : Int).toNat - ((posK o.key y.attrs : Nat) : Int).toNat))].flatten, .str y.text, .sl 6 y.subV])], rfl, rfl, ⟨⟨rfl, rfl⟩, trivial⟩, ?_⟩
      have e : [(((y.attrs.map attrV).drop (Int.toNat 0)).take (((posK o.key y.attrs : Nat) : Int).toNat - Int.toNat 0)), [attrV (o.key, o.value)], (((y.attrs.map attrV).drop ((posK o.key y.attrs : Nat) : Int).toNat).take (((y.attrs.map attrV).length : Int).toNat - ((posK o.key y.attrs : Nat) : Int).toNat))].flatten = (setA o y.attrs).map attrV := by
        unfold setA midA
        rw [q1, q2]
        rw [List.take_of_length_le (l := List.drop ((posK o.key y.attrs : Nat) : Int).toNat (y.attrs.map attrV)) (by simp)]
        simp [List.map_take, List.map_drop]
      rw [e, setAT, withAttrs_V]
      rfl
    · have q2 : o.gone = true := by simpa using q2
      show Goes _ _ _ _
      have hc := w_ConcatAttr [(((y.attrs.map attrV).drop (Int.toNat 0)).take (((posK o.key y.attrs : Nat) : Int).toNat - Int.toNat 0)), [], (((y.attrs.map attrV).drop ((posK o.key y.attrs : Nat) : Int).toNat).take (((y.attrs.map attrV).length : Int).toNat - ((posK o.key y.attrs : Nat) : Int).toNat))] (by simp; omega) (by simp)
      have hc := pure_args (args' := [.sl 1 ([(((y.attrs.map attrV).drop (Int.toNat 0)).take (((posK o.key y.attrs : Nat) : Int).toNat - Int.toNat 0)), [], (((y.attrs.map attrV).drop ((posK o.key y.attrs : Nat) : Int).toNat).take (((y.attrs.map attrV).length : Int).toNat - ((posK o.key y.attrs : Nat) : Int).toNat))].map (V.sl 2))]) (args := [.sl 1 [.sl 2 (((y.attrs.map attrV).drop (Int.toNat 0)).take (((posK o.key y.attrs : Nat) : Int).toNat - Int.toNat 0)), .nilsl, .sl 2 (((y.attrs.map attrV).drop ((posK o.key y.attrs : Nat) : Int).toNat).take (((y.attrs.map attrV).length : Int).toNat - ((posK o.key y.attrs : Nat) : Int).toNat))]]) hc ⟨Wk.sl ⟨⟨⟨.refl _, trivial⟩, ⟨rfl, rfl⟩⟩, ⟨⟨Wk.nil 2, trivial⟩, ⟨rfl, rfl⟩⟩, ⟨⟨.refl _, trivial⟩, ⟨rfl, rfl⟩⟩, trivial⟩, trivial⟩ rfl rfl
      refine goes_draw 300 ⟨by decide, Int.natCast_nonneg _, hpl', hp0, hpl'', Int.le_refl _, ?_⟩
      refine ⟨by kernel_rfl, ⟨rfl, rfl, rfl, trivial⟩, rfl, rfl, rfl, _, hc, rfl, ?_⟩
      refine ⟨by kernel_rfl, ?_⟩
      refine ⟨trivial, rfl, rfl, [some (.box [.int .u64 y.id, .bool y.leaf, .str y.label, .sl 2 [(((y.attrs.map attrV).drop (Int.toNat 0)).take (((posK o.key y.attrs : Nat) : Int).toNat - Int.toNat 0)), [], (((y.attrs.map attrV).drop ((posK o.key y.attrs : Nat) : Int).toNat).take (((y.attrs.map attrV).length : Int).toNat - ((posK o.key y.attrs : Nat) : Int).toNat))].flatten, .str y.text, .sl 6 y.subV])], rfl, rfl, ⟨⟨rfl, rfl⟩, trivial⟩, ?_⟩
      have e : [(((y.attrs.map attrV).drop (Int.toNat 0)).take (((posK o.key y.attrs : Nat) : Int).toNat - Int.toNat 0)), [], (((y.attrs.map attrV).drop ((posK o.key y.attrs : Nat) : Int).toNat).take (((y.attrs.map attrV).length : Int).toNat - ((posK o.key y.attrs : Nat) : Int).toNat))].flatten = (setA o y.attrs).map attrV := by
        unfold setA midA
        rw [q1, q2]
        rw [List.take_of_length_le (l := List.drop ((posK o.key y.attrs : Nat) : Int).toNat (y.attrs.map attrV)) (by simp)]
        simp [List.map_take, List.map_drop]
      rw [e, setAT, withAttrs_V]
      rfl
end Bow
/- W37: the program's apply, Apply. -/
namespace Bow
open Go Go.Proofs

theorem w_apply1 (o : OpT) (y : Tree) (k0 : Option (List UInt8)) (hs : attrsOk k0 y.attrs = true) (hl : y.attrs.length ≤ 900000) : Fun Tryz.prog 153 [some (.box (nodeV y).cells)] [.ptr (.loc 0) 0, .iptr (opV o).cells 0] (fun _ T => T = [some (.box (nodeV (setAT o y)).cells)]) := by
  refine fun_fn 100 Tryz.func153 rfl rfl rfl fun imps B hi => ?_
  obtain ⟨r, rfl⟩ := List.length_eq_one_iff.1 hi
  show CallThen _ _ _ _ _ _
  refine call_sub [0] (w_setAttr o y k0 hs hl) rfl rfl ⟨⟨rfl, rfl⟩, trivial⟩ rfl rfl rfl ?_
  rintro x T1 rfl
  refine ⟨rfl, ?_⟩
  exact ⟨trivial, rfl, rfl, rfl⟩

set_option maxRecDepth 100000 in
theorem w_apply_att (t y : Tree) (o : OpT) (ht : t.weight ≤ 900000) (ho : o.Ok) (hk : o.kind = 4) (hy : atT t o.path = some y) (hs : attrsOk none y.attrs = true) : Pure Tryz.prog 106 [nodeV t, opV o] (fun x => x = nodeV (changeT (setAT o) t o.path)) := by
  have hp := ho.lt.path
  have hyw := atT_weight hy
  have hya := attrs_le_weight y
  refine pure_fn 300 Tryz.func106 rfl rfl rfl fun B => ?_
  refine ⟨fun g1 => absurd (hk.symm.trans (eq_of g1)) (by decide), fun g1 => go 300 ?_⟩
  refine ⟨fun g1 => absurd (hk.symm.trans (eq_of g1)) (by decide), fun g1 => go 300 ?_⟩
  refine ⟨fun g1 => absurd (hk.symm.trans (eq_of g1)) (by decide), fun g1 => go 300 ?_⟩
  refine ⟨fun g1 => go 300 ?_, fun g1 => absurd hk (ne_of g1)⟩
  show CallThen _ _ _ _ _ _
  refine call_freeze 1 rfl rfl ?_
  refine call_pure (w_change1 153 (opV o).cells (setAT o) y (w_apply1 o y none hs (by omega)) o.path t hp (by omega) hy) rfl ?_
  rintro z rfl
  exact ⟨trivial, rfl, rfl, rfl, rfl⟩

theorem w_applyT (t : Tree) (o : OpT) (ht : t.weight ≤ 900000) (ho : o.Ok) (h : ValidE t o = 0) : Pure Tryz.prog 106 [nodeV t, opV o] (fun x => x = nodeV (applyT t o)) := by
  obtain ⟨hr, hf, _⟩ := valid_right h
  have hra : t.rightA = true := by
    unfold rightT at hr
    rw [Bool.and_eq_true] at hr
    exact hr.2
  have hto : o.kind = 3 → ∀ x ∈ o.to, inI x := fun hk x hx => by
    have := may_step (good_to hf hk) x hx
    constructor <;> omega
  cases good_of h with
  | ins y hk hy hl h0 h1 h2 =>
    have e : applyT t o = changeT (insT o.at_ (freshT o)) t o.path := by unfold applyT; rw [hk]; rfl
    rw [e]
    exact w_apply_k t o _ ht ho (fun h => absurd (hk.symm.trans h) (by decide)) (.ins y hk hy h0 h1)
  | del x hk hne hx =>
    have e : applyT t o = changeT (delT (lastP o.path)) t o.path.dropLast := by unfold applyT; rw [hk]; rfl
    rw [e]
    exact w_apply_k t o _ ht ho (fun h => absurd (hk.symm.trans h) (by decide)) (.del x hk hne hx)
  | mov x z hk hne hx hw hz hl h0 h1 =>
    have e : applyT t o = moveT x t o := by unfold applyT; rw [hk, hx]; rfl
    rw [e]
    exact w_apply_k t o _ ht ho (fun _ => hto hk) (.mov x z hk hne hx hw hz h0 h1)
  | att y hk hy h1 h2 =>
    have e : applyT t o = changeT (setAT o) t o.path := by unfold applyT; rw [hk]; rfl
    rw [e]
    exact w_apply_att t y o ht ho hk hy (right_attrs (right_at hra hy))
  | lab y hk hy h2 =>
    have e : applyT t o = changeT (relabelT o.label) t o.path := by unfold applyT; rw [hk]; rfl
    rw [e]
    exact w_apply_k t o _ ht ho (fun h => absurd (hk.symm.trans h) (by decide)) (.lab y hk hy)
  | edt y hk hy hl he =>
    have e : applyT t o = changeT (retextT o.pieces) t o.path := by unfold applyT; rw [hk]; rfl
    rw [e]
    exact w_apply_k t o _ ht ho (fun h => absurd (hk.symm.trans h) (by decide)) (.edt y hk hy)

theorem w_Apply (t : Tree) (o : OpT) (ht : t.weight ≤ 900000) (ho : o.Ok) : Pure Tryz.prog 51 [nodeV t, opV o] (fun x => x = ApplyV (applyR t o)) := by
  by_cases h : ValidE t o = 0
  · have e : applyR t o = (applyT t o, 0) := by unfold applyR; rw [decide_eq_true h]; rfl
    rw [e]
    exact w_Apply_ok t o _ (by omega) ho h (w_applyT t o ht ho h)
  · have e : applyR t o = (zeroT [], ValidE t o) := by unfold applyR; rw [decide_eq_false h]; rfl
    rw [e]
    exact w_Apply_bad t o (by omega) ho h
end Bow
