/- The library, part 7: W48, W61, W62, W63, SP24, W64, W119, SP80, AE70, AE71, AE72, AE73, W141, SP25, SP26, SP30, W65, W66, W68, W69, W76, W77, W78, SP28, W67, W71, W72, W79, W28, W29, W30, W40, W90, SP81, AE74, W142, SP83, W146, SP37, W93, W41, W42, W43, SP18, W44, SP34, W86, W95, SP66, W99, W100, W101, AE48, SP84, W147, AE76, SP40, SP41, SP42, SP43, SP44, SP45. -/
import Derived.Test.YtgdiffkimgnhgaaGreatMf
import Derived.Test.YtgdiffkimgnhgaaGreatMd
import Derived.Test.YtgdiffkimgnhgaaGreatMe
/- W48: operations that say the same. -/
namespace Bow
open Go Go.Proofs

set_option maxRecDepth 100000 in
theorem w_refSamePieces (xs ys : List PieceT) (hl : xs.length ≤ 1000000) : Pure Tryz.prog 41 [piecesV xs, piecesV ys] (fun x => x = .bool (decide (xs = ys))) := by
  refine pure_wk (pure_fn 300 Tryz.func41 rfl rfl rfl fun B => ?_)
  refine ⟨fun g1 => go 300 ?_, fun g1 => go 300 ?_⟩
  · have g1 := ne_of' g1
    exact ⟨trivial, rfl, rfl, rfl, leaf_ff (decide_eq_false fun e => g1 (by rw [e]))⟩
  have g1 : xs.length = ys.length := by have := eq_of' g1; simp at this; omega
  show Goes _ _ _ _
  refine goes_iter (ι := Nat) (fun i => i ≤ xs.length ∧ (xs.drop i = ys.drop i ↔ xs = ys)) (fun i => xs.length - i) (fun i => [(5, .int .i64 i), (0, piecesV xs), (1, piecesV ys)]) (fun _ => []) 0 300 (fun _ => rfl) (fun _ => rfl) ⟨⟨Nat.zero_le _, by simp⟩, ⟨⟨rfl, rfl⟩, ⟨rfl, rfl⟩, ⟨rfl, rfl⟩, trivial⟩, trivial⟩ ?_
  rintro i ⟨k1, k2⟩ next
  refine ⟨fun hlt => go 300 ?_, fun hge => go 300 ?_⟩
  · have hi : i < xs.length := by simpa using hlt
    have hi' : i < ys.length := by omega
    have hx : (xs.map pieceV)[i]? = some (pieceV xs[i]) := by simp [hi]
    have hy : (ys.map pieceV)[i]? = some (pieceV ys[i]) := by simp [hi']
    rw [attrs_take hi hi'] at k2
    show Goes _ _ _ _
    refine goes_drawX [] 300 ⟨Int.natCast_nonneg i, _, hx, Int.natCast_nonneg i, _, hy, ?_⟩
    refine ⟨by kernel_rfl, ?_⟩
    refine ⟨by kernel_rfl, ?_⟩
    refine ⟨fun g2 => go 300 ?_, fun g2 => go 300 ?_⟩
    · refine ⟨trivial, rfl, rfl, rfl, leaf_ff (decide_eq_false fun e => ?_)⟩
      have := (k2.2 e).1
      rw [this] at g2
      simp at g2
    · refine ⟨by constructor <;> omega, ?_⟩
      have he : xs[i] = ys[i] := by
        simp at g2
        exact PieceT.ext g2.1 g2.2.1 g2.2.2
      exact next (i + 1) _ _ ⟨⟨hi, by rw [← k2]; exact ⟨fun h => ⟨he, h⟩, fun h => h.2⟩⟩, by omega, ⟨⟨rfl, rfl⟩, ⟨rfl, rfl⟩, ⟨rfl, rfl⟩, trivial⟩, trivial⟩
  · have hi : i = xs.length := by have : xs.length ≤ i := by simpa using hge
                                  omega
    subst hi
    refine ⟨trivial, rfl, rfl, rfl, leaf_tt (decide_eq_true (k2.1 ?_))⟩
    rw [List.drop_eq_nil_of_le (Nat.le_refl _), List.drop_eq_nil_of_le (by omega)]

def eqO (x y : OpT) : Bool := decide (x.kind = y.kind) && (decide (x.path = y.path) && (decide (x.at_ = y.at_) && (decide (x.to = y.to) && (decide (x.id = y.id) && ((x.leaf == y.leaf) && (decide (x.label = y.label) && (decide (x.key = y.key) && (decide (x.value = y.value) && ((x.gone == y.gone) && decide (x.pieces = y.pieces))))))))))
def sameO (a b : OpT) : Bool := eqO (bareO a) (bareO b)
set_option maxHeartbeats 2000000 in
set_option maxRecDepth 100000 in
theorem w_refSameO (a b : OpT) (ha : a.Lt 1000000) (hb : b.Lt 1000000) : Pure Tryz.prog 19 [opV a, opV b] (fun x => x = .bool (sameO a b)) := by
  have la := bare_lt ha
  have h1 := w_refSame (bareO a).path (bareO b).path la.path
  have h2 := w_refSame (bareO a).to (bareO b).to la.to
  have h3 := w_refSamePieces (bareO a).pieces (bareO b).pieces la.pieces
  refine pure_wk (pure_fn 300 Tryz.func19 rfl rfl rfl fun B => ?_)
  show CallThen _ _ _ _ _ _
  refine call_pure (w_refBare a ha) rfl ?_
  rintro z rfl
  show CallThen _ _ _ _ _ _
  refine call_pure (w_refBare b hb) rfl ?_
  rintro z rfl
  repeat' first
    | (refine ⟨fun _ => go 300 ?_, fun _ => go 300 ?_⟩)
    | (show CallThen _ _ _ _ _ _; refine call_pure h1 rfl ?_; rintro z rfl)
    | (show CallThen _ _ _ _ _ _; refine call_pure h2 rfl ?_; rintro z rfl)
    | (show CallThen _ _ _ _ _ _; refine call_pure h3 rfl ?_; rintro z rfl)
    | (refine ⟨trivial, rfl, rfl, rfl, leaf_ff ?_⟩)
    | (refine ⟨trivial, rfl, rfl, rfl, leaf_b ?_⟩)
    | fail
  all_goals (unfold sameO eqO; simp_all)
end Bow
/- W61: the laws of chapter 12: what they use; the examples. -/
namespace Bow
open Go Go.Proofs

end Bow
/- W62: SquareTurned. -/
namespace Bow
open Go Go.Proofs

end Bow
/- W63: lists of operations: joined (slices.Concat), made bare; which are too many. -/
namespace Bow
open Go Go.Proofs

theorem w_GrowOp (n : Nat) (h : n ≤ 10000000) : Fun Tryz.prog 76 [] [.nilsl, .int .i64 n] (fun x T => ∃ g, x = .osl (.loc 0) g 0 0 ∧ T = [some (.vec g 11 [])]) := by
  refine fun_fn 100 Tryz.func76 rfl rfl rfl fun imps B hi => ?_
  have : imps = [] := List.length_eq_zero_iff.1 hi
  subst this
  refine ⟨fun g1 => go 100 ?_, fun g1 => go 100 ?_⟩
  · have := lt_of g1; omega
  show Goes _ _ _ _
  refine goes_cap0 100 rfl rfl rfl rfl rfl ?_
  refine ⟨by constructor <;> omega, by constructor <;> omega, ?_⟩
  refine ⟨fun g2 => go 100 ?_, fun g2 => ?_⟩
  · have g2 := lt_of g2
    show Goes _ _ _ _
    refine goes_cap0 100 rfl rfl rfl rfl rfl ?_
    show Goes _ _ _ _
    refine goes_nilcut 100 rfl rfl rfl rfl rfl rfl rfl ?_
    show Goes _ _ _ _
    refine goes_growTo 100 n rfl rfl rfl rfl (congrArg (V.int .i64) (by omega)) (by omega) rfl rfl rfl rfl rfl (Nat.le_trans (Nat.mul_le_mul_right _ h) (by decide)) ?_
    show Goes _ _ _ _
    refine goes_cut (h := 0) 100 rfl rfl rfl rfl rfl rfl rfl rfl (Nat.zero_le _) ?_
    exact ⟨trivial, rfl, rfl, 2, rfl, rfl⟩
  · refine goes_own 0 11 rfl ?_
    refine go 100 ?_
    exact ⟨trivial, rfl, rfl, 0, rfl, rfl⟩
set_option maxRecDepth 100000 in
theorem w_ConcatOp (ls : List (List V)) (h : ls.flatten.length ≤ 1000000) (hl : ls.length ≤ 1000000) : Pure Tryz.prog 52 [.sl 1 (ls.map (V.sl 11))] (fun x => x = .sl 11 ls.flatten) := by
  refine pure_fn 100 Tryz.func52 rfl rfl rfl fun B => ?_
  show Goes _ _ _ _
  refine goes_iter (ι := Nat) (fun i => i ≤ ls.length) (fun i => ls.length - i) (fun i => [(3, .int .i64 (ls.take i).flatten.length), (11, .int .i64 i), (10, .int .i64 (ls.map (V.sl 11)).length), (9, .sl 1 (ls.map (V.sl 11))), (0, .sl 1 (ls.map (V.sl 11)))]) (fun _ => []) 0 100 (fun _ => rfl) (fun _ => rfl) ⟨Nat.zero_le _, ?_, trivial⟩ ?_
  · exact ⟨⟨rfl, rfl⟩, ⟨rfl, rfl⟩, ⟨rfl, rfl⟩, ⟨rfl, rfl⟩, ⟨rfl, rfl⟩, trivial⟩
  intro i k1 next
  have hb1 := flatten_take_le ls i
  refine ⟨fun hlt => go 100 ?_, fun hge => go 100 ?_⟩
  · have hi : i < ls.length := by simpa using hlt
    have hx : (ls.map (V.sl 11))[i]? = some (.sl 11 ls[i]) := by simp [hi]
    have hb2 := flatten_take_le ls (i + 1)
    have hs := flatten_take_succ hi
    have hsl : (ls.take (i + 1)).flatten.length = (ls.take i).flatten.length + ls[i].length := by rw [hs, List.length_append]
    refine ⟨Int.natCast_nonneg i, _, hx, ?_⟩
    refine ⟨by constructor <;> omega, ?_⟩
    refine ⟨fun g1 => go 100 ?_, fun g1 => go 100 ?_⟩
    · have := lt_of g1; omega
    refine ⟨by constructor <;> omega, ?_⟩
    refine next (i + 1) _ _ ⟨by omega, by omega, ?_, trivial⟩
    exact ⟨⟨by simp only [lk]; exact congrArg (V.int .i64) (by omega), rfl⟩, ⟨rfl, rfl⟩, ⟨rfl, rfl⟩, ⟨rfl, rfl⟩, ⟨rfl, rfl⟩, trivial⟩
  · have hi : i = ls.length := by have : ls.length ≤ i := by simpa using hge
                                  omega
    subst hi
    rw [List.take_length]
    show CallThen _ _ _ _ _ _
    refine call_sub [] (w_GrowOp ls.flatten.length (by omega)) rfl rfl trivial rfl rfl rfl ?_
    rintro x T1 ⟨g, rfl, rfl⟩
    refine ⟨rfl, ?_⟩
    show Goes _ _ _ _
    refine goes_iter (ι := Nat × Nat) (fun i => i.1 ≤ ls.length) (fun i => ls.length - i.1) (fun i => [(6, .osl (.loc 0) i.2 0 (ls.take i.1).flatten.length), (27, .int .i64 i.1), (26, .int .i64 (ls.map (V.sl 11)).length), (25, .sl 1 (ls.map (V.sl 11)))]) (fun i => [some (.vec i.2 11 (ls.take i.1).flatten)]) (0, g) 100 (fun _ => rfl) (fun _ => rfl) ⟨Nat.zero_le _, ?_, ?_⟩ ?_
    · exact ⟨⟨rfl, rfl⟩, ⟨rfl, rfl⟩, ⟨rfl, rfl⟩, ⟨rfl, rfl⟩, trivial⟩
    · exact ⟨⟨rfl, rfl⟩, trivial⟩
    rintro ⟨i, g⟩ k1 next
    have hb1 := flatten_take_le ls i
    simp only at k1 hb1
    refine ⟨fun hlt => go 100 ?_, fun hge => go 100 ?_⟩
    · have hi : i < ls.length := by simpa using hlt
      have hx : (ls.map (V.sl 11))[i]? = some (.sl 11 ls[i]) := by simp [hi]
      have hb2 := flatten_take_le ls (i + 1)
      have hs := flatten_take_succ hi
      have hsl : (ls.take (i + 1)).flatten.length = (ls.take i).flatten.length + ls[i].length := by rw [hs, List.length_append]
      refine ⟨Int.natCast_nonneg i, _, hx, ?_⟩
      simp only
      refine ⟨rfl, rfl, Nat.le_trans (Nat.mul_le_mul_right _ (show _ ≤ 1000000 by omega)) (by decide), ?_⟩
      refine ⟨by constructor <;> omega, ?_⟩
      refine next (i + 1, bump g) _ _ ⟨by simp only; omega, by simp only; omega, ?_, ?_⟩
      · exact ⟨⟨by simp only [lk]; exact congrArg (V.osl _ _ _) hsl.symm, rfl⟩, ⟨rfl, rfl⟩, ⟨rfl, rfl⟩, ⟨rfl, rfl⟩, trivial⟩
      · exact ⟨⟨by rw [hs], rfl⟩, trivial⟩
    · have hi : i = ls.length := by have : ls.length ≤ i := by simpa using hge
                                    omega
      subst hi
      exact ⟨trivial, rfl, rfl, rfl, rfl, rfl, by simp only [List.take_length]⟩

end Bow
/- SP24: lists of operations behind each other, in plain Lean; that it ends. -/
namespace Bow
open Go

/-! ### How many moves -/
def mv1 (o : OpT) : Nat := bif decide (o.kind = 3) then 1 else 0
def mvs (l : List OpT) : Nat := (l.map mv1).sum
theorem bare_kind (o : OpT) : (bareO o).kind = o.kind := by
  unfold bareO
  cases h1 : o.kind == 1 with
  | true => exact (eq_of_beq h1).symm
  | false => cases h2 : o.kind == 2 with
    | true => exact (eq_of_beq h2).symm
    | false => cases h3 : o.kind == 3 with
      | true => exact (eq_of_beq h3).symm
      | false => cases h4 : o.kind == 4 with
        | true => exact (eq_of_beq h4).symm
        | false => cases h5 : o.kind == 5 with
          | true => exact (eq_of_beq h5).symm
          | false => cases h6 : o.kind == 6 with
            | true => exact (eq_of_beq h6).symm
            | false => rfl
/-- What becomes of two in a cell: no more than there were; no more moves; where as many of both, the side that is not prior has no more. -/
structure Inv (prior : Bool) (xs ys x y : List OpT) : Prop where
  s : x.length + y.length ≤ xs.length + ys.length
  m : mvs x + mvs y ≤ mvs xs + mvs ys
  t : x.length + y.length = xs.length + ys.length → mvs x + mvs y = mvs xs + mvs ys → (bif prior then y.length else x.length) ≤ (bif prior then ys.length else xs.length)
end Bow
/- W64: lists.bring, Both. -/
namespace Bow
open Go Go.Proofs

end Bow
/- W119: simplify: what does nothing; what stands instead of two. -/
namespace Bow
open Go Go.Proofs

set_option maxRecDepth 100000 in
theorem w_Child (p : List Int) (i : Int) (hp : p.length ≤ 1000000) : Pure Tryz.prog 54 [pathV p, intV i] (fun x => x = pathV (p ++ [i])) := by
  refine pure_wk (pure_fn 60 Tryz.func54 rfl rfl rfl fun B => ?_)
  show CallThen _ _ _ _ _ _
  refine call_sub [] (w_CloneInt (p.map intV) (by rw [List.length_map]; exact hp)) rfl rfl trivial rfl rfl rfl ?_
  rintro x T1 (⟨e, rfl, rfl⟩ | ⟨rfl, rfl⟩)
  · have hp : p = [] := by simpa using e
    subst hp
    refine ⟨rfl, ?_⟩
    refine ⟨⟨rfl, trivial⟩, rfl, rfl, room_of (by simp) (by decide), ?_⟩
    exact ⟨trivial, rfl, rfl, rfl, rfl, rfl, _, .refl _, rfl, rfl⟩
  · refine ⟨rfl, ?_⟩
    refine ⟨⟨rfl, trivial⟩, rfl, rfl, rfl, rfl, Nat.le_trans (Nat.mul_le_mul_right _ (show _ ≤ 1000001 by simp only [List.length_map, List.length_cons, List.length_nil]; omega)) (by decide), ?_⟩
    refine ⟨trivial, rfl, rfl, rfl, by simp, rfl, pathV (p ++ [i]), ?_, rfl, rfl⟩
    exact Wk.of_eq (congrArg (V.sl 1) (by simp [intV]))
end Bow
/- SP80: a node and all below it, with their paths; what makes them, in plain Lean. -/
namespace Bow
open Go

mutual
def Tree.withP (p : List Int) : Tree → List (List Int × Tree)
  | .mk i l b a c ss => (p, .mk i l b a c ss) :: treesP p 0 ss
def treesP (p : List Int) (i : Nat) : List Tree → List (List Int × Tree)
  | [] => []
  | s :: ss => s.withP (p ++ [(i : Int)]) ++ treesP p (i + 1) ss
end
theorem withP_eq (p : List Int) (t : Tree) : t.withP p = (p, t) :: treesP p 0 t.subs := by
  cases t
  rw [Tree.withP]
  rfl
mutual
theorem withP_len (p : List Int) : ∀ t : Tree, (t.withP p).length = t.size
  | .mk i l b a c ss => by
    rw [Tree.withP, Tree.size, List.length_cons, treesP_len p 0 ss]
    omega
theorem treesP_len (p : List Int) (i : Nat) : ∀ ss : List Tree, (treesP p i ss).length = sizes ss
  | [] => by rw [treesP, sizes]; rfl
  | s :: ss => by rw [treesP, sizes, List.length_append, withP_len _ s, treesP_len p (i + 1) ss]
end
/-- Where the kids from the i-th on begin. -/
theorem treesP_drop (p : List Int) : ∀ (i k : Nat) (ss : List Tree), ∃ a, treesP p k ss = a ++ treesP p (k + i) (ss.drop i) ∧ a.length = sizes (ss.take i)
  | 0, k, ss => ⟨[], by simp, by simp [sizes]⟩
  | i + 1, k, [] => ⟨[], by simp [treesP], by simp [sizes]⟩
  | i + 1, k, s :: ss => by
    obtain ⟨a, h1, h2⟩ := treesP_drop p i (k + 1) ss
    refine ⟨s.withP (p ++ [(k : Int)]) ++ a, ?_, ?_⟩
    · rw [treesP, h1, List.append_assoc, List.drop_succ_cons, show k + 1 + i = k + (i + 1) by omega]
    · rw [List.length_append, withP_len, List.take_succ_cons, sizes, h2]
def withV (x : List Int × Tree) : List V := [pathV x.1, nodeV x.2]
end Bow
/- AE70: ranges over functions whose rounds make memory under names: what is known of a part of all that there is, round by round. -/
namespace Bow
open Go

/-- The part B of all that there is, BF, comes to the part B' of BF'; what is no part of it stays, and its names stay no part. -/
structure Part (B BF B' BF' : Base) : Prop where
  ext : Ext B' BF'
  keep : ∀ q o, BF q = some o → B q = none → BF' q = some o ∧ B' q = none
theorem Part.trans {B BF B1 BF1 B2 BF2 : Base} (h : Part B BF B1 BF1) (k : Part B1 BF1 B2 BF2) : Part B BF B2 BF2 := ⟨k.ext, fun q o h1 h2 => by
  obtain ⟨a, b⟩ := h.keep q o h1 h2
  exact k.keep q o a b⟩
/-- New names are put to the part. -/
theorem Part.add {B BF N : Base} (h : Ext B BF) (hN : ∀ q o, N q = some o → BF q = none) : Part B BF (B.add N) (BF.add N) := by
  refine ⟨fun q o e => ?_, fun q o h1 h2 => ⟨by simp [Base.add, h1], ?_⟩⟩
  · unfold Base.add at e ⊢
    cases hb : B q with
    | some o' =>
      rw [hb] at e
      injection e with e
      subst e
      rw [h q _ hb]
    | none =>
      rw [hb] at e
      rw [hN q o e]
      exact e
  · unfold Base.add
    rw [h2]
    cases hn : N q with
    | none => rfl
    | some o' =>
      have := hN q o' hn
      rw [h1] at this
      cases this

/-- One round: yield of this loop, called with y, comes back with true; the part of which I was known is one of which J is. -/
def YieldS (P : Program) (r : Nat) (y : List V) (I J : Base → Prop) : Prop :=
  ∀ (w : World) (β : Nat → Loc) (H : Heap) (BF B : Base) (vals : Array Value) (c : Frame) (cs : List Frame) (l N : Nat), SRel [] 0 w β H [] ⟨[], [], BF, []⟩ bare → Ext B BF → I B → β r = .blk l N → y.length = vals.size →
    (∀ (j : Nat) (x : V) (v : Value), y[j]? = some x → vals[j]? = some v → Rep w β H x v) →
    ∃ (rl : Loop) (w' : World) (β' : Nat → Loc) (H' : Heap) (B' BF' : Base), w.heap[l]? = some (.loop rl) ∧ vals.size = rl.params.size ∧ SRel [] 0 w' β' H' [] ⟨[], [], BF', []⟩ bare ∧ J B' ∧ Part B BF B' BF' ∧ Fr w β H w' β' H' ∧
      Steps P (lone (Frame.round l rl.fn ((rl.params.zip vals).foldl (fun tmps (t, a) => tmps.setIfInBounds t a) rl.tmps) rl.assign rl.body .normal) (c :: cs) w) (lone (c.finish (.bool true)) cs w')

open Classical in
/-- A call of such a yield. -/
theorem goes_yieldS {c : Cx} {ops : Array Oper} {i : Nat} {rest : List Nat} {k : List Item} {o : Oper} {E : Env} {Tw : Heap} {f : Operand} {args : Array Operand} {ts : Array TypeId} {r : Nat} {B : Base} {I J : Base → Prop} (n : Nat)
    (ho : ops[i]? = some o) (hg : o.guard = none) (hop : o.op = .call { callee := .value f, args := args, argTypes := ts }) (hf : opd E f = .yld (.abs r)) (hdis : ∀ q ∈ c.imps, B q = none) (hB : Ext B c.B) (hI : I B) (hlp : ∃ ob, B r = some ob ∧ isLoop ob)
    (ha : V.pureL (args.toList.map (opd E)) = true) (hy : YieldS c.P r (args.toList.map (opd E)) I J)
    (h : ∀ B' B1, J B' → Part B c.B B' B1 → putE c.nt o.dst .tt E False fun E' => evp { c with B := B1 } n (.inRegion ops rest :: k) E' Tw) :
    Goes c (.inRegion ops (i :: rest) :: k) E Tw := by
  refine goes_step fun w β H mw a fb cs hs h1 h2 h3 => ?_
  -- no name of the part is an own one
  have hnot : ∀ q ∈ mw, B q = none := fun q hm => by
    obtain ⟨j2, hj2⟩ := List.getElem?_of_mem hm
    rcases Nat.lt_or_ge j2 c.imps.length with hlt | hge
    · refine hdis q ?_
      have := hs.imp
      rw [← this]
      exact List.mem_of_getElem? (i := j2) (by rw [List.getElem?_take, if_pos hlt]; exact hj2)
    · have := hs.own j2 q hge hj2
      simp only at this
      cases hb : B q with
      | none => rfl
      | some ob =>
        rw [hB q ob hb] at this
        cases this
  have hHr : ∀ (q : Nat) (ob : HObj), q ∉ mw → c.B q = some ob → H[q]? = some (some ob) := fun q ob hm hq => by
    have hlt : q < H.length := by
      rcases Nat.lt_or_ge q H.length with h | h
      · exact h
      · have := hs.fut q h
        simp only at this
        rw [this] at hq
        cases hq
    rw [hs.base q hlt hm]
    exact congrArg some hq
  have hBm : ∀ q ob, B q = some ob → q ∉ mw := fun q ob hq hm => by
    rw [hnot q hm] at hq
    cases hq
  have hs0 : SRel [] 0 w β H [] ⟨[], [], fun q => (H[q]?).getD none, []⟩ bare :=
    ⟨hs.hrel, rfl, fun k => by simp [lk, V.conv]; exact .undef _, rfl, List.nodup_nil, by simp, rfl, fun q hq _ => by simp [hq], fun q hq => by simp [List.getElem?_eq_none hq], by simp, by simp, by simp, rfl, by simp⟩
  have hext0 : Ext B (fun q => (H[q]?).getD none) := fun q ob hq => by
    show (H[q]?).getD none = some ob
    rw [hHr q ob (hBm q ob hq) (hB q ob hq)]
    rfl
  obtain ⟨oblp, hlp1, hlp2⟩ := hlp
  have hHl : H[r]? = some (some oblp) := hHr r _ (hBm r _ hlp1) (hB r _ hlp1)
  have hfv : Rep w β H ((opd E f).conv mw) (a.eval f) := opd_rep hs f
  rw [hf] at hfv
  simp only [V.conv, Ref.conv] at hfv
  generalize hq : a.eval f = q at hfv
  cases hfv with
  | yldDead _ _ hd => rw [hHl] at hd; cases hd
  | yldLive _ l N st pe fn E0 nt ps asg bo hH hβ =>
    obtain ⟨rl, w', β', H', B', BF', g1, g2, g3, g3j, g3p, g4, g5⟩ := hy w β H _ B (args.map a.eval) (fb.atR a (.inRegion ops (i :: rest) :: k)) cs l N hs0 hext0 hI hβ (by simp) (fun j x v hj hv => by
      simp only [List.getElem?_map, Array.getElem?_toList, Option.map_eq_some_iff, Array.getElem?_map] at hj hv
      obtain ⟨z, e1, e2⟩ := hj
      obtain ⟨z', e3, e4⟩ := hv
      rw [e1] at e3
      injection e3 with e3
      subst e3 e2 e4
      have hz : (opd E z).pureB = true := pureL_mem _ ha _ (List.mem_map.2 ⟨z, by simpa using Array.mem_of_getElem? e1, rfl⟩)
      have := opd_rep hs z
      simp only at this
      rwa [pure_conv _ _ hz] at this)
    have hlen : H.length ≤ H'.length := g4.len
    have hnew : ∀ q, q < H'.length → H'[q]? = some (BF' q) := fun q hq => g3.base q hq (by simp)
    -- own objects stay
    have hown : ∀ q ∈ mw, H'[q]? = H[q]? ∧ B' q = none := fun q hm => by
      have hql : q < H.length := by
        obtain ⟨j, hj⟩ := List.getElem?_of_mem hm
        exact hs.lt hj
      cases hx : H[q]? with
      | none => rw [List.getElem?_eq_none_iff] at hx; omega
      | some ox =>
        cases ox with
        | some ob =>
          obtain ⟨a1, a2⟩ := g3p.keep q ob (by simp [hx]) (hnot q hm)
          rw [hnew q (by omega), a1]
          exact ⟨rfl, a2⟩
        | none =>
          have hd : H'[q]? = some none := by
            cases hy : BF' q with
            | none => rw [hnew q (by omega), hy]
            | some ob =>
              obtain ⟨o1, ho1, _⟩ := g4.evo q ob hql (by rw [hnew q (by omega), hy])
              rw [hx] at ho1
              cases ho1
          refine ⟨hd, ?_⟩
          cases hb : B' q with
          | none => rfl
          | some ob =>
            have := g3p.ext q ob hb
            rw [hnew q (by omega), this] at hd
            cases hd
    obtain ⟨B1, hB1⟩ : ∃ B1 : Base, B1 = fun q => if q ∈ mw then c.B q else BF' q := ⟨_, rfl⟩
    have hBm1 : ∀ q, q ∈ mw → B1 q = c.B q := fun q hq => by rw [hB1]; simp [hq]
    have hBn1 : ∀ q, q ∉ mw → B1 q = BF' q := fun q hq => by rw [hB1]; simp [hq]
    have hpart : Part B c.B B' B1 := by
      refine ⟨fun q ob hq => ?_, fun q ob hq hb => ?_⟩
      · have hm : q ∉ mw := fun hm => by
          rw [(hown q hm).2] at hq
          cases hq
        rw [hBn1 q hm]
        exact g3p.ext q ob hq
      · by_cases hm : q ∈ mw
        · rw [hBm1 q hm]
          exact ⟨hq, (hown q hm).2⟩
        · rw [hBn1 q hm]
          exact g3p.keep q ob (by simp [hHr q ob hm hq]) hb
    have hsw : SRel c.imps c.nt w' β' H' mw ⟨E, Tw, B1, c.D⟩ a := by
      refine ⟨g3.hrel, hs.size, fun k => (hs.env k).mono g4, hs.mlen, hs.nodup, fun j q ob hj hob => ?_, hs.imp, fun q hq hqm => ?_, fun q hq => ?_, fun j q hj hq => ?_, hs.scE, hs.scT, hs.defs, ?_⟩
      · rw [(hown q (List.mem_of_getElem? hj)).1]
        exact hs.loc j q ob hj hob
      · simp only
        rw [hBn1 q hqm]
        exact hnew q hq
      · have hm : q ∉ mw := fun hm => by
          obtain ⟨j, hj⟩ := List.getElem?_of_mem hm
          have := hs.lt hj
          omega
        simp only
        rw [hBn1 q hm]
        exact g3.fut q hq
      · simp only
        rw [hBm1 q (List.mem_of_getElem? hq)]
        exact hs.own j q hj hq
      · intro j q hj
        obtain ⟨r', b', N', e1, e2, e3, e4⟩ := hs.marks j q hj
        refine ⟨r', b', N', e1, e2, ?_, e4⟩
        have hH0 := hs.loc q r' _ e1 e2
        exact dfr_stays g4 (by simpa [HObj.conv] using hH0) e3 (by rw [(hown r' (List.mem_of_getElem? e1)).1, hH0]; rfl)
    obtain ⟨E', hk, hd⟩ := (putE_some (h B' B1 g3j hpart)).resolve_left id
    have hput := hsw.putTo (d := o.dst) (x := .tt) (v := .bool true) (E' := E') .tt hd
    have hfin : (fb.atR a (.inRegion ops (i :: rest) :: k)).finish (.bool true) = fb.atR (a.put o.dst (.bool true)) (.inRegion ops rest :: k) := by
      rw [Frame.finish_atR]
      simp [ho]
    rw [hfin] at g5
    refine ⟨w', β', H', mw, a.put o.dst (.bool true), _, ⟨E', Tw, B1, c.D⟩, .head ?_ g5, hput, g4, evp_sound n _ _ _ _ hk⟩
    refine step_lone_go ?_
    rw [stepGR_op ho (wanted_none hg _), Oper.semAt_eq _ _ _ (by intro cl; rw [hop]; exact fun h => by cases h)]
    have hrun : (execOp a.eval o).run c.P w = .ok (.round l rl.fn ((rl.params.zip (args.map a.eval)).foldl (fun tmps (t, a) => tmps.setIfInBounds t a) rl.tmps) rl.assign rl.body) w := by
      have hyr := run_yield (P := c.P) (args := args.map a.eval) g1 g2
      have e0 : (execOp a.eval o).run c.P w = (Instr.yield l (args.map a.eval)).run c.P w := by simp [execOp, hop, resolve, Deferred.ofValue, hq, invoke]
      rw [e0]
      exact hyr
    simp [stepG.apply, hrun, Sem.runT_eq]

/-- A function, called where I is known of a part; behind it Q is known of its answer and the part. -/
@[irreducible] def FunS (P : Program) (g : FuncId) (args : List V) (I : Base → Prop) (Q : V → Base → Prop) : Prop :=
  Enterable P g ∧ ∀ (w : World) (β : Nat → Loc) (H : Heap) (BF B : Base) (vals : Array Value) (cs : List Frame), SRel [] 0 w β H [] ⟨[], [], BF, []⟩ bare → Ext B BF → I B → args.length = vals.size →
    (∀ (j : Nat) (x : V) (v : Value), args[j]? = some x → vals[j]? = some v → Rep w β H x v) →
    ∃ (x : V) (B' BF' : Base) (v : Value) (w' : World) (β' : Nat → Loc) (H' : Heap) (fr : Frame), Q x B' ∧ Part B BF B' BF' ∧ SRel [] 0 w' β' H' [] ⟨[], [], BF', []⟩ bare ∧ Fr w β H w' β' H' ∧ Rep w' β' H' x v ∧ x.pureB = true ∧
      Steps P (lone (Frame.enter P g vals .normal) cs w) (lone fr cs w') ∧ fr.fn = g ∧ fr.leaving P w' (.returned v)
/-- What a body's end has to be: nothing is handed back. -/
def XSD (B BF : Base) (J : Base → Prop) (e : Exit) (s : St) : Prop :=
  (match e with | .normal | .ret => True | _ => False) ∧ s.D.Nodup ∧ ∃ B', J B' ∧ Part B BF B' s.B
theorem funS_of_goesD {P : Program} {g : FuncId} {fn : Func} {body : Code} {I J : Base → Prop} {args : List V} (hf : P.funcs[g]? = some fn) (hn : (fn.name == "runtime.NumGoroutine") = false) (hb : fn.body = some body) (hnt : Nat.ble args.length fn.ntmps = true) (hrs : fn.results = #[])
    (h : ∀ B BF : Base, Ext B BF → I B → Goes { P := P, nt := fn.ntmps, fn := g, ro := none, imps := [], X := XSD B BF J, B := BF, D := [] } [.code body] (env0 0 args) []) : FunS P g args I (fun _ B' => J B') := by
  unfold FunS
  refine ⟨⟨fn, hf, hn, by rw [hb]; rfl⟩, fun w β H BF B vals cs hs hext hI hl hr => ?_⟩
  have hnt := Nat.le_of_ble_eq_true hnt
  have gg := h B BF hext hI
  unfold Goes at gg
  let b : Frame := { fn := g, tmps := #[], todo := [], defers := [], mode := .run, kind := .normal }
  let a : Act := { tmps := vals ++ Array.replicate (fn.ntmps - vals.size) Go.undef, defers := [] }
  have henter : Frame.enter P g vals .normal = b.atR a [.code body] := by
    simp [Frame.enter, Frame.atR, hf, hb, b, a]
  have hasz : a.tmps.size = fn.ntmps := by simp [a]; omega
  have hrc : ∀ (j : Nat) (x : V) (v : Value), args[j]? = some x → vals[j]? = some v → Rep w β H (x.conv []) v := fun j x v hj hv => by
    rw [conv_of_rep [] x (hr j x v hj hv)]
    exact hr j x v hj hv
  have hget : ∀ k, Rep w β H ((lk (env0 0 args) k).conv []) (a.tmps.getD k Go.undef) := by
    intro k
    rw [lk_env0]
    simp only [Nat.zero_le, if_true, Nat.sub_zero]
    cases hk : args[k]? with
    | none => exact .undef _
    | some x =>
      have hkl := lt_of_get hk
      have hkv : k < vals.size := by omega
      have e : a.tmps.getD k Go.undef = vals[k] := by
        simp only [a, Array.getD_eq_getD_getElem?]
        rw [Array.getElem?_append_left hkv]
        simp [hkv]
      rw [e]
      exact hrc k x vals[k] hk (Array.getElem?_eq_getElem hkv)
  have hs0 : SRel [] fn.ntmps w β H [] ⟨env0 0 args, [], BF, []⟩ a := by
    refine ⟨hs.hrel, hasz, hget, hs.mlen, hs.nodup, hs.loc, hs.imp, hs.base, hs.fut, hs.own, fun p hp => ?_, hs.scT, rfl, by simp⟩
    obtain ⟨k, hk, hx⟩ := List.mem_iff_getElem.1 (env0_mem 0 args p hp)
    have hkv : k < vals.size := by omega
    exact sc_of_rep (m := []) p.2 (hrc k p.2 vals[k] (by rw [List.getElem?_eq_getElem hk, hx]) (Array.getElem?_eq_getElem hkv))
  obtain ⟨e, s', w', β', H', m', a', hX, hs', hfr, hend⟩ := gg w β H [] a b cs hs0 rfl rfl rfl
  obtain ⟨E', T1, BF', D'⟩ := s'
  obtain ⟨he, hD, B', hJ, hP⟩ := hX
  simp only at hD hJ hP
  have key : ∀ todo, Steps P (lone (Frame.enter P g vals .normal) cs w) (lone { b.atR a' todo with mode := .returning } cs w') →
      ∃ (x : V) (B' BF' : Base) (v : Value) (w' : World) (β' : Nat → Loc) (H' : Heap) (fr : Frame), J B' ∧ Part B BF B' BF' ∧ SRel [] 0 w' β' H' [] ⟨[], [], BF', []⟩ bare ∧ Fr w β H w' β' H' ∧ Rep w' β' H' x v ∧ x.pureB = true ∧
        Steps P (lone (Frame.enter P g vals .normal) cs w) (lone fr cs w') ∧ fr.fn = g ∧ fr.leaving P w' (.returned v) := fun todo hst => by
    obtain ⟨w2, H2, a2, u1, u2, u3, u4, u5⟩ := unmark (P := P) D' b todo cs hs' hD
    have hres : resK P [] BF' fn.results.toList E' (killD D' T1) False fun xs => xs = [] := by rw [hrs]; rfl
    rcases resK_sound (c := { P := P, nt := fn.ntmps, fn := g, ro := none, imps := [], X := fun _ _ => True, B := BF', D := [] }) _ _ _ _ hres with h | ⟨xs, hq, hx⟩
    · exact h.elim
    subst hq
    obtain ⟨vs, h1, h2, h3⟩ := hx w2 β' H2 m' a2 u1
    have hrun := run_results h1
    have hv0 : vs = [] := List.length_eq_zero_iff.1 (by simpa using h2.symm)
    subst hv0
    obtain ⟨m2, H3, e1, e2, e3⟩ := SRel.dropTo (T := []) (killD D' T1) (by simpa using u1.bare) (by simp) (by simp) (by simp) (by simp)
    have hm2 : m2 = [] := List.length_eq_zero_iff.1 e1.mlen
    subst hm2
    refine ⟨.tup [], B', BF', _, w2, β', H3, { b.atR a2 todo with mode := .returning }, hJ, hP, e1, (hfr.trans u4).trans e2, ?_, rfl, hst.trans u5, rfl, rfl, u3, rfl, fn, hf, hrun⟩
    exact .tup [] #[] rfl fun j c v hj => by simp at hj
  cases e with
  | normal => exact key [] (by rw [henter]; exact Steps.trans hend (.one (stepR_end rfl)))
  | ret =>
    obtain ⟨k, hend⟩ := hend
    exact key _ (by rw [henter]; exact Steps.trans hend (.one (stepR_ret rfl)))
  | exit id => exact he.elim
  | goto l => exact he.elim
  | panic ch => exact he.elim
  | outgrown => exact he.elim

/-! ### The ranging side -/
/-- The ranging side's part: own objects T under the names m, and Bo. -/
def IS (St : Heap → Base → Prop) (m : List Nat) (B : Base) : Prop := ∃ T Bo, St T Bo ∧ Out m T B ∧ (∀ q, q ∉ m → B q = Bo q) ∧ ∀ q ∈ m, Bo q = none
theorem Out.own {m : List Nat} {T : Heap} {B : Base} (h : Out m T B) {q : Nat} (hq : q ∈ m) : ∃ ob, B q = some ob := by
  obtain ⟨j, hj⟩ := List.getElem?_of_mem hq
  obtain ⟨o, _, e, _⟩ := h.at_ j q hj
  exact ⟨_, e⟩

open Classical in
/-- A call of a function that calls yield; what the caller holds is turned by the rounds. -/
theorem call_rangedS {c : Cx} {g : FuncId} {first cap : List V} {kl : Nat} {E : Env} {Tw : Heap} {K : V → St → Prop} {St St' : Heap → Base → Prop} {Bo : Base} (hen : Enterable c.P g) (himp : c.imps = []) (hlive : allLive Tw = true) (hkl : kl < Tw.length) (ha : V.pureL (first ++ cap) = true) (hB : Ext Bo c.B) (hSt : St Tw Bo)
    (hf : ∀ (mw : List Nat) (r : Nat), mw[kl]? = some r → mw.length = Tw.length → mw.Nodup → FunS c.P g (first ++ [.yld (.abs r)] ++ cap) (IS St mw) (fun _ B => IS St' mw B))
    (h : ∀ x T' Bo' B1, x.pureB = true → St' T' Bo' → Part Bo c.B Bo' B1 → T'.length = Tw.length → (∀ k ∈ c.D, T'[k]? = some (some .dfr)) ∧ K x ⟨E, T', B1, c.D⟩) : CallThen c g (first ++ [.yld (.loc kl)] ++ cap) E Tw K := by
  unfold CallThen
  refine ⟨hen, fun w β H mw a vals cs hs hl hr => ?_⟩
  rw [himp] at hs
  have hml : mw.length = Tw.length := hs.mlen
  have hklm : kl < mw.length := by omega
  have hrk : mw[kl]? = some mw[kl] := List.getElem?_eq_getElem hklm
  have hHr : ∀ (q : Nat) (ob : HObj), c.B q = some ob → H[q]? = some (some ob) := fun q ob hq => hs.baseAt (by simp) hq
  have hcB : ∀ q ∈ mw, c.B q = none := fun q hm => by
    obtain ⟨j, hj⟩ := List.getElem?_of_mem hm
    exact hs.own j q (Nat.zero_le _) hj
  have hBo : ∀ q ∈ mw, Bo q = none := fun q hm => by
    cases hb : Bo q with
    | none => rfl
    | some ob =>
      have h1 := hB q ob hb
      rw [hcB q hm] at h1
      cases h1
  have hff := hf mw mw[kl] hrk hml hs.nodup
  unfold FunS at hff
  have hs0 : SRel [] 0 w β H [] ⟨[], [], fun r => (H[r]?).getD none, []⟩ bare := by
    refine ⟨hs.hrel, rfl, fun k => by simp [lk, V.conv]; exact .undef _, rfl, List.nodup_nil, by simp, rfl, fun r h _ => ?_, fun r h1 => ?_, by simp, by simp, by simp, rfl, by simp⟩
    · simp [h]
    · simp [List.getElem?_eq_none h1]
  obtain ⟨B, hBd⟩ : ∃ B : Base, B = fun q => if q ∈ mw then (H[q]?).getD none else Bo q := ⟨_, rfl⟩
  have hBm : ∀ q, q ∈ mw → B q = (H[q]?).getD none := fun q hq => by rw [hBd]; simp [hq]
  have hBn : ∀ q, q ∉ mw → B q = Bo q := fun q hq => by rw [hBd]; simp [hq]
  have hw0 : Out mw Tw B := ⟨hml, hs.nodup, fun k r hk => by
    have hkT : k < Tw.length := by have := lt_of_get hk; omega
    have e := List.getElem?_eq_getElem hkT
    obtain ⟨ob, hob⟩ := allLive_get hlive k _ e
    rw [hob] at e
    have hH := hs.loc k r _ hk e
    refine ⟨ob, e, by rw [hBm r (List.mem_of_getElem? hk), hH]; rfl, ?_⟩
    rw [hml]
    exact hs.scT k ob e⟩
  have hext : Ext B (fun r => (H[r]?).getD none) := fun q ob hq => by
    by_cases hm : q ∈ mw
    · rw [hBm q hm] at hq
      exact hq
    · rw [hBn q hm] at hq
      simp [hHr q ob (hB q ob hq)]
  have hpa := pureL_mem _ ha
  obtain ⟨x, B', BF', v, w', β', H', fr, ⟨T', Bo', q1, q2, q3, q4⟩, kp, k1, k4, k5, k6, k7, k8, k9⟩ := hff.2 w β H _ B vals cs hs0 hext ⟨Tw, Bo, hSt, hw0, hBn, hBo⟩ (by simpa using hl) (fun j x v hj hv => by
    rcases Nat.lt_trichotomy j first.length with h1 | h1 | h1
    · rw [List.append_assoc, List.getElem?_append_left h1] at hj
      have h2 := hr j x v (by rw [List.append_assoc, List.getElem?_append_left h1]; exact hj) hv
      rwa [pure_conv _ _ (hpa x (List.mem_append_left _ (List.mem_of_getElem? hj)))] at h2
    · subst h1
      have h2 := hr first.length (.yld (.loc kl)) v (by simp) hv
      simp at hj
      subst hj
      simpa [V.conv, Ref.conv, hrk] using h2
    · have e : ∀ y : V, (first ++ [y] ++ cap)[j]? = cap[j - (first.length + 1)]? := fun y => by
        rw [List.getElem?_append_right (by simp; omega)]
        simp
      rw [e] at hj
      have h2 := hr j x v (by rw [e]; exact hj) hv
      rwa [pure_conv _ _ (hpa x (List.mem_append_right _ (List.mem_of_getElem? hj)))] at h2)
  have hH' : ∀ q, q < H'.length → H'[q]? = some (BF' q) := fun q hq => k1.base q hq (by simp)
  have hlen := k4.len
  have hTl : T'.length = Tw.length := by rw [← q2.len, hml]
  obtain ⟨B1, hB1⟩ : ∃ B1 : Base, B1 = fun q => if q ∈ mw then none else BF' q := ⟨_, rfl⟩
  have hBm1 : ∀ q, q ∈ mw → B1 q = none := fun q hq => by rw [hB1]; simp [hq]
  have hBn1 : ∀ q, q ∉ mw → B1 q = BF' q := fun q hq => by rw [hB1]; simp [hq]
  have hpart : Part Bo c.B Bo' B1 := by
    refine ⟨fun q ob hq => ?_, fun q ob hq hb => ?_⟩
    · have hm : q ∉ mw := fun hm => by
        rw [q4 q hm] at hq
        cases hq
      rw [hBn1 q hm]
      exact kp.ext q ob (by rw [q3 q hm]; exact hq)
    · have hm : q ∉ mw := fun hm => by
        rw [hcB q hm] at hq
        cases hq
      obtain ⟨a1, a2⟩ := kp.keep q ob (by simp [hHr q ob hq]) (by rw [hBn q hm]; exact hb)
      rw [hBn1 q hm]
      exact ⟨a1, by rw [← q3 q hm]; exact a2⟩
  obtain ⟨hD, hk⟩ := h x T' Bo' B1 k6 q1 hpart hTl
  have hloc' : ∀ (k r : Nat) (o : Option HObj), mw[k]? = some r → T'[k]? = some o → H'[r]? = some (o.map (HObj.conv mw)) := fun k r o hk ho => by
    obtain ⟨ob, e1, e2, _⟩ := q2.at_ k r hk
    rw [e1] at ho
    injection ho with ho
    subst ho
    rw [hH' r (Nat.lt_of_lt_of_le (hs.lt hk) hlen), kp.ext r _ e2]
    rfl
  refine ⟨x, _, v, w', β', H', mw, fr, hk, ?_, k4, by rw [pure_conv _ _ k6]; exact k5, k7, k8, k9, List.prefix_refl _⟩
  rw [himp]
  refine ⟨k1.hrel, hs.size, fun k => (hs.env k).mono k4, by rw [hTl]; exact hml, hs.nodup, hloc', rfl, fun q hq hqm => ?_, fun q hq => ?_, fun j q hj hq => ?_, fun p hp => by simp only; rw [hTl]; exact hs.scE p hp, fun k o ho => ?_, hs.defs, ?_⟩
  · simp only
    rw [hBn1 q hqm]
    exact hH' q hq
  · have hm : q ∉ mw := fun hm => by
      obtain ⟨j, hj⟩ := List.getElem?_of_mem hm
      have := hs.lt hj
      omega
    simp only
    rw [hBn1 q hm]
    exact k1.fut q hq
  · simp only
    exact hBm1 q (List.mem_of_getElem? hq)
  · have hkm : k < mw.length := by have := lt_of_get ho; simp only at this; omega
    obtain ⟨ob, e1, _, e3⟩ := q2.at_ k mw[k] (List.getElem?_eq_getElem hkm)
    simp only at ho ⊢
    rw [e1] at ho
    injection ho with ho
    injection ho with ho
    subst ho
    rw [hTl, ← hml]
    exact e3
  · intro j q hj
    obtain ⟨r', b', N', e1, e2, e3, e4⟩ := hs.marks j q hj
    have hT' := hD q (List.mem_of_getElem? hj)
    refine ⟨r', b', N', e1, hT', ?_, e4⟩
    refine dfr_stays k4 (by simpa [HObj.conv] using hs.loc q r' _ e1 e2) e3 ?_
    simpa [HObj.conv] using hloc' q r' _ e1 hT'
end Bow
/- AE71: the rounds of such ranges. -/
namespace Bow
open Go

/-- What a round's body comes to. -/
def XRS (kl : Nat) (St' : Heap → Base → Prop) (n : Nat) (Bo BF : Base) (e : Exit) (s : St) : Prop :=
  s.D = [] ∧ ∃ T1 T' Bo', T1.length = n ∧ heapIs n s.T T1 ∧ roundEnd T1 kl e = some (true, T') ∧ St' T' Bo' ∧ allLive T' = true ∧ T'.length = n ∧ Part Bo BF Bo' s.B

open Classical in
theorem yieldS_of_body {P : Program} {mw : List Nat} {kl r : Nat} {y : List V} {St St' : Heap → Base → Prop} {fn : FuncId} {E0 : Env} {nt0 : Nat} {ps : Array Tmp} {asg bo : Code} (n : Nat) (hr : mw[kl]? = some r) (hnd : mw.Nodup) (hps : ps.size = y.length) (hpl : ps.toList.all (Nat.blt · nt0) = true) (hy : V.pureL y = true)
    (hT : ∀ T Bo, St T Bo → T[kl]? = some (some (.loop .ready none fn E0 nt0 ps asg bo)))
    (h : ∀ (T : Heap) (Bo BF : Base) (l : Nat), St T Bo → T.length = mw.length → Ext Bo BF → (∀ q ∈ mw, Bo q = none) → evp { P := P, nt := nt0, fn := fn, ro := some (r, l), imps := mw, X := XRS kl St' mw.length Bo BF, B := BF, D := [] } n [.code asg, .beginRound, .code bo] (psEnv ps.toList y E0) T) :
    YieldS P r y (IS St mw) (IS St' mw) := by
  intro w β H BF B vals c cs l N hs hext ⟨T, Bo, hSt, hout, hoff, hon⟩ hβ hl hv
  have hTl := hT T Bo hSt
  have hHr : ∀ (q : Nat) (ob : HObj), B q = some ob → H[q]? = some (some ob) := fun q ob hq => hs.baseAt (by simp) (hext q ob hq)
  have hH := hHr r _ (hout.get hr hTl)
  have hob := hs.hrel.obj r _ hH
  rw [hβ] at hob
  obtain ⟨tmps, db, e1, e2, e3⟩ := hob
  have hextO : Ext Bo BF := fun q ob hq => by
    have hm : q ∉ mw := fun hm => by
      rw [hon q hm] at hq
      cases hq
    exact hext q ob (by rw [hoff q hm]; exact hq)
  have g := evp_sound _ _ _ _ _ (h T Bo BF l hSt hout.len.symm hextO hon)
  unfold Goes at g
  let b0 : Frame := { (default : Frame) with fn := fn, kind := .normal, roundOf := some l }
  have hpl' : ∀ t ∈ ps.toList, t < nt0 := fun t ht => Nat.le_of_ble_eq_true (List.all_eq_true.1 hpl t ht)
  obtain ⟨f1, f2⟩ := foldl_put (w := w) (β := β) (H := H) (m := mw) ps.toList vals.toList y E0 tmps e2 hpl' (by simp; omega) (by simpa using hl) (fun j x v hj hv' => by
    rw [pure_conv _ _ (pureL_mem _ hy x (List.mem_of_getElem? hj))]
    exact hv j x v hj (by simpa using hv')) (fun k => by have := e3 k; rwa [lk_conv] at this)
  have hs1 : SRel mw nt0 w β H mw ⟨psEnv ps.toList y E0, T, BF, []⟩ { tmps := (ps.toList.zip vals.toList).foldl (fun tmps (t, a) => tmps.setIfInBounds t a) tmps, defers := [] } := by
    refine ⟨hs.hrel, f1, f2, hout.len, hnd, fun j q ob hj hob => ?_, by simp, fun q hq _ => hs.base q hq (by simp), hs.fut, fun j q hj hq => by have := lt_of_get hq; omega, fun p hp => ?_, hout.shut.sc, rfl, by simp⟩
    · obtain ⟨ob', e1, e2, _⟩ := hout.at_ j q hj
      simp only at hob
      rw [e1] at hob
      injection hob with hob
      subst hob
      exact hHr q _ e2
    · rcases psEnv_mem _ _ _ _ hp with hp | hp
      · exact hout.shut.sc kl _ hTl p hp
      · exact pureSc _ _ (pureL_mem _ hy _ hp)
  have hfold : (ps.zip vals).foldl (fun tmps (t, a) => tmps.setIfInBounds t a) tmps = (ps.toList.zip vals.toList).foldl (fun tmps (t, a) => tmps.setIfInBounds t a) tmps := by
    rw [← Array.foldl_toList, Array.toList_zip]
  have hround : Frame.round l fn ((ps.zip vals).foldl (fun tmps (t, a) => tmps.setIfInBounds t a) tmps) asg bo .normal = b0.atR { tmps := (ps.toList.zip vals.toList).foldl (fun tmps (t, a) => tmps.setIfInBounds t a) tmps, defers := [] } [.code asg, .beginRound, .code bo] := by
    rw [hfold]
    simp [Frame.round, Frame.atR, b0]
  refine ⟨{ state := .ready, pending := none, fn := fn, tmps := tmps, params := ps, assign := asg, body := bo, defers := db }, ?_⟩
  obtain ⟨e, s', w', β', H', m', a', ⟨hD, T1, T', Bo', hT1, hT2, hT3, hS', hlive, hT'l, hP⟩, hs', hfr, hend⟩ := g w β H mw _ b0 (c :: cs) hs1 rfl rfl ⟨rfl, .inr ⟨_, hH, trivial⟩, N, hβ⟩
  obtain ⟨E', T2, BF', D'⟩ := s'
  simp only at hD hT2 hP
  subst hD
  -- down to what the ranging side holds
  rw [← hT1] at hT2
  obtain ⟨T'', rfl, hsc⟩ := heapIs_eq hT2
  obtain ⟨m2, H2, k1, k2, k3⟩ := SRel.dropTo T'' hs'.bare (show mw.length ≤ T1.length by omega) (by simp) hsc (by simp)
  have hm2 : m2 = mw := by
    rw [k3, hT1]
    exact hs'.imp
  subst hm2
  have hfr2 := hfr.trans k2
  have hβ' : β' r = .blk l N := by
    rw [hfr2.fix r (.inr ⟨_, hH, trivial⟩)]
    exact hβ
  have hon' : ∀ q ∈ m2, Bo' q = none := fun q hq => by
    obtain ⟨ob, hob⟩ := hout.own hq
    exact (hP.keep q ob (hext q ob hob) (hon q hq)).2
  have fin : ∀ (w2 : World) (H3 : Heap), SRel m2 0 w2 β' H3 m2 ⟨[], T', BF', []⟩ bare → Fr w β H w2 β' H3 →
      Steps P (lone (Frame.round l fn ((ps.zip vals).foldl (fun tmps (t, a) => tmps.setIfInBounds t a) tmps) asg bo .normal) (c :: cs) w) (lone (c.finish (.bool true)) cs w2) →
      ∃ (w' : World) (β' : Nat → Loc) (H' : Heap) (B' BF' : Base), w.heap[l]? = some (.loop { state := .ready, pending := none, fn := fn, tmps := tmps, params := ps, assign := asg, body := bo, defers := db }) ∧ vals.size = ps.size ∧ SRel [] 0 w' β' H' [] ⟨[], [], BF', []⟩ bare ∧ IS St' m2 B' ∧ Part B BF B' BF' ∧ Fr w β H w' β' H' ∧
        Steps P (lone (Frame.round l fn ((ps.zip vals).foldl (fun tmps (t, a) => tmps.setIfInBounds t a) tmps) asg bo .normal) (c :: cs) w) (lone (c.finish (.bool true)) cs w') := by
    intro w2 H3 z2 z3 z4
    obtain ⟨BF2, hBF2⟩ : ∃ BF2 : Base, BF2 = fun q => (H3[q]?).getD none := ⟨_, rfl⟩
    obtain ⟨B2, hB2⟩ : ∃ B2 : Base, B2 = fun q => if q ∈ m2 then (H3[q]?).getD none else Bo' q := ⟨_, rfl⟩
    have hBm : ∀ q, q ∈ m2 → B2 q = (H3[q]?).getD none := fun q hq => by rw [hB2]; simp [hq]
    have hBn : ∀ q, q ∉ m2 → B2 q = Bo' q := fun q hq => by rw [hB2]; simp [hq]
    have hbase : ∀ q ob, q ∉ m2 → BF' q = some ob → BF2 q = some ob := fun q ob hm hq => by
      have hq2 : q < H3.length := by
        rcases Nat.lt_or_ge q H3.length with h | h
        · exact h
        · have := z2.fut q h
          simp only at this
          rw [this] at hq
          cases hq
      have := z2.base q hq2 hm
      simp only at this
      rw [hBF2]
      simp only
      rw [this]
      exact hq
    refine ⟨w2, β', H3, B2, BF2, e1, by omega, ?_, ⟨T', Bo', hS', ⟨hT'l.symm, hnd, fun j q hj => ?_⟩, hBn, hon'⟩, ⟨fun q ob hq => ?_, fun q ob hq hb => ?_⟩, z3, z4⟩
    · rw [hBF2]
      exact ⟨z2.hrel, rfl, fun k => by simp [lk, V.conv]; exact .undef _, rfl, List.nodup_nil, by simp, rfl, fun q hq _ => by simp [hq], fun q hq => by simp [List.getElem?_eq_none hq], by simp, by simp, by simp, rfl, by simp⟩
    · have hjT : j < T'.length := by have := lt_of_get hj; omega
      have hTj := List.getElem?_eq_getElem hjT
      obtain ⟨ob, hob⟩ := allLive_get hlive j _ hTj
      rw [hob] at hTj
      refine ⟨ob, hTj, ?_, ?_⟩
      · have := z2.loc j q _ hj hTj
        rw [hBm q (List.mem_of_getElem? hj), this]
        rfl
      · have := z2.scT j ob hTj
        simp only at this
        rw [← hT'l]
        exact this
    · by_cases hm : q ∈ m2
      · rw [hBm q hm] at hq
        rw [hBF2]
        exact hq
      · rw [hBn q hm] at hq
        exact hbase q ob hm (hP.ext q ob hq)
    · have hm : q ∉ m2 := fun hm => by
        obtain ⟨o2, ho2⟩ := hout.own hm
        rw [hb] at ho2
        cases ho2
      obtain ⟨a1, a2⟩ := hP.keep q ob hq (by rw [← hoff q hm]; exact hb)
      exact ⟨hbase q ob hm a1, by rw [hBn q hm]; exact a2⟩
  unfold roundEnd at hT3
  split at hT3
  · rename_i st pe fn1 E1 nt1 ps1 as1 bo1 hk1
    have endOf : ∀ (jump : Option Code) (bb : Bool), bb = jump.isNone → T' = T1.set kl (some (.loop (if jump.isNone then .ready else .done) jump fn1 E1 nt1 ps1 as1 bo1)) →
        ∃ w2 H3, (Instr.endRound l jump).run P w' = .ok (.bool bb) w2 ∧ SRel m2 0 w2 β' H3 m2 ⟨[], T', BF', []⟩ bare ∧ Fr w β H w2 β' H3 := by
      intro jump bb hbb hT'
      obtain ⟨rl, q1, q2, q3, q4, q5, q6, q7, q8, q9, H3, q10, q11⟩ := k1.turnLoop (st' := if jump.isNone then .ready else .done) (pe' := jump) hr hk1 hβ'
      refine ⟨_, H3, ?_, ?_, hfr2.trans q11⟩
      · rw [run_endRound jump q1, hbb]
      · rw [hT']
        exact q10
    cases e with
    | normal =>
      injection hT3 with hT3
      injection hT3 with hb hT'
      obtain ⟨w2, H3, z1, z2, z3⟩ := endOf none true rfl hT'.symm
      exact fin w2 H3 z2 z3 (by
        rw [hround]
        exact Steps.trans hend (.one (stepR_round_end rfl rfl z1)))
    | ret => injection hT3 with hT3; injection hT3 with hb hT'; cases hb
    | exit id => injection hT3 with hT3; injection hT3 with hb hT'; cases hb
    | goto t => injection hT3 with hT3; injection hT3 with hb hT'; cases hb
    | panic ch => cases hT3
    | outgrown => cases hT3
  · cases hT3

/-- What is ranged over: each value is yielded, what was known ahead of it is known behind it of one more. -/
def IterS (P : Program) (g : FuncId) (first cap : List V) (ys : List (List V)) : Prop :=
  ∀ (r : Nat) (I : Nat → Base → Prop) (off : Nat), (∀ i B, I i B → ∃ ob, B r = some ob ∧ isLoop ob) → (∀ i (hi : i < ys.length), YieldS P r ys[i] (I (off + i)) (I (off + i + 1))) →
    FunS P g (first ++ [.yld (.abs r)] ++ cap) (I off) (fun _ B => I (off + ys.length) B)

/-- The state of a ranging side between two rounds. -/
def RS (c : Cx) (E : Env) (ps : Array Tmp) (assign body : Code) (L : Nat) (R : Nat → Heap → Base → Prop) (i : Nat) (T : Heap) (Bo : Base) : Prop := ∃ pre, R i pre Bo ∧ pre.length = L ∧ T = rHeap c E ps assign body pre .ready none

/-- What a round comes to, as it is reckoned. -/
def RSX (c : Cx) (E : Env) (ps : Array Tmp) (assign body : Code) (L : Nat) (R : Heap → Base → Prop) (Bo BF : Base) (e : Exit) (s : St) : Prop :=
  s.D = [] ∧ e = .normal ∧ ∃ pre' Bo', pre'.length = L ∧ heapIs (L + 2) s.T (rHeap c E ps assign body pre' .busy none) ∧ R pre' Bo' ∧ Part Bo BF Bo' s.B
theorem goes_rangeS {c : Cx} {f : Operand} {ps : Array Tmp} {assign body : Code} {k : List Item} {E : Env} {Tw : Heap} {g : FuncId} {first cap : List V} {ys : List (List V)} {R : Nat → Heap → Base → Prop} {Bo : Base} (n L : Nat)
    (hen : Enterable c.P g) (hro : c.ro = none) (himp : c.imps = []) (hf : opd E f = .fn (.func g) first cap) (hL : Tw.length = L) (hca : V.pureL (first ++ cap) = true) (hps : ∀ y ∈ ys, ps.size = y.length) (hpl : ps.toList.all (Nat.blt · c.nt) = true) (hy : ∀ y ∈ ys, V.pureL y = true)
    (hB : Ext Bo c.B) (hR : R 0 Tw Bo) (hRL : ∀ i T B, R i T B → T.length = L ∧ allLive T = true ∧ ∀ k ∈ c.D, T[k]? = some (some .dfr)) (hit : IterS c.P g first cap ys)
    (step : ∀ (i : Nat) (hi : i < ys.length) (mw : List Nat) (r l : Nat) (pre : Heap) (Bo BF : Base), R i pre Bo → mw.length = L + 2 → mw[L + 1]? = some r → Ext Bo BF → (∀ q ∈ mw, Bo q = none) →
      evp { P := c.P, nt := c.nt, fn := c.fn, ro := some (r, l), imps := mw, X := RSX c E ps assign body L (R (i + 1)) Bo BF, B := BF, D := [] } n [.code assign, .beginRound, .code body] (psEnv ps.toList ys[i] E) (rHeap c E ps assign body pre .ready none))
    (K : ∀ pre' Bo' B1, R ys.length pre' Bo' → Part Bo c.B Bo' B1 → evp { c with D := L :: c.D, B := B1 } n k E (rHeap c E ps assign body pre' .exhausted none)) :
    Goes c (.code (.rangeFunc f ps assign body) :: k) E Tw := by
  obtain ⟨_, hlive, hDw⟩ := hRL 0 Tw Bo hR
  refine goes_rangeFunc n hro hf ?_
  rw [hL]
  have hT : Tw ++ [some HObj.dfr] ++ [some (.loop .ready none c.fn E c.nt ps assign body)] = rHeap c E ps assign body Tw .ready none := rfl
  rw [hT]
  refine call_rangedS (c := { c with D := L :: c.D }) (St := RS c E ps assign body L R 0) (St' := RS c E ps assign body L R ys.length) hen himp (rHeap_live hlive) (by rw [rHeap_len, hL]; omega) hca hB ⟨Tw, hR, hL, rfl⟩ ?_ ?_
  · intro mw r hr hml hnd
    have hml' : mw.length = L + 2 := by rw [hml, rHeap_len, hL]
    have := hit r (fun i => IS (RS c E ps assign body L R i) mw) 0 (fun i B hB => ?_) (fun i hi => ?_)
    · rw [Nat.zero_add] at this
      exact this
    · obtain ⟨T, Bo, ⟨pre, h1, h2, rfl⟩, ho, _⟩ := hB
      exact ⟨_, ho.get hr (rHeap_loop h2), trivial⟩
    · rw [Nat.zero_add]
      refine yieldS_of_body (kl := L + 1) 0 hr hnd (hps _ (List.getElem_mem hi)) hpl (hy _ (List.getElem_mem hi)) (fun T Bo ⟨pre, h1, h2, e⟩ => by rw [e]; exact rHeap_loop h2) fun T Bo BF l ⟨pre, h1, h2, e⟩ _ hext hon => ?_
      subst e
      have g := evp_sound _ _ _ _ _ (step i hi mw r l pre Bo BF h1 hml' hr hext hon)
      have : ∀ {todo : List Item} {E0 : Env} {T0 : Heap}, Goes { P := c.P, nt := c.nt, fn := c.fn, ro := some (r, l), imps := mw, X := RSX c E ps assign body L (R (i + 1)) Bo BF, B := BF, D := [] } todo E0 T0 →
          Goes { P := c.P, nt := c.nt, fn := c.fn, ro := some (r, l), imps := mw, X := XRS (L + 1) (RS c E ps assign body L R (i + 1)) mw.length Bo BF, B := BF, D := [] } todo E0 T0 := by
        intro todo E0 T0 g
        unfold Goes at g ⊢
        intro w β H m' a b1 cs hs hb hk hro
        obtain ⟨e, s', w', β', H', m2, a', ⟨x1, rfl, pre', Bo', x2, x3, x4, x5⟩, k1, k2, k3⟩ := g w β H m' a b1 cs hs hb hk hro
        obtain ⟨_, l2, _⟩ := hRL _ _ _ x4
        refine ⟨.normal, s', w', β', H', m2, a', ⟨x1, rHeap c E ps assign body pre' .busy none, rHeap c E ps assign body pre' .ready none, Bo', by rw [rHeap_len, x2, hml'], by rw [hml']; exact x3, ?_, ⟨pre', x4, x2, rfl⟩, rHeap_live l2, by rw [rHeap_len, x2, hml'], x5⟩, k1, k2, k3⟩
        unfold roundEnd
        rw [rHeap_loop x2]
        simp [rHeap_set x2]
      exact this g
  · intro x T' Bo' B1 _ ⟨pre', h1, h2, e⟩ hP _
    subst e
    obtain ⟨_, _, hD'⟩ := hRL _ _ _ h1
    refine ⟨fun q hq => ?_, ?_⟩
    · rcases List.mem_cons.1 hq with rfl | hq
      · exact rHeap_dfr h2
      · have h3 := hD' q hq
        exact (rHeap_pre (lt_of_get h3)).trans h3
    · have K := K pre' Bo' B1 h1 hP
      unfold loopEnd
      rw [lget_eq, rHeap_loop h2]
      simp only
      refine ⟨trivial, ?_⟩
      rw [lset_eq, rHeap_set h2]
      exact K
/-- How a round begins, where the loop's record is lr ahead of it and lb behind it. -/
def BeginsAt (L r l : Nat) (lr lb : HObj) : Prop := ∀ (c : Cx) (k : List Item) (E : Env) (T : Heap), c.ro = some (r, l) → c.imps[L + 1]? = some r → lget T (L + 1) = some (some lr) → (lset T (L + 1) (some lb) fun T' => Goes c k E T') → Goes c (.beginRound :: k) E T
def OSX (L : Nat) (lb : HObj) (R : Heap → Base → Prop) (Bo BF : Base) (e : Exit) (s : St) : Prop :=
  s.D = [] ∧ e = .normal ∧ ∃ pre' Bo', pre'.length = L ∧ heapIs (L + 2) s.T (pre' ++ [some .dfr, some lb]) ∧ R pre' Bo' ∧ Part Bo BF Bo' s.B
/-- The same, the loop's records by names. -/
theorem goes_rangeO {c : Cx} {f : Operand} {ps : Array Tmp} {assign body : Code} {k : List Item} {E : Env} {Tw : Heap} {g : FuncId} {first cap : List V} {ys : List (List V)} {R : Nat → Heap → Base → Prop} {Bo : Base} (n L : Nat)
    (hen : Enterable c.P g) (hro : c.ro = none) (himp : c.imps = []) (hf : opd E f = .fn (.func g) first cap) (hL : Tw.length = L) (hca : V.pureL (first ++ cap) = true) (hps : ∀ y ∈ ys, ps.size = y.length) (hpl : ps.toList.all (Nat.blt · c.nt) = true) (hy : ∀ y ∈ ys, V.pureL y = true) (hE : ∀ n, L + 2 ≤ n → Env.scB n E = true)
    (hB : Ext Bo c.B) (hR : R 0 Tw Bo) (hRL : ∀ i T B, R i T B → T.length = L ∧ allLive T = true ∧ ∀ k ∈ c.D, T[k]? = some (some .dfr)) (hit : IterS c.P g first cap ys)
    (step : ∀ (i : Nat) (hi : i < ys.length) (mw : List Nat) (r l : Nat) (pre : Heap) (Bo BF : Base) (lr lb : HObj), R i pre Bo → mw.length = L + 2 → mw[L + 1]? = some r → Ext Bo BF → (∀ q ∈ mw, Bo q = none) → BeginsAt L r l lr lb → (∀ n, L + 2 ≤ n → lb.scB n = true) →
      evp { P := c.P, nt := c.nt, fn := c.fn, ro := some (r, l), imps := mw, X := OSX L lb (R (i + 1)) Bo BF, B := BF, D := [] } n [.code assign, .beginRound, .code body] (psEnv ps.toList ys[i] E) (pre ++ [some .dfr, some lr]))
    (K : ∀ pre' Bo' B1 le, R ys.length pre' Bo' → Part Bo c.B Bo' B1 → evp { c with D := L :: c.D, B := B1 } n k E (pre' ++ [some .dfr, some le])) :
    Goes c (.code (.rangeFunc f ps assign body) :: k) E Tw := by
  refine goes_rangeS n L hen hro himp hf hL hca hps hpl hy hB hR hRL hit (fun i hi mw r l pre Bo BF h1 h2 h3 h4 h5 => ?_) fun pre' Bo' B1 h1 h2 => ?_
  · have h := step i hi mw r l pre Bo BF (.loop .ready none c.fn E c.nt ps assign body) (.loop .busy none c.fn E c.nt ps assign body) h1 h2 h3 h4 h5 (fun c' k' E' T' q1 q2 q3 q4 => goes_beginRound 0 q1 q2 q3 q4) hE
    have e1 : ∀ (pre : Heap) (st : LoopState), rHeap c E ps assign body pre st none = pre ++ [some HObj.dfr, some (.loop st none c.fn E c.nt ps assign body)] := fun pre st => by simp [rHeap]
    rw [e1]
    have e2 : RSX c E ps assign body L (R (i + 1)) Bo BF = OSX L (.loop .busy none c.fn E c.nt ps assign body) (R (i + 1)) Bo BF := by
      funext e s
      unfold RSX OSX
      simp only [e1]
    rw [e2]
    exact h
  · have h := K pre' Bo' B1 (.loop .exhausted none c.fn E c.nt ps assign body) h1 h2
    have e1 : rHeap c E ps assign body pre' .exhausted none = pre' ++ [some HObj.dfr, some (.loop .exhausted none c.fn E c.nt ps assign body)] := by simp [rHeap]
    rw [e1]
    exact h
end Bow
/- AE72: a region that draws its order; what it makes gets names of the base. -/
namespace Bow
open Go

/-- What a fact hands back under a name of its own, under the base's. -/
theorem Fact.named {c : Cx} {ops : Array Oper} {i : Nat} {E : Env} {T : Heap} {d : Option Tmp} {rd : List Tmp} {tc : List Nat} {p g o l q : Nat} {eff : List (Nat × Option HObj)} {vt : Option Nat} (h : Fact c ops i E T ⟨d, rd, tc, .osl (.loc p) g o l, eff, vt⟩) (hp : c.imps[p]? = some q) :
    Fact c ops i E T ⟨d, rd, tc, .osl (.abs q) g o l, eff, vt⟩ := by
  intro E' T' h1 h2 h3 w β H m a b cs rest k hs k1 k2 k4
  obtain ⟨v, w', β', H', g1, g2, g3, g4, g5⟩ := h E' T' h1 h2 h3 w β H m a b cs rest k hs k1 k2 k4
  refine ⟨v, w', β', H', g1, g2, g3, g4, ?_⟩
  have hm : m[p]? = some q := by
    have := hs.imp
    rw [← this, List.getElem?_take] at hp
    split at hp
    · exact hp
    · cases hp
  simp only [V.conv, Ref.conv, hm] at g5
  exact g5

/-- Own objects behind the first L become the base's. -/
theorem SRel.move {imps : List Nat} {nt : Nat} {w : World} {β : Nat → Loc} {H : Heap} {m : List Nat} {En E1 : Env} {Tn T1 : Heap} {B N : Base} {D : List Nat} {a : Act} (L : Nat) (hs : SRel imps nt w β H m ⟨En, Tn, B, D⟩ a) (hi : imps.length ≤ L) (hL : T1.length = L) (hE : envIs L En E1) (hT : heapIs L Tn T1) (hD : ∀ k ∈ D, k < L)
    (hN : ∀ q o, N q = some o → ∃ j, L ≤ j ∧ m[j]? = some q) (hN2 : ∀ j q, L ≤ j → m[j]? = some q → ∃ o, Tn[j]? = some (some o) ∧ N q = some o ∧ o.conv m = o) :
    SRel imps nt w β H (m.take L) ⟨E1, T1, B.add N, D⟩ a := by
  subst hL
  obtain ⟨T'', rfl, hsc⟩ := heapIs_eq hT
  have hml : m.length = T1.length + T''.length := by have := hs.mlen; simpa using this
  have hE' : ∀ p ∈ E1, p.2.sc T1.length := (envIs_lk hE 0).2
  have hmt : (m.take T1.length).length = T1.length := by rw [List.length_take]; omega
  have hm : m = m.take T1.length ++ m.drop T1.length := (List.take_append_drop _ _).symm
  have hcv : ∀ v : V, v.sc T1.length → v.conv m = v.conv (m.take T1.length) := fun v hv => by
    rw [hm]
    simp only [List.take_append_drop]
    conv => lhs; rw [hm]
    exact V.conv_ext (by omega) v hv
  have hsl : ∀ k, (lk E1 k).sc T1.length := fun k => lk_sc E1 k hE'
  have hget : ∀ k, k < T1.length → (m.take T1.length)[k]? = m[k]? := fun k hk => by rw [List.getElem?_take, if_pos hk]
  have hnd := hs.nodup
  have hnew : ∀ q o, N q = some o → q ∉ m.take T1.length ∧ q < H.length ∧ B q = none := fun q o hq => by
    obtain ⟨j, h1, h2⟩ := hN q o hq
    refine ⟨fun hmem => ?_, hs.lt h2, hs.own j q (by omega) h2⟩
    obtain ⟨i, hi2⟩ := List.getElem?_of_mem hmem
    have hil : i < T1.length := by have := lt_of_get hi2; omega
    rw [hget i hil] at hi2
    have := hs.inj hi2 h2
    omega
  refine ⟨hs.hrel, hs.size, fun k => ?_, hmt, (List.take_sublist _ _).nodup hnd, fun k r o hk ho => ?_, ?_, fun r hr hm2 => ?_, fun r hr => ?_, fun k r hk hr => ?_, hE', fun k o ho => hsc k o ho, hs.defs, fun j k hj => ?_⟩
  · simp only
    rw [← hcv _ (hsl k)]
    rcases (envIs_lk hE k).1 with e | e
    · rw [e]
      exact hs.env k
    · rw [e]
      exact .undef _
  · have hkl : k < T1.length := lt_of_get ho
    rw [hget k hkl] at hk
    have h1 := hs.loc k r o hk (by simp only; rw [List.getElem?_append_left hkl]; exact ho)
    rw [h1]
    cases o with
    | none => rfl
    | some o =>
      have h2 := hsc k o ho
      have : o.conv m = o.conv (m.take T1.length) := by
        conv => lhs; rw [hm]
        exact HObj.conv_ext (by omega) o h2
      simp [this]
  · rw [List.take_take, Nat.min_eq_left hi]
    exact hs.imp
  · simp only
    by_cases hr2 : r ∈ m
    · obtain ⟨j, hj⟩ := List.getElem?_of_mem hr2
      have hjL : T1.length ≤ j := by
        rcases Nat.lt_or_ge j T1.length with h1 | h1
        · exact absurd (List.mem_of_getElem? (i := j) (by rw [hget j h1]; exact hj)) hm2
        · exact h1
      obtain ⟨o, h1, h2, h3⟩ := hN2 j r hjL hj
      have h4 := hs.loc j r _ hj h1
      rw [h4]
      have hb : B r = none := (hnew r o h2).2.2
      simp only [Base.add, hb, h2, Option.map_some, h3]
    · have h1 := hs.base r hr hr2
      rw [h1]
      simp only [Base.add]
      cases hb : B r with
      | some o => rfl
      | none =>
        cases hn : N r with
        | none => rfl
        | some o =>
          obtain ⟨j, _, h3⟩ := hN r o hn
          exact absurd (List.mem_of_getElem? h3) hr2
  · have hb : B r = none := hs.fut r hr
    simp only [Base.add, hb]
    cases hn : N r with
    | none => rfl
    | some o =>
      have := (hnew r o hn).2.1
      omega
  · have hkl : k < T1.length := by have := lt_of_get hr; omega
    have hr' := hr
    rw [hget k hkl] at hr'
    have hb : B r = none := hs.own k r hk hr'
    simp only [Base.add, hb]
    cases hn : N r with
    | none => rfl
    | some o => exact absurd (List.mem_of_getElem? hr) (hnew r o hn).1
  · obtain ⟨r, b, M, h1, h2, h3, h4⟩ := hs.marks j k hj
    have hkl := hD k (List.mem_of_getElem? hj)
    refine ⟨r, b, M, by rw [hget k hkl]; exact h1, ?_, h3, h4⟩
    simp only at h2 ⊢
    rwa [List.getElem?_append_left hkl] at h2

/-- Names for objects, one by one. -/
def newN : List Nat → List HObj → Base
  | q :: qs, o :: os => fun r => if r = q then some o else newN qs os r
  | _, _ => fun _ => none
theorem newN_mem : ∀ {qs : List Nat} {os : List HObj} {q : Nat} {o : HObj}, newN qs os q = some o → q ∈ qs
  | q' :: qs, o' :: os, q, o, h => by
    simp only [newN] at h
    split at h
    · rename_i e
      rw [e]
      exact List.mem_cons_self ..
    · exact List.mem_cons_of_mem _ (newN_mem h)
  | [], _, _, _, h => by simp [newN] at h
  | _ :: _, [], _, _, h => by simp [newN] at h
theorem newN_get : ∀ {qs : List Nat} {os : List HObj}, qs.Nodup → qs.length = os.length → ∀ {j : Nat} {q : Nat}, qs[j]? = some q → ∃ o, os[j]? = some o ∧ newN qs os q = some o
  | q' :: qs, o' :: os, hn, hl, 0, q, h => by
    injection h with h
    subst h
    exact ⟨o', rfl, by simp [newN]⟩
  | q' :: qs, o' :: os, hn, hl, j + 1, q, h => by
    obtain ⟨h1, h2⟩ := List.nodup_cons.1 hn
    obtain ⟨o, k1, k2⟩ := newN_get h2 (by simpa using hl) (j := j) (q := q) h
    refine ⟨o, k1, ?_⟩
    simp only [newN]
    rw [if_neg fun e => h1 (by rw [← e]; exact List.mem_of_getElem? (i := j) h)]
    exact k2
/-- These objects, none of which speaks of an own one, lie in a row. -/
def Lies : Heap → List HObj → Prop
  | _, [] => True
  | x :: T, o :: os => x = some o ∧ (∀ m, o.conv m = o) ∧ Lies T os
  | [], _ :: _ => False
theorem Lies.get : ∀ {T : Heap} {os : List HObj}, Lies T os → ∀ {j : Nat} {o : HObj}, os[j]? = some o → T[j]? = some (some o) ∧ ∀ m, o.conv m = o
  | x :: T, o' :: os, h, 0, o, e => by
    injection e with e
    subst e
    exact ⟨by rw [h.1]; rfl, h.2.1⟩
  | x :: T, o' :: os, h, j + 1, o, e => h.2.2.get (j := j) e
  | [], _ :: _, h, _, _, _ => h.elim
theorem goes_drawXN (sp : List (Nat × Bool)) {c : Cx} {ops : Array Oper} {id : Nat} {k : List Item} {E : Env} {T : Heap} (n L : Nat) (hL : T.length = L) (hil : c.imps.length ≤ L)
    (h : ∀ (mm qs : List Nat), mm.length = L → (mm ++ qs).Nodup → qs.length = (dumsX sp 0 ops.toList).length → (∀ q ∈ qs, c.B q = none) → catC T (dumsX sp 0 ops.toList) fun T0 => evdX sp { c with imps := mm ++ qs } ops (guardTmps ops.toList ops.toList) ops.toList 0 T.length E T0 fun En Tn ss => chk ops.toList ss 0 [] [] = true ∧
      ∃ (E1 : Env) (T1 : Heap) (os : List HObj), envIs L En E1 ∧ heapIs L Tn T1 ∧ T1.length = L ∧ qs.length = os.length ∧ Lies (Tn.drop L) os ∧ evp { c with B := c.B.add (newN qs os) } n k E1 T1) :
    Goes c (.code (.region id ops true) :: k) E T := by
  refine goes_step fun w β H m a b cs hs h1 h2 h3 => ?_
  have hf0 : Fr w β H { w with drawn := w.drawn + 1 } β H := Fr.of_heap rfl rfl rfl rfl
  have hs0 : SRel c.imps c.nt { w with drawn := w.drawn + 1 } β H m ⟨E, T, c.B, c.D⟩ a := hs.same hf0 (hs.hrel.of_heap rfl rfl rfl rfl)
  obtain ⟨β1, H1, m1, k1, k2, k3, k4⟩ := reserveAll (dumsX sp 0 ops.toList) (dumsX_mem sp _ _) hs0
  have hml : m1.length = (T ++ dumsX sp 0 ops.toList).length := k1.mlen
  have hmT : m.length = T.length := hs.mlen
  obtain ⟨qs, rfl⟩ := k3
  have hql : qs.length = (dumsX sp 0 ops.toList).length := by rw [List.length_append, List.length_append] at hml; omega
  have hqB : ∀ q ∈ qs, c.B q = none := fun q hq => by
    obtain ⟨j, hj⟩ := List.getElem?_of_mem hq
    exact k1.own (m.length + j) q (by omega) (by rw [List.getElem?_append_right (by omega), Nat.add_sub_cancel_left]; exact hj)
  have hh := h m qs (by omega) k1.nodup hql hqB
  rw [catC_eq] at hh
  obtain ⟨rs, ss, En, Tn, g1, hc, E1, T1, os, n1, n2, n3, n6, n7, hk⟩ := evdX_sound (sp := sp) ops.toList 0 T.length E _ _ hh (fun k => by rw [Nat.zero_add, Array.getElem?_toList]) (by simp)
  obtain ⟨N, hNd⟩ : ∃ N, N = newN qs os := ⟨_, rfl⟩
  rw [← hNd] at hk
  have n4 : ∀ q o, N q = some o → q ∈ qs := fun q o e => newN_mem (hNd ▸ e)
  have n5 : ∀ j q, qs[j]? = some q → ∃ o, Tn[L + j]? = some (some o) ∧ N q = some o ∧ ∀ m, o.conv m = o := fun j q hj => by
    obtain ⟨o, k1, k2⟩ := newN_get (List.nodup_append.1 k1.nodup).2.1 n6 hj
    obtain ⟨k3, k4⟩ := n7.get k1
    rw [List.getElem?_drop] at k3
    exact ⟨o, k3, by rw [hNd]; exact k2, k4⟩
  obtain ⟨hG, rfl, rfl, hp⟩ := good_of_run g1
  have hsched : ∃ md t, Region.schedule (c.P.follows .mixedOrders) ops (w.tape w.drawn (.order b.fn id)) = Region.linearise md ops t := by
    unfold Region.schedule
    split
    · exact ⟨_, _, rfl⟩
    · exact ⟨_, _, rfl⟩
  obtain ⟨md, t, hmd⟩ := hsched
  have hzero : ∀ j, (fun _ : Nat => false) j = (Array.replicate ops.size false).getD j false := fun j => by
    by_cases hj : j < ops.size
    · simp [Array.getD, hj]
    · simp [Array.getD, hj]
  have k1' : SRel (m ++ qs) c.nt { w with drawn := w.drawn + 1 } β1 H1 (m ++ qs) ⟨E, T ++ dumsX sp 0 ops.toList, c.B, c.D⟩ a :=
    ⟨k1.hrel, k1.size, k1.env, k1.mlen, k1.nodup, k1.loc, List.take_length, k1.base, k1.fut, fun j r hj hr => by have := lt_of_get hr; omega, k1.scE, k1.scT, k1.defs, k1.marks⟩
  obtain ⟨w2, β2, H2, a2, g1, g2, g3, g4⟩ := run_draw (c := { c with imps := m ++ qs }) md hG hc k1.scE ops.size t (Array.replicate ops.size false) (fun _ => false) { w with drawn := w.drawn + 1 } β1 H1 (m ++ qs) a b cs k hzero (by simp)
    (by unfold unl; exact Nat.le_trans (List.length_filter_le _ _) (by simp)) (fun i hi => by cases hi) (by
      rw [envS_none _ _ _ fun _ _ => rfl, heapS_none _ _ _ fun _ _ => rfl]
      exact k1') (fun j r p hj _ hv => by
        obtain ⟨q, q1, q2, _⟩ := k4 p (hG.virt j r p hj hv) (by have := hp j r p hj hv; simpa using this)
        exact ⟨q, q1, q2⟩) (fun j r _ hj => by cases hj) h1 h2
  have himp : (m ++ qs).take c.imps.length = c.imps := k1.imp
  have g2' : SRel c.imps c.nt w2 β2 H2 (m ++ qs) ⟨_, _, c.B, c.D⟩ a2 :=
    ⟨g2.hrel, g2.size, g2.env, g2.mlen, g2.nodup, g2.loc, himp, g2.base, g2.fut, fun j r hj hr => k1.own j r hj hr, g2.scE, g2.scT, g2.defs, g2.marks⟩
  have hDl : ∀ k ∈ c.D, k < L := fun k hk => by
    obtain ⟨j, hj⟩ := List.getElem?_of_mem hk
    obtain ⟨_, _, _, _, e2, _⟩ := hs.marks j k hj
    have := lt_of_get e2
    simp only at this
    omega
  have hmv := SRel.move (N := N) L g2' hil n3 n1 n2 hDl (fun q o hq => by
    obtain ⟨j, hj⟩ := List.getElem?_of_mem (n4 q o hq)
    exact ⟨L + j, by omega, by rw [List.getElem?_append_right (by omega), show L + j - m.length = j by omega]; exact hj⟩) (fun j q hj hq => by
    rw [List.getElem?_append_right (by omega)] at hq
    obtain ⟨o, o1, o2, o3⟩ := n5 (j - m.length) q hq
    rw [show L + (j - m.length) = j by omega] at o1
    exact ⟨o, o1, o2, o3 _⟩)
  refine ⟨w2, β2, H2, _, a2, k, ⟨E1, T1, c.B.add N, c.D⟩, ?_, hmv, ?_, evp_sound n _ _ _ _ hk⟩
  · refine .head stepR_region_draw ?_
    rw [hmd]
    exact g1.trans (.one stepR_region_end)
  · refine ⟨(hf0.toFr0.trans k2.toFr0).trans g3, fun r hr hn => ?_⟩
    have hn1 := k2.virt r hr hn
    refine g4 r (Nat.lt_of_lt_of_le hr k2.len) hn1 fun p hp hq => ?_
    by_cases hlt : p < T.length + (dumsX sp 0 ops.toList).length
    · obtain ⟨q, q1, _, q3⟩ := k4 p hp hlt
      rw [hq] at q1
      injection q1 with q1
      omega
    · have := lt_of_get hq
      rw [hml, List.length_append] at this
      omega
theorem Fact.more {c : Cx} {ops : Array Oper} {i : Nat} {E : Env} {T : Heap} {d : Option Tmp} {rd : List Tmp} {tc tc' : List Nat} {x : V} {eff : List (Nat × Option HObj)} {vt : Option Nat} (h : Fact c ops i E T ⟨d, rd, tc, x, eff, vt⟩) (hs : ∀ k ∈ tc, k ∈ tc') : Fact c ops i E T ⟨d, rd, tc', x, eff, vt⟩ :=
  fun E' T' h1 h2 h3 => h E' T' h1 h2 fun k hk => h3 k (hs k hk)
/-- A made row under a name. -/
theorem fact_mkN {c : Cx} {ops : Array Oper} {i : Nat} {o : Oper} {E : Env} {T : Heap} {gs : List Tmp} {p g l q : Nat} {ob : HObj} (ho : ops[i]? = some o) (hg : Guarded ops o E gs true) (hq : c.imps[p]? = some q)
    (h : evMk c o.op E T p fun x ob' kills tc => x = .osl (.loc p) g 0 l ∧ ob' = ob ∧ kills = [] ∧ tc = []) : Fact c ops i E T ⟨o.dst, gs ++ tmpsOf o.op.operands.toList, [p], .osl (.abs q) g 0 l, [(p, some ob)], some p⟩ := by
  obtain ⟨x, ob', kills, tc, ⟨rfl, rfl, rfl, rfl⟩, hf, _⟩ := fact_mk (gs := gs) ho hg h
  exact (Fact.named hf hq).more fun k hk => by cases hk
end Bow
/- AE73: drawn regions where the objects are not known one by one. -/
namespace Bow
open Go

theorem fact_loadS {c : Cx} {ops : Array Oper} {i : Nat} {o : Oper} {E : Env} {T : Heap} {gs : List Tmp} {t : TypeId} {x : Operand} {kk off : Nat} {cs : List V} {u : V} (hg : Guarded ops o E gs true) (ho : ops[i]? = some o) (hop : o.op = .load t x) (hx : opd E x = .ptr (.loc kk) off) (hT : T[kk]? = some (some (.box cs)))
    (hp : ∀ K : V → Prop, K u → partK c.P t cs off False K) : Fact c ops i E T ⟨o.dst, gs ++ tmpsOf o.op.operands.toList, [kk], u, [], none⟩ := by
  refine fact_to ho hg (fun cl h => by rw [hop] at h; cases h) fun E' T' hz _ hk => ?_
  have e1 : opd E' x = .ptr (.loc kk) off := (hz x (by rw [hop]; simp [Op.operands])).trans hx
  have e2 : T'[kk]? = some (some (.box cs)) := (hk kk (by simp)).trans hT
  rw [hop]
  refine opTo_of ?_
  simp only [evOp, e1, loadK, lget_eq, e2]
  exact hp _ (by simp [app])
theorem goes_drawXs (sp : List (Nat × Bool)) {c : Cx} {ops : Array Oper} {id : Nat} {k : List Item} {E : Env} {T : Heap} (n : Nat) (hd : dumsX sp 0 ops.toList = []) (h : evdX sp c ops (guardTmps ops.toList ops.toList) ops.toList 0 T.length E T fun En Tn ss => chk ops.toList ss 0 [] [] = true ∧ evp c n k En Tn) :
    Goes c (.code (.region id ops true) :: k) E T := goes_drawX sp n (by rw [catC_eq, hd, List.append_nil]; exact h)
end Bow
/- W141: invert.nodes: a range over a function within a function that calls yield, where the rounds make memory under names. -/
namespace Bow
open Go Go.Proofs

set_option maxRecDepth 100000 in
theorem w_inodes (p : List Int) (t : Tree) : Pure Tryz.prog 53 [pathV p, nodeV t] (fun x => x = .fn (.func 77) [] [.iptr [pathV p] 0, .iptr (nodeV t).cells 0]) := by
  refine pure_fn_frz [0, 1] 100 Tryz.func53 rfl rfl rfl fun B => ?_
  exact ⟨trivial, rfl, rfl, rfl, rfl, rfl, rfl⟩

/-- What is known behind i kids. -/
structure NodI (I : Nat → Base → Prop) (off : Nat) (t : Tree) (B BF : Base) (r : Nat) (i : Nat) (G : Heap) (B' : Base) (D : List Nat) : Prop where
  le : i ≤ t.subs.length
  part : ∃ Bi, I (off + (1 + sizes (t.subs.take i))) Bi ∧ Part B BF Bi B'
  live : allLive G = true
  closed : ∀ n, G.length + 1 ≤ n → closedB n G = true
  nodup : D.Nodup
  marks : ∀ k ∈ D, (some (HObj.box [.yld (.abs r)]) :: G)[k]? = some (some .dfr)
theorem nod_nodup {I : Nat → Base → Prop} {off : Nat} {t : Tree} {B BF : Base} {r i : Nat} {G : Heap} {B' : Base} {D : List Nat} (inv : NodI I off t B BF r i G B' D) : ((G.length + 2) :: D).Nodup := by
  refine List.nodup_cons.2 ⟨fun hm => ?_, inv.nodup⟩
  have := lt_of_get (inv.marks _ hm)
  simp at this
theorem nod_step {I : Nat → Base → Prop} {off : Nat} {t : Tree} {B BF : Base} {r i : Nat} {G : Heap} {B1 : Base} {D : List Nat} (inv : NodI I off t B BF r i G B1 D) {c : Cx} {E : Env} {ps : Array Tmp} {assign body : Code} {st : LoopState} {pe : Option Code} {cs : List V} {B' : Base}
    (hcs : ∀ n, V.scBL n cs = true) (hE : ∀ n, 1 ≤ n → Env.scB n E = true) (hi : i + 1 ≤ t.subs.length) (hP : ∃ Bi, I (off + (1 + sizes (t.subs.take (i + 1)))) Bi ∧ Part B BF Bi B') :
    NodI I off t B BF r (i + 1) (rHeap c E ps assign body (some (HObj.box [.yld (.abs r)]) :: (G ++ [some (HObj.box cs)])) st pe).tail B' ((G.length + 2) :: D) := by
  have hlen : (some (HObj.box [.yld (.abs r)]) :: (G ++ [some (HObj.box cs)])).length = G.length + 2 := by simp
  have hrl : (rHeap c E ps assign body (some (HObj.box [.yld (.abs r)]) :: (G ++ [some (HObj.box cs)])) st pe).tail.length = G.length + 3 := by
    rw [List.length_tail, rHeap_len, hlen]
    omega
  refine ⟨hi, hP, ?_, fun n hn => ?_, nod_nodup inv, fun k hk => ?_⟩
  · have : allLive (rHeap c E ps assign body (some (HObj.box [.yld (.abs r)]) :: (G ++ [some (HObj.box cs)])) st pe) = true := rHeap_live (by
      rw [allLive, allLive_app, inv.live]
      rfl)
    exact this
  · have h1 : closedB n (some (HObj.box [.yld (.abs r)]) :: (G ++ [some (HObj.box cs)])) = true := by
      rw [closedB, closedB_app, inv.closed n (by omega)]
      simp [closedB, HObj.scB, hcs n]
      rfl
    have h2 : closedB n (rHeap c E ps assign body (some (HObj.box [.yld (.abs r)]) :: (G ++ [some (HObj.box cs)])) st pe) = true := closedB_rHeap h1 (hE n (by omega))
    have h3 : closedB n (rHeap c E ps assign body (some (HObj.box [.yld (.abs r)]) :: (G ++ [some (HObj.box cs)])) st pe) = ((HObj.box [.yld (.abs r)]).scB n && closedB n (rHeap c E ps assign body (some (HObj.box [.yld (.abs r)]) :: (G ++ [some (HObj.box cs)])) st pe).tail) := rfl
    rw [h3, Bool.and_eq_true] at h2
    exact h2.2
  · have e : (some (HObj.box [.yld (.abs r)]) :: (rHeap c E ps assign body (some (HObj.box [.yld (.abs r)]) :: (G ++ [some (HObj.box cs)])) st pe).tail) = rHeap c E ps assign body (some (HObj.box [.yld (.abs r)]) :: (G ++ [some (HObj.box cs)])) st pe := rfl
    rw [e]
    rcases List.mem_cons.1 hk with rfl | hk
    · exact rHeap_dfr hlen
    · have h0 := inv.marks k hk
      have h1 := lt_of_get h0
      rw [rHeap_pre (by rw [hlen]; simp at h1; omega), ← List.cons_append, List.getElem?_append_left h1]
      exact h0
theorem sizes_take {ss : List Tree} {i : Nat} (h : i < ss.length) : sizes (ss.take (i + 1)) = sizes (ss.take i) + ss[i].size := by
  have key : ∀ (a : List Tree) (s : Tree), sizes (a ++ [s]) = sizes a + s.size := by
    intro a s
    induction a with
    | nil => simp [sizes]
    | cons x a ih => simp only [List.cons_append, sizes, ih]; omega
  rw [List.take_succ_eq_append_getElem h, key]

set_option maxHeartbeats 4000000 in
set_option maxRecDepth 100000 in
theorem w_nodes1 (t : Tree) : ∀ p : List Int, p.length + t.size ≤ 1000000 → IterS Tryz.prog 77 [] [.iptr [pathV p] 0, .iptr (nodeV t).cells 0] ((t.withP p).map withV) := by
  induction t using Tree.ind with
  | _ t ih =>
  intro p hsz r I off hlp hY
  have hst := size_eq t
  have hsl := length_sizes t.subs
  have hylen : ((t.withP p).map withV).length = t.size := by rw [List.length_map, withP_len]
  have hY : ∀ (k : Nat) (q : List Int) (s : Tree), (t.withP p)[k]? = some (q, s) → YieldS Tryz.prog r [pathV q, nodeV s] (I (off + k)) (I (off + k + 1)) := fun k q s hk => by
    obtain ⟨hk1, hk2⟩ := List.getElem?_eq_some_iff.1 hk
    have := hY k (by rw [List.length_map]; exact hk1)
    rw [List.getElem_map, hk2] at this
    exact this
  rw [hylen]
  have hw := withP_eq p t
  refine funS_of_goesD Tryz.func77 rfl rfl rfl rfl fun B BF hext hI => ?_
  refine go 60 ?_
  show Goes _ _ _ _
  refine goes_yieldS 60 rfl rfl rfl rfl (fun q h => by cases h) hext hI (hlp off B hI) rfl (hY 0 p t (by rw [hw]; rfl)) ?_
  intro B1 BF1 hJ hP
  show Goes { P := Tryz.prog, nt := Tryz.f77.ntmps, fn := 77, ro := none, imps := [], X := XSD B BF (I (off + t.size)), B := BF1, D := [] } _ _ _
  refine goes_growB (ι := Nat × Heap) (fun i B' D => NodI I off t B BF r i.1 i.2 B' D) (fun i => t.subs.length - i.1)
    (fun i => [(16, .int .i64 i.1), (15, .int .i64 t.subV.length), (14, .sl 6 t.subV), (3, .ptr (.loc 0) 0), (2, .iptr (nodeV t).cells 0), (1, .iptr [pathV p] 0)]) (fun i => some (.box [.yld (.abs r)]) :: i.2) (0, [])
    ⟨⟨Nat.zero_le _, ⟨B1, by simpa [sizes] using hJ, hP⟩, rfl, fun _ _ => rfl, List.nodup_nil, fun k h => by cases h⟩, ⟨⟨rfl, rfl⟩, ⟨rfl, rfl⟩, ⟨rfl, rfl⟩, ⟨rfl, rfl⟩, ⟨rfl, rfl⟩, ⟨rfl, rfl⟩, trivial⟩⟩ ?_
  rintro ⟨i, G⟩ Bc D inv next
  refine go 60 ?_
  refine ⟨fun hlt => go 8 ?_, fun hge => go 60 ?_⟩
  · have hi : i < t.subs.length := by simpa [subV_eq] using hlt
    have hx : t.subV[((i : Nat) : Int).toNat]? = some (nodeV t.subs[i]) := by simp [subV_eq, hi]
    refine ⟨Int.natCast_nonneg i, _, hx, ?_⟩
    have hmem := List.getElem_mem hi
    have hss := Tree.size_sub hmem
    have ihs := ih _ hmem (p ++ [(i : Int)]) (by rw [List.length_append]; simp; omega)
    have htk := sizes_take hi
    obtain ⟨a, ha1, ha2⟩ := treesP_drop p i 0 t.subs
    rw [drop_cons hi, treesP, Nat.zero_add] at ha1
    have hYs : ∀ (k : Nat) (q : List Int) (s : Tree), (t.subs[i].withP (p ++ [(i : Int)]))[k]? = some (q, s) → YieldS Tryz.prog r [pathV q, nodeV s] (I (off + (1 + sizes (t.subs.take i)) + k)) (I (off + (1 + sizes (t.subs.take i)) + k + 1)) := fun k q s hk => by
      have := hY (1 + sizes (t.subs.take i) + k) q s (by
        have hkl := lt_of_get hk
        rw [hw, ha1, show 1 + sizes (t.subs.take i) + k = (a.length + k) + 1 by omega, List.getElem?_cons_succ, List.getElem?_append_right (by omega), Nat.add_sub_cancel_left, List.getElem?_append_left hkl]
        exact hk)
      rw [← Nat.add_assoc] at this
      exact this
    clear ha1 ha2 a
    generalize t.subs[i] = s at hx ihs hss htk hYs
    obtain ⟨Bi, hIi, hPi⟩ := inv.part
    have hIi : I (off + (1 + sizes (t.subs.take i))) Bi := hIi
    show Goes _ (.inRegion _ [3, 4, 5] :: _) _ _
    refine goes_allocS 1 rfl rfl rfl rfl rfl ?_
    show Goes _ (.inRegion _ [5] :: _) _ _
    refine goes_storeS 0 rfl rfl rfl rfl rfl List.getElem?_concat_length rfl rfl (fun K h => h) ?_
    have e1 : ∀ (A : Heap) (x y : Option HObj), (A ++ [x]).set A.length y = A ++ [y] := fun A x y => by simp
    rw [e1]
    show Goes _ (.inRegion _ [] :: _) _ (some (.box [.yld (.abs r)]) :: (G ++ [some (.box (nodeV s).cells)]))
    refine go 2 ?_
    show Goes _ (.code (.region _ _ true) :: _) _ _
    refine goes_drawXs [(3, false)] 60 rfl ?_
    refine ⟨_, w_Child p i (by omega), rfl, ?_⟩
    refine ⟨[G.length + 1], nodeV s, [], fun gs hg => fact_loadS (cs := (nodeV s).cells) hg rfl rfl rfl (List.getElem?_concat_length (l := some (HObj.box [.yld (.abs r)]) :: G) (a := some (HObj.box (nodeV s).cells))) (fun K h => h), trivial, ?_⟩
    refine ⟨_, w_inodes (p ++ [(i : Int)]) s, rfl, ?_⟩
    refine ⟨by kernel_rfl, ?_⟩
    show Goes _ (.code (.rangeFunc _ _ _ _) :: _) _ _
    refine goes_forget [(25, .fn (.func 77) [] [.iptr [pathV (p ++ [(i : Int)])] 0, .iptr (nodeV s).cells 0]), (16, .int .i64 i), (15, .int .i64 t.subV.length), (14, .sl 6 t.subV), (3, .ptr (.loc 0) 0), (2, .iptr (nodeV t).cells 0), (1, .iptr [pathV p] 0)] ⟨⟨rfl, rfl⟩, ⟨rfl, rfl⟩, ⟨rfl, rfl⟩, ⟨rfl, rfl⟩, ⟨rfl, rfl⟩, ⟨rfl, rfl⟩, ⟨rfl, rfl⟩, trivial⟩ ?_
    have hlen : (some (HObj.box [.yld (.abs r)]) :: (G ++ [some (HObj.box (nodeV s).cells)])).length = G.length + 2 := by simp
    have hlive : allLive (some (HObj.box [.yld (.abs r)]) :: (G ++ [some (HObj.box (nodeV s).cells)])) = true := by
      rw [allLive, allLive_app, show allLive G = true from inv.live]
      rfl
    have hcl : closedB (G.length + 2 + 2) (some (HObj.box [.yld (.abs r)]) :: (G ++ [some (HObj.box (nodeV s).cells)])) = true := by
      rw [closedB, closedB_app, show closedB (G.length + 2 + 2) G = true from inv.closed _ (by simp only; omega)]
      rfl
    have hmk : ∀ k ∈ D, (some (HObj.box [.yld (.abs r)]) :: (G ++ [some (HObj.box (nodeV s).cells)]))[k]? = some (some .dfr) := fun k hk => by
      have h0 := inv.marks k hk
      have h1 := lt_of_get h0
      rw [← List.cons_append, List.getElem?_append_left h1]
      exact h0
    refine goes_rangeS (ys := (s.withP (p ++ [(i : Int)])).map withV) (R := fun j T B => T = (some (HObj.box [.yld (.abs r)]) :: (G ++ [some (HObj.box (nodeV s).cells)])) ∧ I (off + (1 + sizes (t.subs.take i)) + j) B) (Bo := Bi) 0 (G.length + 2) ⟨_, Tryz.func77, rfl, rfl⟩ rfl rfl rfl hlen rfl
      (fun y hy => by obtain ⟨a, _, rfl⟩ := List.mem_map.1 hy; rfl) rfl (fun y hy => by obtain ⟨a, _, rfl⟩ := List.mem_map.1 hy; rfl) hPi.ext ⟨rfl, hIi⟩ (fun j T B h => by obtain ⟨rfl, _⟩ := h; exact ⟨hlen, hlive, hmk⟩) ihs ?_ ?_
    · intro j hj mw r1 l pre Bo BF2 hR hmw hr1 hext2 hon
      obtain ⟨rfl, hIj⟩ := hR
      have hj' : j < (s.withP (p ++ [(i : Int)])).length := by rwa [List.length_map] at hj
      obtain ⟨⟨q, y⟩, hqy⟩ : ∃ z, (s.withP (p ++ [(i : Int)]))[j] = z := ⟨_, rfl⟩
      have hyj := hYs j q y (by rw [List.getElem?_eq_getElem hj', hqy])
      rw [List.getElem_map, hqy]
      have hlpj := hlp _ _ hIj
      show Goes _ _ _ _
      refine go 5 ?_
      show Goes _ (.inRegion _ [0, 1] :: _) _ _
      refine goes_allocS 0 rfl rfl rfl rfl rfl ?_
      show Goes _ (.inRegion _ [1] :: _) _ _
      refine goes_storeS 0 rfl rfl rfl rfl rfl List.getElem?_concat_length rfl rfl (fun K h => h) ?_
      rw [e1]
      show Goes _ (.inRegion _ [] :: _) _ _
      refine go 8 ?_
      show Goes _ (.beginRound :: _) _ _
      refine goes_beginRound (kl := G.length + 2 + 1) 0 rfl hr1 (by rw [lget_eq, List.getElem?_append_left (by rw [rHeap_len, hlen]; omega)]; exact rHeap_loop hlen) ?_
      rw [lset_eq, List.set_append_left _ _ (by rw [rHeap_len, hlen]; omega), rHeap_set hlen]
      refine go 5 ?_
      show Goes _ (.inRegion _ [2, 3, 4] :: _) _ _
      refine goes_loadS (cs := (nodeV y).cells) 0 rfl rfl rfl rfl (by rw [rHeap_len, hlen, List.getElem?_append_right (by rw [rHeap_len, hlen]; exact Nat.le_refl _), rHeap_len, hlen, Nat.sub_self]; rfl) (fun K h => h) ?_
      show Goes _ (.inRegion _ [3, 4] :: _) _ _
      refine goes_yieldS 60 rfl rfl rfl rfl hon hext2 hIj hlpj rfl hyj ?_
      intro B' B1 hJ hP
      exact ⟨rfl, rfl, _, B', hlen, heapIs_pre _ (closedB_rHeap hcl rfl), ⟨rfl, hJ⟩, hP⟩
    · intro pre' Bo' B1 hR hP
      obtain ⟨rfl, hIn⟩ := hR
      show Goes _ _ _ _
      refine go 60 ?_
      refine ⟨by constructor <;> omega, ?_⟩
      show Goes _ _ _ _
      refine next (i + 1, _) B1 ((G.length + 2) :: D) _ ⟨nod_step inv (cs := (nodeV s).cells) (fun _ => rfl) (fun n hn => ?_) hi ⟨Bo', ?_, hPi.trans hP⟩, by simp only; omega, ⟨⟨rfl, rfl⟩, ⟨rfl, rfl⟩, ⟨rfl, rfl⟩, ⟨rfl, rfl⟩, ⟨rfl, rfl⟩, ⟨rfl, rfl⟩, trivial⟩⟩
      · obtain ⟨n, rfl⟩ : ∃ k, n = k + 1 := ⟨n - 1, by omega⟩
        rfl
      · rw [htk, ← withP_len (p ++ [(i : Int)]) s]
        rw [List.length_map] at hIn
        rw [← Nat.add_assoc 1, ← Nat.add_assoc off]
        exact hIn
  · have hi : t.subs.length ≤ i := by simpa [subV_eq] using hge
    obtain ⟨Bi, h1, h2⟩ := inv.part
    rw [List.take_of_length_le hi, ← hst] at h1
    exact ⟨trivial, inv.nodup, Bi, h1, h2⟩
end Bow
/- SP25: what an operation does not say counts for nothing (square); lists brought one behind the other, in plain Lean. -/
namespace Bow
open Go

/-- The fields that an operation of a known kind says. -/
theorem bareK1 {o : OpT} (h : o.kind = 1) : bareO o = { noOp 1 with path := o.path, at_ := o.at_, id := o.id, leaf := o.leaf, label := o.label } := by unfold bareO; rw [h]; rfl
theorem bareK2 {o : OpT} (h : o.kind = 2) : bareO o = { noOp 2 with path := o.path } := by unfold bareO; rw [h]; rfl
theorem bareK3 {o : OpT} (h : o.kind = 3) : bareO o = { noOp 3 with path := o.path, at_ := o.at_, to := o.to } := by unfold bareO; rw [h]; rfl
theorem bareK4 {o : OpT} (h : o.kind = 4) : bareO o = { noOp 4 with path := o.path, key := o.key, gone := o.gone, value := bif o.gone then [] else o.value } := by unfold bareO; rw [h]; rfl
theorem bareK5 {o : OpT} (h : o.kind = 5) : bareO o = { noOp 5 with path := o.path, label := o.label } := by unfold bareO; rw [h]; rfl
theorem bareK6 {o : OpT} (h : o.kind = 6) : bareO o = { noOp 6 with path := o.path, pieces := o.pieces } := by unfold bareO; rw [h]; rfl
theorem bareX {o : OpT} (h1 : o.kind ≠ 1) (h2 : o.kind ≠ 2) (h3 : o.kind ≠ 3) (h4 : o.kind ≠ 4) (h5 : o.kind ≠ 5) (h6 : o.kind ≠ 6) : bareO o = noOp o.kind := by
  unfold bareO
  have e : ∀ {n : Int}, o.kind ≠ n → (o.kind == n) = false := fun h => by simpa using h
  rw [e h1, e h2, e h3, e h4, e h5, e h6]
  rfl
theorem kind_cases (o : OpT) : o.kind = 1 ∨ o.kind = 2 ∨ o.kind = 3 ∨ o.kind = 4 ∨ o.kind = 5 ∨ o.kind = 6 ∨ (o.kind ≠ 1 ∧ o.kind ≠ 2 ∧ o.kind ≠ 3 ∧ o.kind ≠ 4 ∧ o.kind ≠ 5 ∧ o.kind ≠ 6) := by omega
theorem bare_idem (o : OpT) : bareO (bareO o) = bareO o := by
  rcases kind_cases o with h | h | h | h | h | h | ⟨h1, h2, h3, h4, h5, h6⟩
  · rw [bareK1 h]; rfl
  · rw [bareK2 h]; rfl
  · rw [bareK3 h]; rfl
  · rw [bareK4 h]
    unfold bareO
    cases o.gone <;> rfl
  · rw [bareK5 h]; rfl
  · rw [bareK6 h]; rfl
  · have e : (bareO o).kind = o.kind := bare_kind o
    rw [bareX (o := bareO o) (by rw [e]; exact h1) (by rw [e]; exact h2) (by rw [e]; exact h3) (by rw [e]; exact h4) (by rw [e]; exact h5) (by rw [e]; exact h6), e, bareX h1 h2 h3 h4 h5 h6]
end Bow
/- SP26: a list brought by two lists, one behind the other, and by both in one, in plain Lean. -/
namespace Bow
open Go

section
variable {prior : Bool}
end
end Bow
/- SP30: what two lists come to; brought by two lists or by both in one, in plain Lean. -/
namespace Bow
open Go

end Bow
/- W65: lists.bring's walk. -/
namespace Bow
open Go Go.Proofs

end Bow
/- W66: the laws of chapter 13: what they use; the examples; which lists say the same. -/
namespace Bow
open Go Go.Proofs

theorem okE_op (o : OpT) : okE 11 (opV o) := ⟨rfl, rfl⟩
/-- Numbers that are the same as themselves. -/
theorem w_SameInts (p : List Int) (hp : p.length ≤ 1000000) : Pure Tryz.prog 30 [pathV p, pathV p] (fun x => x = .bool true) := by
  refine pure_wk (pure_fn 300 Tryz.func30 rfl rfl rfl fun B => ?_)
  refine ⟨fun g => absurd rfl (ne_of' g), fun _ => go 300 ?_⟩
  show Goes _ _ _ _
  refine goes_iter (ι := Nat) (fun i => i ≤ p.length) (fun i => p.length - i) (fun i => [(5, .int .i64 i), (0, pathV p), (1, pathV p)]) (fun _ => []) 0 300 (fun _ => rfl) (fun _ => rfl) ⟨Nat.zero_le _, ⟨⟨rfl, rfl⟩, ⟨rfl, rfl⟩, ⟨rfl, rfl⟩, trivial⟩, trivial⟩ ?_
  rintro i k1 next
  refine ⟨fun hlt => go 300 ?_, fun hge => go 300 ?_⟩
  · have hi : i < p.length := by simpa using hlt
    have hx : (p.map intV)[i]? = some (intV p[i]) := by simp [hi]
    show Goes _ _ _ _
    refine goes_drawX [] 300 ⟨Int.natCast_nonneg i, _, hx, Int.natCast_nonneg i, _, hx, ?_⟩
    refine ⟨by kernel_rfl, ?_⟩
    refine ⟨fun g => absurd rfl (ne_of' g), fun _ => go 300 ?_⟩
    refine ⟨by constructor <;> omega, ?_⟩
    show Goes _ _ _ _
    exact next (i + 1) _ _ ⟨hi, by omega, ⟨⟨rfl, rfl⟩, ⟨rfl, rfl⟩, ⟨rfl, rfl⟩, trivial⟩, trivial⟩
  · exact ⟨trivial, rfl, rfl, rfl, leaf_tt rfl⟩
end Bow
/- W68: which lists say the same; chapter 13's few. -/
namespace Bow
open Go Go.Proofs

theorem sameO_refl (o : OpT) : sameO o o = true := by
  unfold sameO eqO
  simp
end Bow
/- W69: the laws ListsSame and ListsJoined, walked. -/
namespace Bow
open Go Go.Proofs

end Bow
/- W76: treeops.Bare, seen to hand back rows of its own. -/
namespace Bow
open Go Go.Proofs

/-- The names of an operation's rows, and their generations. -/
structure Ns where
  p : Nat
  gp : Nat
  t : Nat
  gt : Nat
  s : Nat
  gs : Nat
def opN (ns : Ns) (o : OpT) : V := .agg [.int .u8 o.kind, .osl (.abs ns.p) ns.gp 0 (o.path.map intV).length, .int .i64 o.at_, .osl (.abs ns.t) ns.gt 0 (o.to.map intV).length, .int .u64 o.id, .bool o.leaf, .str o.label, .str o.key, .str o.value, .bool o.gone, .osl (.abs ns.s) ns.gs 0 (o.pieces.map pieceV).length]
structure NsOk (N : Base) (ns : Ns) (o : OpT) : Prop where
  path : N ns.p = some (.vec ns.gp 1 (o.path.map intV))
  to : N ns.t = some (.vec ns.gt 1 (o.to.map intV))
  pieces : N ns.s = some (.vec ns.gs 3 (o.pieces.map pieceV))
theorem NsOk.ext {N N' : Base} {ns : Ns} {o : OpT} (h : NsOk N ns o) (e : Ext N N') : NsOk N' ns o := ⟨e _ _ h.path, e _ _ h.to, e _ _ h.pieces⟩

def BareQ (o : OpT) (x : V) (T' : Heap) : Prop := ∃ (kp gp kt gt ks gs : Nat) (l e : V), x = .agg [.int .u8 o.kind, .osl (.loc kp) gp 0 (o.path.map intV).length, .int .i64 o.at_, .osl (.loc kt) gt 0 (o.to.map intV).length, .int .u64 o.id, l, .str o.label, .str o.key, .str o.value, e, .osl (.loc ks) gs 0 (o.pieces.map pieceV).length] ∧
  (Wk l (.bool o.leaf) ∧ l.pureB = true) ∧ (Wk e (.bool o.gone) ∧ e.pureB = true) ∧ (lget T' kp = some (some (.vec gp 1 (o.path.map intV))) ∧ lget T' kt = some (some (.vec gt 1 (o.to.map intV))) ∧ lget T' ks = some (some (.vec gs 3 (o.pieces.map pieceV)))) ∧ allLive T' = true
theorem bareQ_of {o o' : OpT} {x : V} {T' : Heap} (e : o = o') (h : BareQ o' x T') : BareQ o x T' := e ▸ h

theorem w_someIntF (p : List Int) (h : p.length ≤ 1000000) : Fun Tryz.prog 93 [] [pathV p] (fun x T' => ∃ g0, x = .osl (.loc 0) g0 0 (p.map intV).length ∧ T' = [some (.vec g0 1 (p.map intV))]) := by
  refine fun_fn 100 Tryz.func93 rfl rfl rfl fun imps B hi => ?_
  refine ⟨Nat.le_trans (Nat.mul_le_mul_right _ (show (p.map intV).length ≤ 1000000 by simpa using h)) (by decide), ?_⟩
  exact ⟨trivial, rfl, rfl, 0, rfl, rfl⟩
theorem w_somePieceF (p : List PieceT) (h : p.length ≤ 1000000) : Fun Tryz.prog 94 [] [piecesV p] (fun x T' => ∃ g0, x = .osl (.loc 0) g0 0 (p.map pieceV).length ∧ T' = [some (.vec g0 3 (p.map pieceV))]) := by
  refine fun_fn 100 Tryz.func94 rfl rfl rfl fun imps B hi => ?_
  refine ⟨Nat.le_trans (Nat.mul_le_mul_right _ (show (p.map pieceV).length ≤ 1000000 by simpa using h)) (by decide), ?_⟩
  exact ⟨trivial, rfl, rfl, 0, rfl, rfl⟩

set_option maxHeartbeats 2000000 in
set_option maxRecDepth 100000 in
theorem w_BareF (o : OpT) (ho : o.Lt 1000000) : Fun Tryz.prog 65 [] [opV o] (BareQ (bareO o)) := by
  refine fun_fn 100 Tryz.func65 rfl rfl rfl fun imps B hi => ?_
  have : imps = [] := List.length_eq_zero_iff.1 hi
  subst this
  show Goes _ _ _ _
  refine goes_drawN [93] 0 ?_
  refine ⟨1, o.path.map intV, w_someIntF o.path ho.path, rfl, rfl, ?_⟩
  refine ⟨by kernel_rfl, ?_⟩
  refine ⟨by kernel_rfl, ?_⟩
  show Goes _ _ _ _
  refine goes_nilCell 3 3 1 rfl rfl ?_
  refine goes_nilCell 3 10 3 rfl rfl ?_
  refine go 100 ?_
  refine ⟨fun g1 => go 100 ?_, fun g1 => go 100 ?_⟩
  · have g1 := eq_of g1
    have e : bareO o = { noOp 1 with path := o.path, at_ := o.at_, id := o.id, leaf := o.leaf, label := o.label } := by simp only [bareO, g1]; rfl
    show Goes _ _ _ _
    refine goes_drawX [] 100 ?_
    refine ⟨by kernel_rfl, ?_⟩
    exact ⟨trivial, rfl, rfl, bareQ_of e ⟨2, 2, 4, 0, 5, 0, .bool o.leaf, .ff, by rw [← g1]; rfl, ⟨.refl _, rfl⟩, ⟨Wk.ff, rfl⟩, ⟨rfl, rfl, rfl⟩, rfl⟩⟩
  refine ⟨fun g2 => go 100 ?_, fun g2 => go 100 ?_⟩
  · have g2 := eq_of g2
    have e : bareO o = { noOp 2 with path := o.path } := by simp only [bareO, g2]; rfl
    exact ⟨trivial, rfl, rfl, bareQ_of e ⟨2, 2, 4, 0, 5, 0, .ff, .ff, by rw [← g2]; rfl, ⟨Wk.ff, rfl⟩, ⟨Wk.ff, rfl⟩, ⟨rfl, rfl, rfl⟩, rfl⟩⟩
  refine ⟨fun g3 => go 100 ?_, fun g3 => go 100 ?_⟩
  · have g3 := eq_of g3
    have e : bareO o = { noOp 3 with path := o.path, at_ := o.at_, to := o.to } := by simp only [bareO, g3]; rfl
    show Goes _ _ _ _
    refine goes_drawN [93] 100 ?_
    refine ⟨1, o.to.map intV, w_someIntF o.to ho.to, rfl, rfl, ?_⟩
    refine ⟨by kernel_rfl, ?_⟩
    exact ⟨trivial, rfl, rfl, bareQ_of e ⟨2, 2, 6, 2, 5, 0, .ff, .ff, by rw [← g3]; rfl, ⟨Wk.ff, rfl⟩, ⟨Wk.ff, rfl⟩, ⟨rfl, rfl, rfl⟩, rfl⟩⟩
  refine ⟨fun g4 => go 100 ?_, fun g4 => go 100 ?_⟩
  · have g4 := eq_of g4
    show Goes _ _ _ _
    refine goes_drawX [] 100 ?_
    refine ⟨by kernel_rfl, ?_⟩
    refine ⟨fun h => go 100 ?_, fun h => go 100 ?_⟩
    · have h : o.gone = false := by simpa using h
      have e : bareO o = { noOp 4 with path := o.path, key := o.key, gone := o.gone, value := o.value } := by simp only [bareO, g4, h]; rfl
      exact ⟨trivial, rfl, rfl, bareQ_of e ⟨2, 2, 4, 0, 5, 0, .ff, .bool o.gone, by rw [← g4]; rfl, ⟨Wk.ff, rfl⟩, ⟨.refl _, rfl⟩, ⟨rfl, rfl, rfl⟩, rfl⟩⟩
    · have h : o.gone = true := by simpa using h
      have e : bareO o = { noOp 4 with path := o.path, key := o.key, gone := o.gone, value := [] } := by simp only [bareO, g4, h]; rfl
      exact ⟨trivial, rfl, rfl, bareQ_of e ⟨2, 2, 4, 0, 5, 0, .ff, .bool o.gone, by rw [← g4]; rfl, ⟨Wk.ff, rfl⟩, ⟨.refl _, rfl⟩, ⟨rfl, rfl, rfl⟩, rfl⟩⟩
  refine ⟨fun g5 => go 100 ?_, fun g5 => go 100 ?_⟩
  · have g5 := eq_of g5
    have e : bareO o = { noOp 5 with path := o.path, label := o.label } := by simp only [bareO, g5]; rfl
    exact ⟨trivial, rfl, rfl, bareQ_of e ⟨2, 2, 4, 0, 5, 0, .ff, .ff, by rw [← g5]; rfl, ⟨Wk.ff, rfl⟩, ⟨Wk.ff, rfl⟩, ⟨rfl, rfl, rfl⟩, rfl⟩⟩
  refine ⟨fun g6 => go 100 ?_, fun g6 => go 4 ?_⟩
  · have g6 := eq_of g6
    have e : bareO o = { noOp 6 with path := o.path, pieces := o.pieces } := by simp only [bareO, g6]; rfl
    show CallThen _ _ _ _ _ _
    refine call_sub [] (w_somePieceF o.pieces ho.pieces) rfl rfl trivial rfl rfl rfl ?_
    rintro x T1 ⟨g0, rfl, rfl⟩
    refine ⟨rfl, ?_⟩
    exact ⟨trivial, rfl, rfl, bareQ_of e ⟨2, 2, 4, 0, 6, g0, .ff, .ff, by rw [← g6]; rfl, ⟨Wk.ff, rfl⟩, ⟨Wk.ff, rfl⟩, ⟨rfl, rfl, rfl⟩, rfl⟩⟩
  · have g1 := ne_of g1
    have g2 := ne_of g2
    have g3 := ne_of g3
    have g4 := ne_of g4
    have g5 := ne_of g5
    have g6 := ne_of g6
    have e : bareO o = noOp o.kind := by
      unfold bareO
      rw [show (o.kind == 1) = false by simpa using g1, show (o.kind == 2) = false by simpa using g2, show (o.kind == 3) = false by simpa using g3, show (o.kind == 4) = false by simpa using g4, show (o.kind == 5) = false by simpa using g5, show (o.kind == 6) = false by simpa using g6]
      rfl
    show Goes _ _ _ _
    refine goes_nilCell 3 1 1 rfl rfl ?_
    refine go 100 ?_
    exact ⟨trivial, rfl, rfl, bareQ_of e ⟨6, 0, 4, 0, 5, 0, .ff, .ff, rfl, ⟨Wk.ff, rfl⟩, ⟨Wk.ff, rfl⟩, ⟨rfl, rfl, rfl⟩, rfl⟩⟩

theorem w_BareN (o : OpT) (ho : o.Lt 1000000) : FunN Tryz.prog 65 [opV o] (fun x N => ∃ ns, x = opN ns (bareO o) ∧ NsOk N ns (bareO o)) := by
  refine funN_wk ((funN_of_fun (w_BareF o ho) rfl fun x T' h => ?_).mono fun x N => ?_)
  · obtain ⟨kp, gp, kt, gt, ks, gs, l, e, _, _, _, _, h⟩ := h
    exact h
  rintro ⟨x', T', m', ⟨kp, gp, kt, gt, ks, gs, l, e, rfl, ⟨l1, l2⟩, ⟨e1, e2⟩, ⟨h1, h2, h3⟩, _⟩, rfl, hl, _, hN⟩
  simp only [lget_eq] at h1 h2 h3
  have get : ∀ (k : Nat) (o : HObj), T'[k]? = some (some o) → ∃ q, m'[k]? = some q := fun k o h => ⟨_, List.getElem?_eq_getElem (by have := lt_of_get h; omega)⟩
  obtain ⟨q1, k1⟩ := get _ _ h1
  obtain ⟨q2, k2⟩ := get _ _ h2
  obtain ⟨q3, k3⟩ := get _ _ h3
  refine ⟨opN ⟨q1, gp, q2, gt, q3, gs⟩ (bareO o), ?_, rfl, _, rfl, ⟨hN kp q1 _ k1 h1, hN kt q2 _ k2 h2, hN ks q3 _ k3 h3⟩⟩
  simp only [V.conv, V.convL, Ref.conv, k1, k2, k3, pure_conv m' l l2, pure_conv m' e e2]
  exact Wk.agg ⟨.refl _, .refl _, .refl _, .refl _, .refl _, l1, .refl _, .refl _, .refl _, e1, .refl _, trivial⟩
end Bow
/- W77: lists of operations whose rows have names; lists.bare, square.Behind, square.Both, lists.Both, seen to hand back memory of their own. -/
namespace Bow
open Go Go.Proofs

end Bow
/- W78: bowerlaw12.spoil, which writes over an operation's own rows. -/
namespace Bow
open Go Go.Proofs

end Bow
/- SP28: where a node is, number by number (the document's answer), in plain Lean. -/
namespace Bow
open Go

end Bow
/- W67: the document's answer of chapter 11: Moves, parent, child, Node, Gap, Undo. -/
namespace Bow
open Go Go.Proofs

theorem formed_kinds {o : OpT} (h : formedB o = true) : o.kind = 1 ∨ o.kind = 2 ∨ o.kind = 3 ∨ o.kind = 4 ∨ o.kind = 5 ∨ o.kind = 6 := by
  unfold formedB at h
  by_cases h1 : o.kind = 1
  · exact .inl h1
  by_cases h2 : o.kind = 2
  · exact .inr (.inl h2)
  by_cases h3 : o.kind = 3
  · exact .inr (.inr (.inl h3))
  by_cases h4 : o.kind = 4
  · exact .inr (.inr (.inr (.inl h4)))
  by_cases h5 : o.kind = 5
  · exact .inr (.inr (.inr (.inr (.inl h5))))
  by_cases h6 : o.kind = 6
  · exact .inr (.inr (.inr (.inr (.inr h6))))
  exfalso
  have e : ∀ {n : Int}, o.kind ≠ n → (o.kind == n) = false := fun h => by simpa using h
  rw [e h1, e h2, e h3, e h4, e h5, e h6] at h
  simp at h
theorem w_refChild4 (p : List Int) (n : Int) (hp : p.length ≤ 100000) : Pure Tryz.prog 36 [pathV p, .int .i64 n] (fun x => x = pathV (p ++ [n])) := by
  refine pure_wk (pure_fn 300 Tryz.func36 rfl rfl rfl fun B => ?_)
  show CallThen _ _ _ _ _ _
  refine call_sub [] (w_CopiedQ (p.map intV) (by simp; omega)) rfl rfl trivial rfl rfl rfl ?_
  rintro x T1 ⟨rfl, rfl⟩
  refine ⟨rfl, ?_⟩
  refine ⟨⟨rfl, trivial⟩, rfl, rfl, rfl, rfl, ?_, ?_⟩
  · simp only [List.length_map, List.length_cons, List.length_nil]; exact Nat.le_trans (Nat.mul_le_mul_right _ (show p.length + 1 ≤ 1000000 by omega)) (by decide)
  refine ⟨trivial, rfl, rfl, rfl, by simp, rfl, pathV (p ++ [n]), ?_, rfl, rfl⟩
  unfold pathV
  rw [List.map_append]
  exact Wk.refl _
end Bow
/- W71: the document's answer of chapter 12: what becomes of an operation behind another one. -/
namespace Bow
open Go Go.Proofs

theorem within_eq {p q : List Int} (h : within p q = true) (hl : q.length ≤ p.length) : p = q := by
  unfold within at h
  rw [List.take_of_length_le hl] at h
  exact of_decide_eq_true h
end Bow
/- W72: the document's Behind and Both (chapter 12); the law SquareBehind, walked. -/
namespace Bow
open Go Go.Proofs

end Bow
/- W79: the law SquareBoth, walked. -/
namespace Bow
open Go Go.Proofs

end Bow
/- W28: the chapter's examples. -/
namespace Bow
open Go Go.Proofs

end Bow
/- W29: the chapter's examples, all. -/
namespace Bow
open Go Go.Proofs

end Bow
/- W30: the laws' functions: TreeopsFormed, TreeopsValid. -/
namespace Bow
open Go Go.Proofs

end Bow
/- W40: the law's function TreeopsApply. -/
namespace Bow
open Go Go.Proofs

end Bow
/- W90: the law TreeopsSame, walked. -/
namespace Bow
open Go Go.Proofs

theorem apart_int {ss : List Nat} : ∀ l : List Int, V.apartL ss (l.map intV) = true
  | [] => rfl
  | i :: l => by rw [List.map_cons, V.apartL, apart_int l]; rfl
end Bow
/- SP81: the making of a node, in plain Lean. -/
namespace Bow
open Go

def kInsO (x : List Int × Tree) : OpT := { noOp 1 with path := x.1.dropLast, at_ := x.1.getLast?.getD 0, id := x.2.id, leaf := x.2.leaf, label := x.2.label }
def kAttO (q : List Int) (a : List UInt8 × List UInt8) : OpT := { noOp 4 with path := q, key := a.1, value := a.2 }
def kTxtO (q : List Int) (s : List UInt8) : OpT := { noOp 6 with path := q, pieces := [⟨0, 0, s⟩] }
def mkOps (x : List Int × Tree) : List OpT := kInsO x :: x.2.attrs.map (kAttO x.1) ++ (bif decide (x.2.text = []) then [] else [kTxtO x.1 x.2.text])
def makeL (p : List Int) (at_ : Int) (t : Tree) : List OpT := (t.withP (p ++ [at_])).flatMap mkOps
theorem flat_take {α β : Type} {f : α → List β} {l : List α} {i : Nat} {x : α} (h : l[i]? = some x) : (l.take (i + 1)).flatMap f = (l.take i).flatMap f ++ f x := by
  obtain ⟨h1, h2⟩ := List.getElem?_eq_some_iff.1 h
  rw [List.take_succ_eq_append_getElem h1, List.flatMap_append, h2]
  simp
theorem mkOps_len (x : List Int × Tree) : (mkOps x).length ≤ x.2.attrs.length + 2 := by
  unfold mkOps
  rw [List.length_append, List.length_cons, List.length_map]
  cases decide (x.2.text = []) <;> simp
mutual
theorem withP_mem {q : List Int} {s : Tree} : ∀ {t : Tree} {p : List Int}, (q, s) ∈ t.withP p → p.length ≤ q.length ∧ q.length ≤ p.length + t.size ∧ s.weight ≤ t.weight
  | .mk i l b a c ss, p, h => by
    rw [Tree.withP] at h
    rcases List.mem_cons.1 h with h | h
    · injection h with h1 h2
      subst h1 h2
      exact ⟨Nat.le_refl _, by omega, Nat.le_refl _⟩
    · obtain ⟨h1, h2, h3⟩ := treesP_mem h
      have e1 : (Tree.mk i l b a c ss).size = 1 + sizes ss := size_eq _
      have e2 := weight_eq (.mk i l b a c ss)
      simp only [Tree.subs] at e2
      refine ⟨by omega, by omega, by omega⟩
theorem treesP_mem {q : List Int} {s : Tree} : ∀ {ss : List Tree} {p : List Int} {k : Nat}, (q, s) ∈ treesP p k ss → p.length < q.length ∧ q.length ≤ p.length + 1 + sizes ss ∧ s.weight ≤ weights ss
  | [], p, k, h => by rw [treesP] at h; cases h
  | t :: ss, p, k, h => by
    rw [treesP] at h
    rw [sizes, weights]
    rcases List.mem_append.1 h with h | h
    · obtain ⟨h1, h2, h3⟩ := withP_mem h
      rw [List.length_append] at h1 h2
      simp only [List.length_cons, List.length_nil] at h1 h2
      exact ⟨by omega, by omega, by omega⟩
    · obtain ⟨h1, h2, h3⟩ := treesP_mem h
      exact ⟨h1, by omega, by omega⟩
end
mutual
theorem mak_len (p : List Int) : ∀ t : Tree, ((t.withP p).flatMap mkOps).length ≤ 3 * t.weight
  | .mk i l b a c ss => by
    have e2 := weight_eq (.mk i l b a c ss)
    have h1 := mkOps_len (p, Tree.mk i l b a c ss)
    have h2 := maks_len p 0 ss
    rw [Tree.withP, List.flatMap_cons, List.length_append]
    simp only [Tree.subs, Tree.attrs] at e2 h1
    omega
theorem maks_len (p : List Int) (k : Nat) : ∀ ss : List Tree, ((treesP p k ss).flatMap mkOps).length ≤ 3 * weights ss
  | [] => by rw [treesP]; simp
  | t :: ss => by
    have h1 := mak_len (p ++ [(k : Int)]) t
    have h2 := maks_len p (k + 1) ss
    rw [treesP, List.flatMap_append, List.length_append, weights]
    omega
end
theorem flat_take_le {α β : Type} {f : α → List β} (l : List α) (i : Nat) : ((l.take i).flatMap f).length ≤ (l.flatMap f).length := by
  have h : (l.flatMap f) = (l.take i).flatMap f ++ (l.drop i).flatMap f := by rw [← List.flatMap_append, List.take_append_drop]
  rw [h, List.length_append]
  omega
end Bow
/- AE74: functions that hand back memory under names, behind marks. -/
namespace Bow
open Go

def XND (P : Program) (rs : Array ResultVar) (B : Base) (Q : V → Base → Prop) (e : Exit) (s : St) : Prop :=
  (match e with | .normal | .ret => True | _ => False) ∧ nodupB s.D = true ∧ Ext B s.B ∧ resK P [] s.B rs.toList s.E (killD s.D s.T) False fun xs => frz (resV xs) (killD s.D s.T) False fun x _ => x.pureB = true ∧ ∃ y, Wk x y ∧ y.pureB = true ∧ Q y (newPart B s.B)

theorem funN_of_goesD {P : Program} {g : FuncId} {fn : Func} {body : Code} {args : List V} {Q : V → Base → Prop} (n : Nat) (hf : P.funcs[g]? = some fn) (hn : (fn.name == "runtime.NumGoroutine") = false) (hb : fn.body = some body) (hnt : Nat.ble args.length fn.ntmps = true)
    (h : ∀ B : Base, evp { P := P, nt := fn.ntmps, fn := g, ro := none, imps := [], X := XND P fn.results B Q, B := B, D := [] } n [.code body] (env0 0 args) []) : FunN P g args Q := by
  unfold FunN
  refine ⟨⟨fn, hf, hn, by rw [hb]; rfl⟩, fun w β H B vals cs hs hl hr => ?_⟩
  have hnt := Nat.le_of_ble_eq_true hnt
  have gg := evp_sound _ _ _ _ _ (h B)
  unfold Goes at gg
  let b : Frame := { fn := g, tmps := #[], todo := [], defers := [], mode := .run, kind := .normal }
  let a : Act := { tmps := vals ++ Array.replicate (fn.ntmps - vals.size) Go.undef, defers := [] }
  have henter : Frame.enter P g vals .normal = b.atR a [.code body] := by
    simp [Frame.enter, Frame.atR, hf, hb, b, a]
  have hasz : a.tmps.size = fn.ntmps := by simp [a]; omega
  have hrc : ∀ (j : Nat) (x : V) (v : Value), args[j]? = some x → vals[j]? = some v → Rep w β H (x.conv []) v := fun j x v hj hv => by
    rw [conv_of_rep [] x (hr j x v hj hv)]
    exact hr j x v hj hv
  have hget : ∀ k, Rep w β H ((lk (env0 0 args) k).conv []) (a.tmps.getD k Go.undef) := by
    intro k
    rw [lk_env0]
    simp only [Nat.zero_le, if_true, Nat.sub_zero]
    cases hk : args[k]? with
    | none => exact .undef _
    | some x =>
      have hkl := lt_of_get hk
      have hkv : k < vals.size := by omega
      have e : a.tmps.getD k Go.undef = vals[k] := by
        simp only [a, Array.getD_eq_getD_getElem?]
        rw [Array.getElem?_append_left hkv]
        simp [hkv]
      rw [e]
      exact hrc k x vals[k] hk (Array.getElem?_eq_getElem hkv)
  have hs0 : SRel [] fn.ntmps w β H [] ⟨env0 0 args, [], B, []⟩ a := by
    refine ⟨hs.hrel, hasz, hget, hs.mlen, hs.nodup, hs.loc, hs.imp, hs.base, hs.fut, hs.own, fun p hp => ?_, hs.scT, rfl, by simp⟩
    obtain ⟨k, hk, hx⟩ := List.mem_iff_getElem.1 (env0_mem 0 args p hp)
    have hkv : k < vals.size := by omega
    exact sc_of_rep (m := []) p.2 (hrc k p.2 vals[k] (by rw [List.getElem?_eq_getElem hk, hx]) (Array.getElem?_eq_getElem hkv))
  obtain ⟨e, s', w', β', H', m', a', hX, hs', hfr, hend⟩ := gg w β H [] a b cs hs0 rfl rfl rfl
  obtain ⟨E', T1, B', D'⟩ := s'
  obtain ⟨he, hD, hB, hres⟩ := hX
  simp only at hD hB hres
  have key : ∀ todo, Steps P (lone (Frame.enter P g vals .normal) cs w) (lone { b.atR a' todo with mode := .returning } cs w') →
      ∃ (x : V) (N : Base) (v : Value) (w' : World) (β' : Nat → Loc) (H' : Heap) (fr : Frame), Q x N ∧ (∀ q o, N q = some o → B q = none) ∧ SRel [] 0 w' β' H' [] ⟨[], [], B.add N, []⟩ bare ∧ Fr w β H w' β' H' ∧ Rep w' β' H' x v ∧ x.pureB = true ∧
      Steps P (lone (Frame.enter P g vals .normal) cs w) (lone fr cs w') ∧ fr.fn = g ∧ fr.leaving P w' (.returned v) := fun todo hst => by
    obtain ⟨w2, H2, a2, u1, u2, u3, u4, u5⟩ := unmark (P := P) D' b todo cs hs' (nodupB_iff _ hD)
    rcases resK_sound (c := { P := P, nt := fn.ntmps, fn := g, ro := none, imps := [], X := fun _ _ => True, B := B', D := [] }) _ _ _ _ hres with h | ⟨xs, hq, hx⟩
    · exact h.elim
    obtain ⟨vs, h1, h2, h3⟩ := hx w2 β' H2 m' a2 u1
    have hrun := run_results h1
    have hrep : Rep w2 β' H2 ((resV xs).conv m') (if h : vs.toArray.size = 1 then vs.toArray[0] else .tuple vs.toArray) := by
      by_cases h1 : vs.length = 1
      · rw [dif_pos (by simpa using h1)]
        match xs, h2, h3 with
        | [x], _, h3 => exact h3 0 x _ rfl (by simp [h1])
        | [], h2, _ => simp at h2; omega
        | _ :: _ :: _, h2, _ => simp at h2; omega
      · rw [dif_neg (by simpa using h1)]
        have e : resV xs = .tup xs := by
          match xs, h2 with
          | [x], h2 => simp at h2; omega
          | [], _ => rfl
          | _ :: _ :: _, _ => rfl
        rw [e]
        simp only [V.conv, V.convL_eq]
        refine .tup _ _ (by simp [h2]) fun j c v hj hv => ?_
        simp only [List.getElem?_map, Option.map_eq_some_iff] at hj
        obtain ⟨x, hj, rfl⟩ := hj
        exact h3 j x v hj (by simpa using hv)
    rcases frz_sound hq with hq | ⟨x', T2, hq, hfz⟩
    · exact hq.elim
    obtain ⟨H1, g1, g2, g3⟩ := hfz.2 _ _ _ _ _ _ _ _ _ _ u1.bare
    obtain ⟨m2, H3, e1, e2, e3⟩ := SRel.dropTo (T := []) T2 g1 (by simp) (by simp) (by simp) (by simp)
    have hm2 : m2 = [] := List.length_eq_zero_iff.1 e1.mlen
    subst hm2
    have hrep' := (g3 0 _ x' _ rfl rfl hrep).mono e2
    obtain ⟨hp0, y, hw, hyp, hq⟩ := hq
    have hrep' := hw _ _ _ _ hrep'
    rw [hB.eq_add] at e1
    exact ⟨y, newPart B B', _, w2, β', H3, { b.atR a2 todo with mode := .returning }, hq, fun q o h => (newPart_old h).1, e1, ((hfr.trans u4).trans g2).trans e2, hrep', hyp, hst.trans u5, rfl, rfl, u3, rfl, fn, hf, hrun⟩
  cases e with
  | normal => exact key [] (by rw [henter]; exact Steps.trans hend (.one (stepR_end rfl)))
  | ret =>
    obtain ⟨k, hend⟩ := hend
    exact key _ (by rw [henter]; exact Steps.trans hend (.one (stepR_ret rfl)))
  | exit id => exact he.elim
  | goto l => exact he.elim
  | panic ch => exact he.elim
  | outgrown => exact he.elim
end Bow
/- W142: invert.Make, seen to hand back rows of its own. -/
namespace Bow
open Go Go.Proofs

/-- A row of numbers under a name, or none at all. -/
def NRow (N : Base) (x : V) (xs : List V) : Prop := (xs = [] ∧ x = .sl 1 []) ∨ ∃ q g, x = .osl (.abs q) g 0 xs.length ∧ N q = some (.vec g 1 xs)
theorem NRow.ext {N N' : Base} {x : V} {xs : List V} (h : NRow N x xs) (e : Ext N N') : NRow N' x xs := h.imp id fun ⟨q, g, h1, h2⟩ => ⟨q, g, h1, e _ _ h2⟩
/-- An operation with rows of its own. -/
structure OpB (N : Base) (y : V) (o : OpT) : Prop where
  ex : ∃ xp xt xs, y = .agg [.int .u8 o.kind, xp, .int .i64 o.at_, xt, .int .u64 o.id, .bool o.leaf, .str o.label, .str o.key, .str o.value, .bool o.gone, xs] ∧ NRow N xp (o.path.map intV) ∧ NRow N xt (o.to.map intV) ∧ (xs = piecesV o.pieces ∨ ∃ q g, xs = .osl (.abs q) g 0 (o.pieces.map pieceV).length ∧ N q = some (.vec g 3 (o.pieces.map pieceV)))
theorem OpB.ext {N N' : Base} {y : V} {o : OpT} (h : OpB N y o) (e : Ext N N') : OpB N' y o := by
  obtain ⟨xp, xt, xs, h1, h2, h3, h4⟩ := h.ex
  exact ⟨xp, xt, xs, h1, h2.ext e, h3.ext e, h4.imp id fun ⟨q, g, a, b⟩ => ⟨q, g, a, e _ _ b⟩⟩
structure OpM (N : Base) (x : V) (o : OpT) : Prop where
  pure : x.pureB = true
  ex : ∃ y, WkL x.cells y.cells ∧ okE 11 y ∧ y.pureB = true ∧ OpB N y o
theorem OpM.ext {N N' : Base} {x : V} {o : OpT} (h : OpM N x o) (e : Ext N N') : OpM N' x o := by
  obtain ⟨y, h1, h2, h3, h4⟩ := h.ex
  exact ⟨h.pure, y, h1, h2, h3, h4.ext e⟩
def LM (N : Base) (zs : List (V × OpT)) : Prop := ∀ z ∈ zs, OpM N z.1 z.2
theorem LM.ext {N N' : Base} {zs : List (V × OpT)} (h : LM N zs) (e : Ext N N') : LM N' zs := fun z hz => (h z hz).ext e
theorem LM.nil (N : Base) : LM N [] := fun z hz => by cases hz
theorem LM.snoc {N : Base} {zs : List (V × OpT)} {x : V} {o : OpT} (h : LM N zs) (k : OpM N x o) : LM N (zs ++ [(x, o)]) := fun z hz => by
  rcases List.mem_append.1 hz with hz | hz
  · exact h z hz
  · rw [List.mem_singleton.1 hz]
    exact k
/-- What comes back of them. -/
def LB (N : Base) (zs : List (V × OpT)) : Prop := ∀ z ∈ zs, OpB N z.1 z.2
theorem LM.norm {N : Base} : ∀ {zs : List (V × OpT)}, LM N zs → ∃ us : List (V × OpT), us.map Prod.snd = zs.map Prod.snd ∧ WkE 11 (zs.map Prod.fst) (us.map Prod.fst) ∧ V.pureL (us.map Prod.fst) = true ∧ LB N us
  | [], _ => ⟨[], rfl, trivial, rfl, fun z hz => by cases hz⟩
  | z :: zs, h => by
    obtain ⟨us, h1, h2, h3, h4⟩ := LM.norm (zs := zs) fun z hz => h z (by simp [hz])
    obtain ⟨y, k1, k2, k3, k4⟩ := (h z (by simp)).ex
    refine ⟨(y, z.2) :: us, by simp [h1], ⟨⟨k1, k2⟩, h2⟩, by rw [List.map_cons, V.pureL, k3, h3]; rfl, fun u hu => ?_⟩
    rcases List.mem_cons.1 hu with rfl | hu
    · exact k4
    · exact h4 u hu

/-! ### The path of the parent, and clones, in memory of their own -/
theorem w_CloneIntF (xs : List V) (hl : xs.length ≤ 1000000) : Fun Tryz.prog 56 [] [.sl 1 xs] (fun x T' => ∃ g0, x = .osl (.loc 0) g0 0 xs.length ∧ T' = [some (.vec g0 1 xs)]) := by
  refine fun_fn 100 Tryz.func56 rfl rfl rfl fun imps B hi => ?_
  have : imps = [] := List.length_eq_zero_iff.1 hi
  subst this
  show Goes _ _ _ _
  refine goes_nileq 100 rfl rfl rfl rfl rfl rfl fun b hb => ?_
  refine ⟨fun g => go 3 ?_, fun g => go 100 ?_⟩
  · refine goes_own 2 1 rfl ?_
    refine go 100 ?_
    rw [hb g]
    exact ⟨trivial, rfl, rfl, 0, rfl, rfl⟩
  · refine ⟨trivial, rfl, rfl, Nat.le_trans (Nat.mul_le_mul_right _ (show _ ≤ 1000000 by simpa using hl)) (by decide), ?_⟩
    refine ⟨trivial, rfl, rfl, 2, ?_, rfl⟩
    simp [resV, bump]
set_option maxRecDepth 100000 in
theorem w_ParentF (p : List Int) (hp : p.length ≤ 1000000) (hne : p ≠ []) : Fun Tryz.prog 55 [] [pathV p] (fun x T' => ∃ g0, x = .tup [.osl (.loc 0) g0 0 (p.dropLast.map intV).length, intV (p.getLast hne), .tt] ∧ T' = [some (.vec g0 1 (p.dropLast.map intV))]) := by
  have hpos : 0 < p.length := List.length_pos_iff.2 hne
  refine fun_fn 100 Tryz.func55 rfl rfl rfl fun imps B hi => ?_
  have : imps = [] := List.length_eq_zero_iff.1 hi
  subst this
  refine ⟨fun g1 => go 100 ?_, fun g1 => go 100 ?_⟩
  · have := eq_of g1
    simp at this
    exact absurd this hne
  refine ⟨by constructor <;> simp <;> omega, ?_⟩
  show Goes _ _ _ _
  have e : ((((p.map intV).drop (Int.toNat 0)).take ((((p.map intV).length : Int) - 1).toNat - Int.toNat 0))) = (p.dropLast.map intV) := by
    rw [List.dropLast_eq_take, List.map_take]
    show ((p.map intV).drop 0).take _ = _
    rw [List.drop_zero]
    congr 1
    simp
  have hx : (p.map intV)[(((p.map intV).length : Int) - 1).toNat]? = some (intV (p.getLast hne)) := by
    rw [List.getElem?_map, List.getLast_eq_getElem]
    have : (((p.map intV).length : Int) - 1).toNat = p.length - 1 := by simp
    rw [this, List.getElem?_eq_getElem (by omega)]
    rfl
  have h := w_CloneIntF (p.dropLast.map intV) (by rw [List.length_map, List.length_dropLast]; omega)
  have hap : V.apart [] (.sl 1 (p.dropLast.map intV)) = true := by
    simp only [V.apart, apart_int]
    rfl
  rw [← e] at h hap
  refine goes_drawX [(3, true)] 100 ⟨by decide, by simp; omega, by omega, ?_⟩
  refine ⟨[0], .osl (.loc 0) 2 0 (p.dropLast.map intV).length, _, fun gs hg => by rw [← e]; exact fact_lendMake 0 [] hg rfl rfl rfl rfl h (fun T' _ => ⟨.wk rfl (.refl _) hap, trivial⟩) rfl (by rw [e]; exact apart_int _), ⟨rfl, Nat.le_of_ble_eq_true rfl⟩, ?_⟩
  refine ⟨by simp only [List.length_map]; omega, _, hx, ?_⟩
  refine ⟨by kernel_rfl, ?_⟩
  exact ⟨trivial, rfl, rfl, 2, rfl, congrArg (fun z => [some (HObj.vec 2 1 z)]) e⟩
theorem w_ParentN (p : List Int) (hp : p.length ≤ 1000000) (hne : p ≠ []) : FunN Tryz.prog 55 [pathV p] (fun x N => ∃ q g, x = .tup [.osl (.abs q) g 0 (p.dropLast.map intV).length, intV (p.getLast hne), .tt] ∧ N q = some (.vec g 1 (p.dropLast.map intV))) := by
  refine (funN_of_fun (w_ParentF p hp hne) rfl fun x T' h => ?_).mono fun x N => ?_
  · obtain ⟨g0, _, rfl⟩ := h
    rfl
  rintro ⟨x', T', m', ⟨g0, rfl, rfl⟩, rfl, hl, _, hN⟩
  obtain ⟨q, k1⟩ : ∃ q, m'[0]? = some q := ⟨_, List.getElem?_eq_getElem (by rw [hl]; exact Nat.one_pos)⟩
  refine ⟨q, g0, ?_, hN 0 q _ k1 rfl⟩
  simp only [V.conv, V.convL, Ref.conv, k1]
  rfl

/-! ### Make -/
def makT (t : Tree) (g : Nat) (cells : List V) : Heap := [some (.box (nodeV t).cells), some (.box [.osl (.loc 2) g 0 cells.length]), some (.vec g 11 cells)]
def MkR (ops : Nat → List OpT) (t : Tree) (i : Nat) (T : Heap) (B : Base) : Prop := ∃ (g : Nat) (zs : List (V × OpT)), zs.map Prod.snd = ops i ∧ LM B zs ∧ T = makT t g (zs.map Prod.fst)
theorem three_of : ∀ {qs : List Nat}, qs.length = 3 → ∃ a b d, qs = [a, b, d]
  | [a, b, d], _ => ⟨a, b, d, rfl⟩
theorem four_of : ∀ {qs : List Nat}, qs.length = 4 → ∃ a b d e, qs = [a, b, d, e]
  | [a, b, d, e], _ => ⟨a, b, d, e, rfl⟩
set_option maxHeartbeats 4000000 in
set_option maxRecDepth 100000 in
theorem w_MakeN (p : List Int) (at_ : Int) (t : Tree) (hw : p.length + 1 + t.weight ≤ 100000) : FunN Tryz.prog 27 [pathV p, intV at_, nodeV t] (fun x N => ∃ zs, zs.map Prod.snd = makeL p at_ t ∧ x = .sl 11 (zs.map Prod.fst) ∧ LB N zs) := by
  have hsz := size_le_weight t
  have hit := w_nodes1 t (p ++ [at_]) (by rw [List.length_append]; simp; omega)
  refine funN_of_goesD 60 Tryz.func27 rfl rfl rfl fun B => ?_
  show Goes _ _ _ _
  refine goes_ownCell 1 0 11 rfl rfl ?_
  refine go 60 ?_
  show Goes _ _ _ _
  refine goes_drawX [] 60 ?_
  refine ⟨_, w_Child p at_ (by omega), rfl, ?_⟩
  refine ⟨_, w_inodes (p ++ [at_]) t, rfl, ?_⟩
  refine ⟨by kernel_rfl, ?_⟩
  show Goes _ (.code (.rangeFunc _ _ _ _) :: _) _ _
  refine goes_forget [(19, .fn (.func 77) [] [.iptr [pathV (p ++ [at_])] 0, .iptr (nodeV t).cells 0]), (7, .ptr (.loc 1) 0), (5, .ptr (.loc 0) 0)] ⟨⟨rfl, rfl⟩, ⟨rfl, rfl⟩, ⟨rfl, rfl⟩, trivial⟩ ?_
  refine goes_rangeO (ys := (t.withP (p ++ [at_])).map withV) (R := MkR (fun i => ((t.withP (p ++ [at_])).take i).flatMap mkOps) t) (Bo := fun _ => none) 0 3 ⟨_, Tryz.func77, rfl, rfl⟩ rfl rfl rfl rfl rfl
    (fun y hy => by obtain ⟨a, _, rfl⟩ := List.mem_map.1 hy; rfl) rfl (fun y hy => by obtain ⟨a, _, rfl⟩ := List.mem_map.1 hy; rfl) (fun n hn => by obtain ⟨n, rfl⟩ : ∃ k, n = k + 5 := ⟨n - 5, by omega⟩; rfl) (fun q o h => by cases h) ⟨0, [], rfl, LM.nil _, rfl⟩ (fun j T B h => by obtain ⟨g, zs, _, _, rfl⟩ := h; exact ⟨rfl, rfl, fun k hk => by cases hk⟩) hit ?_ ?_
  · intro j hj mw r1 l pre Bo BF2 lr lb hR hmw hr1 hext2 hon hbeg hlb
    obtain ⟨g, zs, hz1, hz2, rfl⟩ := hR
    have hj' : j < (t.withP (p ++ [at_])).length := by rwa [List.length_map] at hj
    obtain ⟨⟨q, y⟩, hqy⟩ : ∃ z, (t.withP (p ++ [at_]))[j] = z := ⟨_, rfl⟩
    have hget : (t.withP (p ++ [at_]))[j]? = some (q, y) := by rw [List.getElem?_eq_getElem hj', hqy]
    obtain ⟨b1, b2, b3⟩ := withP_mem (List.mem_of_getElem? hget)
    rw [List.length_append] at b1 b2
    simp only [List.length_cons, List.length_nil] at b1 b2
    have hq : q ≠ [] := fun e => by rw [e] at b1; simp at b1
    have htake := flat_take (f := mkOps) hget
    rw [List.getElem_map, hqy]
    show Goes _ _ _ _
    refine go 60 ?_
    show Goes _ (.beginRound :: _) _ _
    refine hbeg _ _ _ _ rfl hr1 rfl ?_
    refine go 60 ?_
    show CallThen _ _ _ _ _ _
    refine call_funN (w_ParentN q (by omega) hq) rfl ?_
    rintro x N ⟨qp, gp, rfl, hxp⟩ _ hN
    have hzl : zs.length ≤ 300000 := by
      have h1 := congrArg List.length hz1
      have h2 := flat_take_le (f := mkOps) (t.withP (p ++ [at_])) j
      have h3 := mak_len (p ++ [at_]) t
      rw [List.length_map] at h1
      simp only at h1
      omega
    have hins : OpM (Bo.add N) (.agg [.int .u8 1, .osl (.abs qp) gp 0 (q.dropLast.map intV).length, intV (q.getLast hq), .nilsl, .int .u64 y.id, .bool y.leaf, .str y.label, .str [], .str [], .ff, .nilsl]) (kInsO (q, y)) := by
      refine ⟨rfl, .agg [.int .u8 1, .osl (.abs qp) gp 0 (q.dropLast.map intV).length, intV (q.getLast hq), .sl 1 [], .int .u64 y.id, .bool y.leaf, .str y.label, .str [], .str [], .bool false, .sl 3 []], ⟨.refl _, .refl _, .refl _, Wk.nil 1, .refl _, .refl _, .refl _, .refl _, .refl _, Wk.ff, Wk.nil 3, trivial⟩, ⟨rfl, rfl⟩, rfl, ⟨_, _, _, ?_, .inr ⟨qp, gp, rfl, add_new hxp ?_⟩, .inl ⟨rfl, rfl⟩, .inl rfl⟩⟩
      · unfold kInsO
        simp only [List.getLast?_eq_some_getLast hq, Option.getD_some]
        rfl
      · cases hb : Bo qp with
        | none => rfl
        | some ob =>
          have := hN qp _ hxp
          simp only at this
          rw [hext2 qp ob hb] at this
          cases this
    have hP1 : Part Bo BF2 (Bo.add N) (BF2.add N) := Part.add hext2 hN
    refine ⟨⟨rfl, trivial⟩, rfl, rfl, rfl, rfl, Nat.le_trans (Nat.mul_le_mul_right _ (show _ ≤ 1000001 by rw [List.length_map]; simp only [List.length_cons, List.length_nil]; omega)) (by decide), ?_⟩
    show Goes { P := Tryz.prog, nt := Tryz.f27.ntmps, fn := 27, ro := some (r1, l), imps := mw, X := OSX 3 lb (MkR (fun i => ((t.withP (p ++ [at_])).take i).flatMap mkOps) t (j + 1)) Bo BF2, B := BF2.add N, D := [] } _ _ _
    have hal := attrs_le_weight y
    refine goes_iterB (ι := Nat × Nat × List (V × OpT)) (fun i B' => i.1 ≤ y.attrs.length ∧ i.2.2.map Prod.snd = ((t.withP (p ++ [at_])).take j).flatMap mkOps ++ kInsO (q, y) :: (y.attrs.take i.1).map (kAttO q) ∧ ∃ Bn, LM Bn i.2.2 ∧ Part Bo BF2 Bn B') (fun i => y.attrs.length - i.1)
      (fun i => [(43, .int .i64 i.1), (42, .int .i64 (y.attrs.map attrV).length), (41, .sl 2 (y.attrs.map attrV)), (9, .ptr (.loc 5) 0), (8, pathV q), (7, .ptr (.loc 1) 0)]) (fun i => makT t i.2.1 (i.2.2.map Prod.fst) ++ [some .dfr, some lb, some (.box (nodeV y).cells)]) (0, bump g, zs ++ [(_, kInsO (q, y))]) 60 (fun _ => rfl) (fun i => by simp only [makT, hmw]; rfl)
      ⟨⟨Nat.zero_le _, by simp only [List.map_append, hz1]; rfl, _, (hz2.ext (Ext.add _ _)).snoc hins, hP1⟩, ⟨⟨rfl, rfl⟩, ⟨rfl, rfl⟩, ⟨rfl, rfl⟩, ⟨rfl, rfl⟩, ⟨rfl, rfl⟩, ⟨rfl, rfl⟩, trivial⟩, ⟨⟨rfl, rfl⟩, ⟨?_, rfl⟩, ⟨?_, rfl⟩, ⟨rfl, rfl⟩, ⟨rfl, hlb _ (by simp [makT])⟩, ⟨rfl, rfl⟩, trivial⟩⟩ ?_
    · exact congrArg (fun n => some (HObj.box [.osl (.loc 2) (bump g) 0 n])) (by simp)
    · exact congrArg (fun z => some (HObj.vec (bump g) 11 z)) (by rw [List.map_append]; rfl)
    rintro ⟨i, g2, zs2⟩ Bc ⟨hi0, hz3, Bn, hLM, hPn⟩ next
    have hz3 : zs2.map Prod.snd = ((t.withP (p ++ [at_])).take j).flatMap mkOps ++ kInsO (q, y) :: (y.attrs.take i).map (kAttO q) := hz3
    have hzl2 : zs2.length ≤ 600000 := by
      have h1 := congrArg List.length hz3
      have h2 := flat_take_le (f := mkOps) (t.withP (p ++ [at_])) j
      have h3 := mak_len (p ++ [at_]) t
      rw [List.length_map, List.length_append, List.length_cons, List.length_map, List.length_take] at h1
      omega
    refine ⟨fun hlt => go 12 ?_, fun hge => go 60 ?_⟩
    · have hia : i < y.attrs.length := by simpa using hlt
      have hx : (y.attrs.map attrV)[((i : Nat) : Int).toNat]? = some (attrV y.attrs[i]) := by simp [hia]
      refine ⟨Int.natCast_nonneg i, _, hx, ?_⟩
      have htk : y.attrs.take (i + 1) = y.attrs.take i ++ [y.attrs[i]] := List.take_succ_eq_append_getElem hia
      generalize y.attrs[i] = a at hx htk
      refine go 60 ?_
      show Goes _ (.code (.region _ _ true) :: _) _ _
      refine goes_drawXN [(2, true)] 60 7 rfl (by rw [hmw]; decide) fun mm qs hmm hnd hqs hqB => ?_
      obtain ⟨q0, q1, q2, rfl⟩ := three_of hqs
      have hq7 : (mm ++ [q0, q1, q2])[7]? = some q0 := by rw [List.getElem?_append_right (by omega), hmm]; rfl
      have hap : V.apartL [] (q.map intV) = true := apart_int q
      refine ⟨[7], .osl (.abs q0) 2 0 (q.map intV).length, _, fun gs hg => Fact.named (fact_lendMake 0 [] hg rfl rfl rfl rfl (w_CloneIntF (q.map intV) (by rw [List.length_map]; omega)) (fun T' _ => ⟨.wk rfl (.refl _) (by simp only [V.apart, hap]; rfl), trivial⟩) rfl (apart_int q)) hq7, ⟨rfl, Nat.le_of_ble_eq_true rfl⟩, ?_⟩
      refine ⟨rfl, ?_⟩
      refine ⟨⟨rfl, trivial⟩, rfl, ?_⟩
      refine ⟨rfl, rfl, rfl, rfl, Nat.le_trans (Nat.mul_le_mul_right _ (show _ ≤ 1000001 by rw [List.length_map]; simp only [List.length_cons, List.length_nil]; omega)) (by decide), ?_⟩
      refine ⟨by kernel_rfl, ?_⟩
      refine ⟨[(43, .int .i64 i), (42, .int .i64 (y.attrs.map attrV).length), (41, .sl 2 (y.attrs.map attrV)), (9, .ptr (.loc 5) 0), (8, pathV q), (7, .ptr (.loc 1) 0)], makT t (bump g2) (zs2.map Prod.fst ++ [.agg [.int .u8 4, .osl (.abs q0) 2 0 (q.map intV).length, .int .i64 0, .nilsl, .int .u64 0, .ff, .str [], .str a.1, .str a.2, .ff, .nilsl]]) ++ [some .dfr, some lb, some (.box (nodeV y).cells), some (.box (attrV a).cells)], [.vec 2 1 (q.map intV), .vec 2 11 [.agg [.int .u8 4, .osl (.abs q0) 2 0 (q.map intV).length, .int .i64 0, .nilsl, .int .u64 0, .ff, .str [], .str a.1, .str a.2, .ff, .nilsl]], .vec 0 0 []], ⟨⟨rfl, rfl⟩, ⟨rfl, rfl⟩, ⟨rfl, rfl⟩, ⟨rfl, rfl⟩, ⟨rfl, rfl⟩, ⟨rfl, rfl⟩, trivial⟩, ?_, rfl, rfl, ⟨rfl, fun _ => rfl, rfl, fun _ => rfl, rfl, fun _ => rfl, trivial⟩, ?_⟩
      · refine ⟨⟨rfl, rfl⟩, ⟨?_, rfl⟩, ⟨rfl, rfl⟩, ⟨rfl, rfl⟩, ⟨rfl, hlb _ (by decide)⟩, ⟨rfl, rfl⟩, ⟨rfl, rfl⟩, trivial⟩
        exact congrArg (fun n => some (HObj.box [.osl (.loc 2) (bump g2) 0 n])) (by simp)
      refine ⟨by constructor <;> omega, ?_⟩
      have hN1 := fun r o e => hqB r (newN_mem (qs := [q0, q1, q2]) (os := [.vec 2 1 (q.map intV), .vec 2 11 [.agg [.int .u8 4, .osl (.abs q0) 2 0 (q.map intV).length, .int .i64 0, .nilsl, .int .u64 0, .ff, .str [], .str a.1, .str a.2, .ff, .nilsl]], .vec 0 0 []]) (q := r) (o := o) e)
      have hnq : newN [q0, q1, q2] [.vec 2 1 (q.map intV), .vec 2 11 [.agg [.int .u8 4, .osl (.abs q0) 2 0 (q.map intV).length, .int .i64 0, .nilsl, .int .u64 0, .ff, .str [], .str a.1, .str a.2, .ff, .nilsl]], .vec 0 0 []] q0 = some (.vec 2 1 (q.map intV)) := if_pos rfl
      generalize newN [q0, q1, q2] [.vec 2 1 (q.map intV), .vec 2 11 [.agg [.int .u8 4, .osl (.abs q0) 2 0 (q.map intV).length, .int .i64 0, .nilsl, .int .u64 0, .ff, .str [], .str a.1, .str a.2, .ff, .nilsl]], .vec 0 0 []] = N1 at hnq hN1
      have hatt : OpM (Bn.add N1) (.agg [.int .u8 4, .osl (.abs q0) 2 0 (q.map intV).length, .int .i64 0, .nilsl, .int .u64 0, .ff, .str [], .str a.1, .str a.2, .ff, .nilsl]) (kAttO q a) := by
        refine ⟨rfl, .agg [.int .u8 4, .osl (.abs q0) 2 0 (q.map intV).length, .int .i64 0, .sl 1 [], .int .u64 0, .bool false, .str [], .str a.1, .str a.2, .bool false, .sl 3 []], ⟨.refl _, .refl _, .refl _, Wk.nil 1, .refl _, Wk.ff, .refl _, .refl _, .refl _, Wk.ff, Wk.nil 3, trivial⟩, ⟨rfl, rfl⟩, rfl, ⟨_, _, _, rfl, .inr ⟨q0, 2, rfl, add_new hnq ?_⟩, .inl ⟨rfl, rfl⟩, .inl rfl⟩⟩
        cases hb : Bn q0 with
        | none => rfl
        | some ob =>
          have h1 : Bc q0 = none := hN1 q0 _ hnq
          rw [show Bc q0 = some ob from hPn.ext q0 ob hb] at h1
          cases h1
      refine next (i + 1, bump g2, zs2 ++ [(_, kAttO q a)]) _ _ _ ⟨⟨hia, ?_, _, (hLM.ext (Ext.add _ _)).snoc hatt, hPn.trans (Part.add hPn.ext hN1)⟩, by simp only; omega, ⟨⟨rfl, rfl⟩, ⟨rfl, rfl⟩, ⟨rfl, rfl⟩, ⟨rfl, rfl⟩, ⟨rfl, rfl⟩, ⟨rfl, rfl⟩, trivial⟩, ⟨⟨rfl, rfl⟩, ⟨?_, rfl⟩, ⟨?_, rfl⟩, ⟨rfl, rfl⟩, ⟨rfl, hlb _ (by simp [makT])⟩, ⟨rfl, rfl⟩, trivial⟩⟩
      · simp only [List.map_append, hz3, htk]
        simp
      · exact congrArg (fun n => some (HObj.box [.osl (.loc 2) (bump g2) 0 n])) (by simp)
      · exact congrArg (fun z => some (HObj.vec (bump g2) 11 z)) (by rw [List.map_append]; rfl)
    · have hie : y.attrs.take i = y.attrs := List.take_of_length_le (by simpa using hge)
      rw [hie] at hz3
      refine ⟨fun ht => ?_, fun ht => ?_⟩
      · have htx : y.text ≠ [] := fun e => by rw [e] at ht; simp at ht
        refine go 60 ?_
        show Goes _ (.code (.region _ _ true) :: _) _ _
        refine goes_drawXN [(2, true), (6, true)] 60 6 rfl (by rw [hmw]; decide) fun mm qs hmm hnd hqs hqB => ?_
        obtain ⟨q0, q1, q2, q3, rfl⟩ := four_of hqs
        have hq6 : (mm ++ [q0, q1, q2, q3])[6]? = some q0 := by rw [List.getElem?_append_right (by omega), hmm]; rfl
        have hq7 : (mm ++ [q0, q1, q2, q3])[7]? = some q1 := by rw [List.getElem?_append_right (by omega), hmm]; rfl
        have hap : V.apartL [] (q.map intV) = true := apart_int q
        refine ⟨[6], .osl (.abs q0) 2 0 (q.map intV).length, _, fun gs hg => Fact.named (fact_lendMake 0 [] hg rfl rfl rfl rfl (w_CloneIntF (q.map intV) (by rw [List.length_map]; omega)) (fun T' _ => ⟨.wk rfl (.refl _) (by simp only [V.apart, hap]; rfl), trivial⟩) rfl (apart_int q)) hq6, ⟨rfl, Nat.le_of_ble_eq_true rfl⟩, ?_⟩
        refine ⟨[7], .osl (.abs q1) 2 0 1, _, fun gs hg => fact_mkN rfl hg hq7 ⟨rfl, ⟨rfl, trivial⟩, rfl, rfl, rfl, rfl, rfl⟩, ⟨rfl, Nat.le_of_ble_eq_true rfl⟩, ?_⟩
        refine ⟨rfl, ⟨rfl, trivial⟩, rfl, rfl, rfl, rfl, rfl, Nat.le_trans (Nat.mul_le_mul_right _ (show _ ≤ 1000001 by rw [List.length_map]; simp only [List.length_cons, List.length_nil]; omega)) (by decide), ?_⟩
        refine ⟨by kernel_rfl, ?_⟩
        refine ⟨[], makT t (bump g2) (zs2.map Prod.fst ++ [.agg [.int .u8 6, .osl (.abs q0) 2 0 (q.map intV).length, .int .i64 0, .nilsl, .int .u64 0, .ff, .str [], .str [], .str [], .ff, .osl (.abs q1) 2 0 1]]) ++ [some .dfr, some lb, some (.box (nodeV y).cells)], [.vec 2 1 (q.map intV), .vec 2 3 [pieceV ⟨0, 0, y.text⟩], .vec 2 11 [.agg [.int .u8 6, .osl (.abs q0) 2 0 (q.map intV).length, .int .i64 0, .nilsl, .int .u64 0, .ff, .str [], .str [], .str [], .ff, .osl (.abs q1) 2 0 1]], .vec 0 0 []], trivial, ?_, rfl, rfl, ⟨rfl, fun _ => rfl, rfl, fun _ => rfl, rfl, fun _ => rfl, rfl, fun _ => rfl, trivial⟩, ?_⟩
        · refine ⟨⟨rfl, rfl⟩, ⟨?_, rfl⟩, ⟨rfl, rfl⟩, ⟨rfl, rfl⟩, ⟨rfl, hlb _ (by decide)⟩, ⟨rfl, rfl⟩, trivial⟩
          exact congrArg (fun n => some (HObj.box [.osl (.loc 2) (bump g2) 0 n])) (by simp)
        have hN1 := fun r o e => hqB r (newN_mem (qs := [q0, q1, q2, q3]) (os := [.vec 2 1 (q.map intV), .vec 2 3 [pieceV ⟨0, 0, y.text⟩], .vec 2 11 [.agg [.int .u8 6, .osl (.abs q0) 2 0 (q.map intV).length, .int .i64 0, .nilsl, .int .u64 0, .ff, .str [], .str [], .str [], .ff, .osl (.abs q1) 2 0 1]], .vec 0 0 []]) (q := r) (o := o) e)
        have hnq : newN [q0, q1, q2, q3] [.vec 2 1 (q.map intV), .vec 2 3 [pieceV ⟨0, 0, y.text⟩], .vec 2 11 [.agg [.int .u8 6, .osl (.abs q0) 2 0 (q.map intV).length, .int .i64 0, .nilsl, .int .u64 0, .ff, .str [], .str [], .str [], .ff, .osl (.abs q1) 2 0 1]], .vec 0 0 []] q0 = some (.vec 2 1 (q.map intV)) := if_pos rfl
        have hne : q1 ≠ q0 := fun e => by
          have := (List.nodup_append.1 hnd).2.1
          simp [e] at this
        have hnq1 : newN [q0, q1, q2, q3] [.vec 2 1 (q.map intV), .vec 2 3 [pieceV ⟨0, 0, y.text⟩], .vec 2 11 [.agg [.int .u8 6, .osl (.abs q0) 2 0 (q.map intV).length, .int .i64 0, .nilsl, .int .u64 0, .ff, .str [], .str [], .str [], .ff, .osl (.abs q1) 2 0 1]], .vec 0 0 []] q1 = some (.vec 2 3 [pieceV ⟨0, 0, y.text⟩]) := (if_neg hne).trans (if_pos rfl)
        generalize newN [q0, q1, q2, q3] [.vec 2 1 (q.map intV), .vec 2 3 [pieceV ⟨0, 0, y.text⟩], .vec 2 11 [.agg [.int .u8 6, .osl (.abs q0) 2 0 (q.map intV).length, .int .i64 0, .nilsl, .int .u64 0, .ff, .str [], .str [], .str [], .ff, .osl (.abs q1) 2 0 1]], .vec 0 0 []] = N1 at hnq hnq1 hN1
        have hb0 : ∀ r o, N1 r = some o → Bn r = none := fun r o e => by
          cases hb : Bn r with
          | none => rfl
          | some ob =>
            have h1 : Bc r = none := hN1 r _ e
            rw [show Bc r = some ob from hPn.ext r ob hb] at h1
            cases h1
        have htxo : OpM (Bn.add N1) (.agg [.int .u8 6, .osl (.abs q0) 2 0 (q.map intV).length, .int .i64 0, .nilsl, .int .u64 0, .ff, .str [], .str [], .str [], .ff, .osl (.abs q1) 2 0 1]) (kTxtO q y.text) :=
          ⟨rfl, .agg [.int .u8 6, .osl (.abs q0) 2 0 (q.map intV).length, .int .i64 0, .sl 1 [], .int .u64 0, .bool false, .str [], .str [], .str [], .bool false, .osl (.abs q1) 2 0 1], ⟨.refl _, .refl _, .refl _, Wk.nil 1, .refl _, Wk.ff, .refl _, .refl _, .refl _, Wk.ff, .refl _, trivial⟩, ⟨rfl, rfl⟩, rfl, ⟨_, _, _, rfl, .inr ⟨q0, 2, rfl, add_new hnq (hb0 _ _ hnq)⟩, .inl ⟨rfl, rfl⟩, .inr ⟨q1, 2, rfl, add_new hnq1 (hb0 _ _ hnq1)⟩⟩⟩
        refine ⟨rfl, rfl, makT t (bump g2) (zs2.map Prod.fst ++ [.agg [.int .u8 6, .osl (.abs q0) 2 0 (q.map intV).length, .int .i64 0, .nilsl, .int .u64 0, .ff, .str [], .str [], .str [], .ff, .osl (.abs q1) 2 0 1]]), Bn.add N1, rfl, ?_, ⟨bump g2, zs2 ++ [(_, kTxtO q y.text)], ?_, (hLM.ext (Ext.add _ _)).snoc htxo, by rw [List.map_append]; rfl⟩, hPn.trans (Part.add hPn.ext hN1)⟩
        · exact ⟨⟨rfl, rfl⟩, ⟨rfl, rfl⟩, ⟨rfl, rfl⟩, ⟨rfl, rfl⟩, ⟨rfl, hlb _ (by decide)⟩, trivial⟩
        · simp only [List.map_append, hz3, htake, mkOps, decide_eq_false htx, cond_false]
          simp
      · have htx : y.text = [] := by simpa using ht
        refine go 60 ?_
        refine ⟨rfl, rfl, makT t g2 (zs2.map Prod.fst), Bn, rfl, ?_, ⟨g2, zs2, ?_, hLM, rfl⟩, hPn⟩
        · exact ⟨⟨rfl, rfl⟩, ⟨rfl, rfl⟩, ⟨rfl, rfl⟩, ⟨rfl, rfl⟩, ⟨rfl, hlb _ (by decide)⟩, trivial⟩
        · simp only [hz3, htake, mkOps, htx, decide_true, cond_true]
          simp
  · intro pre' Bo' B1 le hR hP
    obtain ⟨g, zs, hz1, hz2, rfl⟩ := hR
    have hz1 : zs.map Prod.snd = makeL p at_ t := by
      rw [hz1]
      simp only
      rw [List.length_map, List.take_length]
      rfl
    obtain ⟨us, hu1, hu2, hu3, hu4⟩ := hz2.norm
    show Goes _ _ _ _
    refine go 60 ?_
    refine ⟨trivial, rfl, fun q o h => (hP.keep q o h rfl).1, ?_⟩
    have hext : Ext Bo' (newPart B B1) := fun q o e => newPart_get (hP.ext q o e) (by
      cases hb : B q with
      | none => rfl
      | some ob =>
        have := (hP.keep q ob hb rfl).2
        rw [e] at this
        cases this)
    refine ⟨rfl, rfl, ?_⟩
    exact ⟨rfl, .sl 11 (us.map Prod.fst), Wk.sl hu2, rfl, us, hu1.trans hz1, rfl, fun u hu => (hu4 u hu).ext hext⟩
end Bow
/- SP83: what undoes an operation, in plain Lean. -/
namespace Bow
open Go

def incAt (l : List Int) (k : Nat) (d : Int) : List Int := l.set k ((l[k]?.getD 0) + d)
theorem incAt_len (l : List Int) (k : Nat) (d : Int) : (incAt l k d).length = l.length := by simp [incAt]
structure BackS where
  here : Bool
  at1 : Int
  to1 : List Int
  q1 : List Int
  d1 : Int
/-- A move of a node of q's gap d to the gap at of to. -/
def backS (q to : List Int) (d at_ : Int) : BackS :=
  let here := decide (q = to)
  let at1 := bif here && decide (d < at_) then at_ - 1 else at_
  let to1 := bif !here && within q to && decide (d < (to[q.length]?).getD 0) then incAt to q.length (-1) else to
  let q1 := bif !here && within to1 q && decide (at1 ≤ (q[to1.length]?).getD 0) then incAt q to1.length 1 else q
  let d1 := bif here && decide (at1 < d) then d + 1 else d
  ⟨here, at1, to1, q1, d1⟩
def backO (o : OpT) : OpT :=
  let s := backS o.path.dropLast o.to (o.path.getLast?.getD 0) o.at_
  { noOp 3 with path := s.to1 ++ [s.at1], to := s.q1, at_ := s.d1 }
end Bow
/- W146: the move back: invert.back. -/
namespace Bow
open Go Go.Proofs

def Mid (n : Int) : Prop := -1000000000 ≤ n ∧ n ≤ 1000000000
set_option pp.maxSteps 400 in
set_option maxRecDepth 100000 in
theorem w_back (o : OpT) (ho : o.Lt 1000000) (hne : o.path ≠ []) (hp : ∀ n ∈ o.path, Mid n) (ht : ∀ n ∈ o.to, Mid n) (ha : Mid o.at_) : Pure Tryz.prog 62 [opV o] (fun x => x = opV (backO o)) := by
  have hpl := ho.path
  have htl := ho.to
  obtain ⟨q, hq⟩ : ∃ q, o.path.dropLast = q := ⟨_, rfl⟩
  obtain ⟨d, hd⟩ : ∃ d, o.path.getLast hne = d := ⟨_, rfl⟩
  have hql : q.length ≤ 1000000 := by rw [← hq, List.length_dropLast]; omega
  have hqm : ∀ n ∈ q, Mid n := fun n hn => hp n (by rw [← hq] at hn; exact List.dropLast_subset _ hn)
  have hdm : Mid d := hp d (by rw [← hd]; exact List.getLast_mem hne)
  have hb : backO o = { noOp 3 with path := (backS q o.to d o.at_).to1 ++ [(backS q o.to d o.at_).at1], to := (backS q o.to d o.at_).q1, at_ := (backS q o.to d o.at_).d1 } := by
    unfold backO
    simp only [List.getLast?_eq_some_getLast hne, Option.getD_some, hq, hd]
  refine pure_wk (pure_fn 60 Tryz.func62 rfl rfl rfl fun B => ?_)
  rw [hb]
  show CallThen _ _ _ _ _ _
  refine call_sub [] (w_ParentF o.path hpl hne) rfl rfl trivial rfl rfl rfl ?_
  rw [hq, hd]
  rintro x T1 ⟨g0, rfl, rfl⟩
  refine ⟨rfl, ?_⟩
  show Goes _ (.code (.region _ _ true) :: _) _ _
  have hap : V.apartL [] (o.to.map intV) = true := apart_int _
  refine goes_drawX [(2, true)] 60 ?_
  refine ⟨[3], .osl (.loc 3) 2 0 (o.to.map intV).length, _, fun gs hg => fact_lendMake 0 [] hg rfl rfl rfl rfl (w_CloneIntF (o.to.map intV) (by rw [List.length_map]; exact htl)) (fun T' _ => ⟨.wk rfl (.refl _) (by simp only [V.apart, hap]; rfl), trivial⟩) rfl (apart_int _), ⟨rfl, Nat.le_of_ble_eq_true rfl⟩, ?_⟩
  refine ⟨by kernel_rfl, ?_⟩
  show CallThen _ _ _ _ _ _
  obtain ⟨to, hto⟩ : ∃ to, o.to = to := ⟨_, rfl⟩
  obtain ⟨at_, hat⟩ : ∃ a, o.at_ = a := ⟨_, rfl⟩
  rw [hto] at ht htl hap
  rw [hat] at ha
  simp only [hto, hat]
  obtain ⟨qm1, qm2⟩ := hdm
  obtain ⟨am1, am2⟩ := ha
  refine call_flat ?_
  refine ⟨rfl, by simp, rfl, by simp, _, w_pathSame q to hql, rfl, rfl, ?_⟩
  cases hh : decide (q = to) with
  | true =>
    refine ⟨fun g1 => go 60 ?_, fun g1 => go 60 ?_⟩
    rotate_left
    · cases g1
    refine ⟨fun g2 => go 60 ?_, fun g2 => go 60 ?_⟩
    · refine ⟨by constructor <;> omega, ?_⟩
      refine ⟨fun g3 => go 60 ?_, fun g3 => go 60 ?_⟩
      · cases g3
      refine ⟨fun g3 => go 60 ?_, fun g3 => go 60 ?_⟩
      rotate_left
      · cases g3
      refine ⟨fun g4 => go 60 ?_, fun g4 => go 60 ?_⟩
      · have hb : backS q to d at_ = ⟨true, at_ - 1, to, q, d + 1⟩ := by simp only [backS, hh, g2, g4, Bool.true_and, Bool.not_true, Bool.false_and, cond_true, cond_false]
        rw [hb]
        refine ⟨by constructor <;> omega, ?_⟩
        show CallThen _ _ _ _ _ _
        refine call_pure_frz ?_
        refine ⟨rfl, by simp [incAt_len], _, w_Child (to) (at_ - 1) (by first | exact htl | (simp only [incAt_len]; exact htl)), rfl, ?_⟩
        rintro x rfl
        refine ⟨trivial, rfl, rfl, rfl, by simp [incAt_len], ?_⟩
        exact ⟨rfl, opV { noOp 3 with path := (to) ++ [at_ - 1], to := q, at_ := d + 1 }, Wk.agg ⟨.refl _, .refl _, .refl _, .refl _, .refl _, Wk.ff, .refl _, .refl _, .refl _, Wk.ff, Wk.nil 3, trivial⟩, rfl, rfl⟩
      · have hb : backS q to d at_ = ⟨true, at_ - 1, to, q, d⟩ := by simp only [backS, hh, g2, g4, Bool.true_and, Bool.not_true, Bool.false_and, cond_true, cond_false]
        rw [hb]
        show CallThen _ _ _ _ _ _
        refine call_pure_frz ?_
        refine ⟨rfl, by simp [incAt_len], _, w_Child (to) (at_ - 1) (by first | exact htl | (simp only [incAt_len]; exact htl)), rfl, ?_⟩
        rintro x rfl
        refine ⟨trivial, rfl, rfl, rfl, by simp [incAt_len], ?_⟩
        exact ⟨rfl, opV { noOp 3 with path := (to) ++ [at_ - 1], to := q, at_ := d }, Wk.agg ⟨.refl _, .refl _, .refl _, .refl _, .refl _, Wk.ff, .refl _, .refl _, .refl _, Wk.ff, Wk.nil 3, trivial⟩, rfl, rfl⟩
    · refine ⟨fun g3 => go 60 ?_, fun g3 => go 60 ?_⟩
      · cases g3
      refine ⟨fun g3 => go 60 ?_, fun g3 => go 60 ?_⟩
      · cases g3
      refine ⟨fun g3 => go 60 ?_, fun g3 => go 60 ?_⟩
      rotate_left
      · cases g3
      refine ⟨fun g4 => go 60 ?_, fun g4 => go 60 ?_⟩
      · have hb : backS q to d at_ = ⟨true, at_, to, q, d + 1⟩ := by simp only [backS, hh, g2, g4, Bool.true_and, Bool.not_true, Bool.false_and, cond_true, cond_false]
        rw [hb]
        refine ⟨by constructor <;> omega, ?_⟩
        show CallThen _ _ _ _ _ _
        refine call_pure_frz ?_
        refine ⟨rfl, by simp [incAt_len], _, w_Child (to) (at_) (by first | exact htl | (simp only [incAt_len]; exact htl)), rfl, ?_⟩
        rintro x rfl
        refine ⟨trivial, rfl, rfl, rfl, by simp [incAt_len], ?_⟩
        exact ⟨rfl, opV { noOp 3 with path := (to) ++ [at_], to := q, at_ := d + 1 }, Wk.agg ⟨.refl _, .refl _, .refl _, .refl _, .refl _, Wk.ff, .refl _, .refl _, .refl _, Wk.ff, Wk.nil 3, trivial⟩, rfl, rfl⟩
      · have hb : backS q to d at_ = ⟨true, at_, to, q, d⟩ := by simp only [backS, hh, g2, g4, Bool.true_and, Bool.not_true, Bool.false_and, cond_true, cond_false]
        rw [hb]
        show CallThen _ _ _ _ _ _
        refine call_pure_frz ?_
        refine ⟨rfl, by simp [incAt_len], _, w_Child (to) (at_) (by first | exact htl | (simp only [incAt_len]; exact htl)), rfl, ?_⟩
        rintro x rfl
        refine ⟨trivial, rfl, rfl, rfl, by simp [incAt_len], ?_⟩
        exact ⟨rfl, opV { noOp 3 with path := (to) ++ [at_], to := q, at_ := d }, Wk.agg ⟨.refl _, .refl _, .refl _, .refl _, .refl _, Wk.ff, .refl _, .refl _, .refl _, Wk.ff, Wk.nil 3, trivial⟩, rfl, rfl⟩
  | false =>
    refine ⟨fun g1 => go 60 ?_, fun g1 => go 60 ?_⟩
    · cases g1
    refine ⟨fun g2 => go 60 ?_, fun g2 => go 60 ?_⟩
    rotate_left
    · cases g2
    have hne2 : q ≠ to := of_decide_eq_false hh
    show CallThen _ _ _ _ _ _
    refine call_flat ?_
    refine ⟨rfl, by simp, rfl, by simp, _, w_pathWithin q to hql, rfl, rfl, ?_⟩
    cases hw : within q to with
    | true =>
      have hlt : q.length < to.length := by
        have h1 := within_len hw
        rcases Nat.lt_or_ge q.length to.length with h | h
        · exact h
        · exact absurd (within_eq hw h) hne2
      have hx : (to.map intV)[0 + (((q.map intV).length : Nat) : Int).toNat]? = some (intV (to[q.length])) := by simp [hlt]
      have hlt2 : (((q.map intV).length : Nat) : Int) < ((to.map intV).length : Nat) := by simp; omega
      have hgd : (to[q.length]?).getD 0 = to[q.length] := by simp [hlt]
      have hmid := ht _ (List.getElem_mem hlt)
      obtain ⟨b1, b2⟩ := hmid
      have hset : incAt to q.length (-1) = to.set q.length (to[q.length] - 1) := by unfold incAt; rw [hgd]; rfl
      have hnw : ∀ l : List Int, l.length = to.length → within l q = false := fun l hl => by
        cases h : within l q with
        | false => rfl
        | true => have := within_len h; omega
      generalize to[q.length] = z at hx hgd b1 b2 hset
      refine ⟨fun g3 => go 60 ?_, fun g3 => go 60 ?_⟩
      rotate_left
      · cases g3
      refine ⟨rfl, rfl, Int.natCast_nonneg _, hlt2, ?_⟩
      refine ⟨rfl, _, hx, ?_⟩
      refine ⟨fun g4 => go 60 ?_, fun g4 => go 60 ?_⟩
      · refine ⟨rfl, rfl, Int.natCast_nonneg _, hlt2, ?_⟩
        refine ⟨rfl, _, hx, ?_⟩
        refine ⟨by constructor <;> omega, ?_⟩
        refine ⟨rfl, Int.natCast_nonneg _, hlt2, rfl, _, hx, ?_⟩
        refine ⟨fun g5 => go 60 ?_, fun g5 => go 60 ?_⟩
        rotate_left
        · cases g5
        have hsv : (to.map intV).set (0 + (((q.map intV).length : Nat) : Int).toNat) (.int .i64 (z - 1)) = (incAt to q.length (-1)).map intV := by
          rw [hset, List.map_set]
          simp
          rfl
        have hwn : within (incAt to q.length (-1)) q = false := hnw _ (incAt_len _ _ _)
        show CallThen _ _ _ _ _ _
        refine call_flat ?_
        have hW : Pure Tryz.prog 85 [.sl 1 ((to.map intV).set (0 + (((q.map intV).length : Nat) : Int).toNat) (.int .i64 (z - 1))), .sl 1 (q.map intV)] (fun x => x = .bool (within (incAt to q.length (-1)) q)) := by
          rw [hsv]
          exact w_pathWithin (incAt to q.length (-1)) q (by rw [incAt_len]; exact htl)
        have hC : Pure Tryz.prog 54 [.sl 1 ((to.map intV).set (0 + (((q.map intV).length : Nat) : Int).toNat) (.int .i64 (z - 1))), intV at_] (fun x => x = pathV (incAt to q.length (-1) ++ [at_])) := by
          rw [hsv]
          exact w_Child (incAt to q.length (-1)) at_ (by rw [incAt_len]; exact htl)
        refine ⟨rfl, by simp, rfl, by simp, _, hW, rfl, rfl, ?_⟩
        rw [hwn]
        have hb : backS q to d at_ = ⟨false, at_, incAt to q.length (-1), q, d⟩ := by simp only [backS, hh, hw, hgd, g4, hwn, Bool.false_and, Bool.true_and, Bool.not_false, Bool.and_self, cond_true, cond_false]
        rw [hb]
        refine ⟨fun g6 => go 60 ?_, fun g6 => go 60 ?_⟩
        · cases g6
        refine ⟨fun g7 => go 60 ?_, fun g7 => go 60 ?_⟩
        · cases g7
        show CallThen _ _ _ _ _ _
        refine call_pure_frz ?_
        refine ⟨rfl, by simp, _, hC, rfl, ?_⟩
        rintro x rfl
        refine ⟨trivial, rfl, rfl, rfl, by simp, ?_⟩
        exact ⟨rfl, opV { noOp 3 with path := (incAt to q.length (-1)) ++ [at_], to := q, at_ := d }, Wk.agg ⟨.refl _, .refl _, .refl _, .refl _, .refl _, Wk.ff, .refl _, .refl _, .refl _, Wk.ff, Wk.nil 3, trivial⟩, rfl, rfl⟩
      · refine ⟨fun g5 => go 60 ?_, fun g5 => go 60 ?_⟩
        rotate_left
        · cases g5
        show CallThen _ _ _ _ _ _
        refine call_flat ?_
        refine ⟨rfl, by simp, rfl, by simp, _, w_pathWithin to q htl, rfl, rfl, ?_⟩
        rw [hnw to rfl]
        have hb : backS q to d at_ = ⟨false, at_, to, q, d⟩ := by simp only [backS, hh, hw, hgd, g4, hnw to rfl, Bool.false_and, Bool.true_and, Bool.and_false, Bool.not_false, Bool.and_self, cond_true, cond_false]
        rw [hb]
        refine ⟨fun g6 => go 60 ?_, fun g6 => go 60 ?_⟩
        · cases g6
        refine ⟨fun g7 => go 60 ?_, fun g7 => go 60 ?_⟩
        · cases g7
        show CallThen _ _ _ _ _ _
        refine call_pure_frz ?_
        refine ⟨rfl, by simp, _, w_Child to at_ htl, rfl, ?_⟩
        rintro x rfl
        refine ⟨trivial, rfl, rfl, rfl, by simp, ?_⟩
        exact ⟨rfl, opV { noOp 3 with path := (to) ++ [at_], to := q, at_ := d }, Wk.agg ⟨.refl _, .refl _, .refl _, .refl _, .refl _, Wk.ff, .refl _, .refl _, .refl _, Wk.ff, Wk.nil 3, trivial⟩, rfl, rfl⟩
    | false =>
      refine ⟨fun g3 => go 60 ?_, fun g3 => go 60 ?_⟩
      · cases g3
      refine ⟨fun g5 => go 60 ?_, fun g5 => go 60 ?_⟩
      rotate_left
      · cases g5
      show CallThen _ _ _ _ _ _
      refine call_flat ?_
      refine ⟨rfl, by simp, rfl, by simp, _, w_pathWithin to q htl, rfl, rfl, ?_⟩
      cases hw2 : within to q with
      | true =>
        have hlt : to.length < q.length := by
          have h1 := within_len hw2
          rcases Nat.lt_or_ge to.length q.length with h | h
          · exact h
          · exact absurd (within_eq hw2 h).symm hne2
        have hx : (q.map intV)[0 + (((to.map intV).length : Nat) : Int).toNat]? = some (intV (q[to.length])) := by simp [hlt]
        have hlt2 : (((to.map intV).length : Nat) : Int) < ((q.map intV).length : Nat) := by simp; omega
        have hgd : (q[to.length]?).getD 0 = q[to.length] := by simp [hlt]
        have hmid := hqm _ (List.getElem_mem hlt)
        obtain ⟨b1, b2⟩ := hmid
        have hset : incAt q to.length 1 = q.set to.length (q[to.length] + 1) := by unfold incAt; rw [hgd]
        generalize q[to.length] = z at hx hgd b1 b2 hset
        refine ⟨fun g6 => go 60 ?_, fun g6 => go 60 ?_⟩
        rotate_left
        · cases g6
        refine ⟨rfl, rfl, Int.natCast_nonneg _, hlt2, ?_⟩
        refine ⟨rfl, _, hx, ?_⟩
        refine ⟨fun g4 => go 60 ?_, fun g4 => go 60 ?_⟩
        · have hsv : (q.map intV).set (0 + (((to.map intV).length : Nat) : Int).toNat) (.int .i64 (z + 1)) = (incAt q to.length 1).map intV := by
            rw [hset, List.map_set]
            simp
            rfl
          have hb : backS q to d at_ = ⟨false, at_, to, incAt q to.length 1, d⟩ := by simp only [backS, hh, hw, hw2, hgd, g4, Bool.false_and, Bool.true_and, Bool.and_false, Bool.not_false, Bool.and_self, cond_true, cond_false]
          rw [hb]
          refine ⟨rfl, rfl, Int.natCast_nonneg _, hlt2, ?_⟩
          refine ⟨rfl, _, hx, ?_⟩
          refine ⟨by constructor <;> omega, ?_⟩
          refine ⟨rfl, Int.natCast_nonneg _, hlt2, rfl, _, hx, ?_⟩
          refine ⟨fun g7 => go 60 ?_, fun g7 => go 60 ?_⟩
          · cases g7
          show CallThen _ _ _ _ _ _
          refine call_pure_frz ?_
          refine ⟨rfl, by simp, _, w_Child to at_ htl, rfl, ?_⟩
          rintro x rfl
          refine ⟨trivial, rfl, rfl, rfl, by simp, ?_⟩
          exact ⟨rfl, opV { noOp 3 with path := (to) ++ [at_], to := incAt q to.length 1, at_ := d }, Wk.agg ⟨.refl _, .refl _, .refl _, by rw [show pathV (incAt q to.length 1) = .sl 1 _ from congrArg (V.sl 1) hsv.symm]; exact .refl _, .refl _, Wk.ff, .refl _, .refl _, .refl _, Wk.ff, Wk.nil 3, trivial⟩, rfl, rfl⟩
        · have hb : backS q to d at_ = ⟨false, at_, to, q, d⟩ := by simp only [backS, hh, hw, hw2, hgd, g4, Bool.false_and, Bool.true_and, Bool.and_false, Bool.not_false, Bool.and_self, cond_true, cond_false]
          rw [hb]
          refine ⟨fun g7 => go 60 ?_, fun g7 => go 60 ?_⟩
          · cases g7
          show CallThen _ _ _ _ _ _
          refine call_pure_frz ?_
          refine ⟨rfl, by simp, _, w_Child to at_ htl, rfl, ?_⟩
          rintro x rfl
          refine ⟨trivial, rfl, rfl, rfl, by simp, ?_⟩
          exact ⟨rfl, opV { noOp 3 with path := (to) ++ [at_], to := q, at_ := d }, Wk.agg ⟨.refl _, .refl _, .refl _, .refl _, .refl _, Wk.ff, .refl _, .refl _, .refl _, Wk.ff, Wk.nil 3, trivial⟩, rfl, rfl⟩
      | false =>
        refine ⟨fun g6 => go 60 ?_, fun g6 => go 60 ?_⟩
        · cases g6
        have hb : backS q to d at_ = ⟨false, at_, to, q, d⟩ := by simp only [backS, hh, hw, hw2, Bool.false_and, Bool.true_and, Bool.and_false, Bool.not_false, Bool.and_self, cond_true, cond_false]
        rw [hb]
        refine ⟨fun g7 => go 60 ?_, fun g7 => go 60 ?_⟩
        · cases g7
        show CallThen _ _ _ _ _ _
        refine call_pure_frz ?_
        refine ⟨rfl, by simp, _, w_Child to at_ htl, rfl, ?_⟩
        rintro x rfl
        refine ⟨trivial, rfl, rfl, rfl, by simp, ?_⟩
        exact ⟨rfl, opV { noOp 3 with path := (to) ++ [at_], to := q, at_ := d }, Wk.agg ⟨.refl _, .refl _, .refl _, .refl _, .refl _, Wk.ff, .refl _, .refl _, .refl _, Wk.ff, Wk.nil 3, trivial⟩, rfl, rfl⟩
end Bow
/- SP37: whether both sides' effects stand: of deletes and labels, in plain Lean. -/
namespace Bow
open Go

end Bow
/- W93: effects.Find, and the document's. -/
namespace Bow
open Go Go.Proofs

/-! ### The document's -/
end Bow
/- W41: the program's IDs; count. -/
namespace Bow
open Go Go.Proofs

end Bow
/- W42: the law's function TreeopsRight. -/
namespace Bow
open Go Go.Proofs

end Bow
/- W43: the law's function TreeopsAll. -/
namespace Bow
open Go Go.Proofs

end Bow
/- SP18: the paths of a tree's nodes; a move to a gap beside itself; in plain Lean. -/
namespace Bow
open Go

mutual
def pathsT : Tree → List (List Int)
  | .mk _ _ _ _ _ ss => [] :: pathsTs 0 ss
def pathsTs : Nat → List Tree → List (List Int)
  | _, [] => []
  | i, s :: ss => (pathsT s).map (fun p => (i : Int) :: p) ++ pathsTs (i + 1) ss
end
theorem pathsT_eq (t : Tree) : pathsT t = [] :: pathsTs 0 t.subs := by cases t; rw [pathsT]; rfl
mutual
theorem pathsT_len : ∀ t : Tree, (pathsT t).length = t.size
  | .mk i l a b c ss => by rw [pathsT, Tree.size, List.length_cons, pathsTs_len 0 ss]; omega
theorem pathsTs_len : ∀ (i : Nat) (ss : List Tree), (pathsTs i ss).length = sizes ss
  | _, [] => by rw [pathsTs]; rfl
  | i, s :: ss => by rw [pathsTs, sizes, List.length_append, List.length_map, pathsT_len s, pathsTs_len (i + 1) ss]
end
theorem mem_pathsTs {q : List Int} : ∀ {ss : List Tree} {i : Nat}, q ∈ pathsTs i ss → ∃ (k : Nat) (s : Tree) (p : List Int), ss[k]? = some s ∧ q = ((i + k : Nat) : Int) :: p ∧ p ∈ pathsT s
  | [], i, h => by rw [pathsTs] at h; cases h
  | s :: ss, i, h => by
    rw [pathsTs] at h
    rcases List.mem_append.1 h with h | h
    · obtain ⟨p, hp, rfl⟩ := List.mem_map.1 h
      exact ⟨0, s, p, rfl, rfl, hp⟩
    · obtain ⟨k, s', p, h1, h2, h3⟩ := mem_pathsTs h
      exact ⟨k + 1, s', p, h1, by rw [h2]; congr 2; omega, h3⟩
theorem paths_deep {t : Tree} : ∀ {p : List Int}, p ∈ pathsT t → p.length < t.size := by
  induction t using Tree.ind with
  | _ t ih =>
  intro p h
  have hs : 0 < t.size := by cases t; rw [Tree.size]; omega
  rw [pathsT_eq] at h
  rcases List.mem_cons.1 h with rfl | h
  · exact hs
  · obtain ⟨k, s, q, h1, rfl, h3⟩ := mem_pathsTs h
    have hm := List.mem_of_getElem? h1
    have := ih s hm h3
    have := Tree.size_sub hm
    simp only [List.length_cons]
    omega
theorem pathsTs_drop : ∀ {ss : List Tree} {i k : Nat} (h : k < ss.length), pathsTs (i + k) (ss.drop k) = (pathsT ss[k]).map (fun p => ((i + k : Nat) : Int) :: p) ++ pathsTs (i + (k + 1)) (ss.drop (k + 1)) := by
  intro ss i k h
  rw [List.drop_eq_getElem_cons h, pathsTs]
  rfl

end Bow
/- W44: the paths of all nodes. -/
namespace Bow
open Go Go.Proofs

def pathsV (l : List (List Int)) : V := .sl 1 (l.map pathV)
theorem okE_path (p : List Int) : okE 1 (pathV p) := ⟨rfl, rfl⟩
theorem wkE_paths : ∀ l : List (List Int), WkE 1 (l.map pathV) (l.map pathV)
  | [] => trivial
  | p :: l => ⟨⟨⟨.refl _, trivial⟩, okE_path p⟩, wkE_paths l⟩

set_option maxHeartbeats 1000000 in
set_option maxRecDepth 100000 in
theorem w_Paths (t : Tree) : t.weight ≤ 100000 → Pure Tryz.prog 5 [nodeV t] (fun x => x = pathsV (pathsT t)) := by
  induction t using Tree.ind with
  | _ t ih =>
  intro ht
  have hsl := subs_le_weight t
  have hsz := size_le_weight t
  have hpl := pathsT_len t
  refine pure_wk (pure_fn 300 Tryz.func5 rfl rfl rfl fun B => ?_)
  refine ⟨⟨rfl, trivial⟩, ?_⟩
  show Goes _ _ _ _
  refine goes_iter (ι := Nat × Nat × Nat × List V) (fun i => i.1 ≤ t.subs.length ∧ ∃ acc : List (List Int), i.2.2.2 = .nilsl :: acc.map pathV ∧ i.2.2.1 = acc.length + 1 ∧ acc ++ pathsTs i.1 (t.subs.drop i.1) = pathsTs 0 t.subs) (fun i => t.subs.length - i.1)
    (fun i => [(4, .int .i64 i.1), (3, .osl (.loc 1) i.2.1 0 i.2.2.1), (1, .ptr (.loc 0) 0)]) (fun i => [some (.box (nodeV t).cells), some (.vec i.2.1 1 i.2.2.2)]) (0, 0, 1, [.nilsl]) 300 (fun _ => rfl) (fun _ => rfl) ⟨⟨Nat.zero_le _, [], rfl, rfl, rfl⟩, ⟨⟨rfl, rfl⟩, ⟨rfl, rfl⟩, ⟨rfl, rfl⟩, trivial⟩, ⟨⟨rfl, rfl⟩, ⟨rfl, rfl⟩, trivial⟩⟩ ?_
  rintro ⟨i, g, n, xs⟩ ⟨k1, acc, rfl, rfl, k2⟩ next
  simp only at k1 k2
  refine ⟨fun hlt => go 300 ?_, fun hge => go 300 ?_⟩
  · have hi : i < t.subs.length := by simpa [subV_eq] using hlt
    have hx : t.subV[i]? = some (nodeV t.subs[i]) := by simp [subV_eq, hi]
    have hws := weight_sub (List.getElem_mem hi)
    have hsw := size_le_weight t.subs[i]
    have hd := pathsTs_drop (ss := t.subs) (i := 0) hi
    simp only [Nat.zero_add] at hd
    rw [hd] at k2
    have hlen := congrArg List.length k2
    simp only [List.length_append, List.length_map] at hlen
    have hpl' := pathsTs_len 0 t.subs
    have hts := pathsT_eq t
    have hpi := pathsT_len t.subs[i]
    have hle : (pathsTs 0 t.subs).length ≤ 100000 := by
      rw [hts] at hpl
      simp at hpl
      omega
    refine ⟨Int.natCast_nonneg i, _, hx, ?_⟩
    show CallThen _ _ _ _ _ _
    refine call_pure (ih _ (List.getElem_mem hi) (by omega)) rfl ?_
    rintro x rfl
    show Goes _ _ _ _
    refine goes_while (ι := Nat × Nat × Nat × List V) (κ := Nat × Nat × List V) (fun k => k.1 ≤ (pathsT t.subs[i]).length ∧ ∃ acc' : List (List Int), k.2.2.2 = .nilsl :: acc'.map pathV ∧ k.2.2.1 = acc'.length + 1 ∧ acc' ++ (((pathsT t.subs[i]).drop k.1).map (fun p => (i : Int) :: p) ++ pathsTs (i + 1) (t.subs.drop (i + 1))) = pathsTs 0 t.subs) (fun k => (pathsT t.subs[i]).length - k.1)
      (fun k => [(6, .int .i64 k.1), (5, pathsV (pathsT t.subs[i])), (4, .int .i64 i), (3, .osl (.loc 1) k.2.1 0 k.2.2.1), (1, .ptr (.loc 0) 0)]) (fun k => [some (.box (nodeV t).cells), some (.vec k.2.1 1 k.2.2.2)]) (0, g, acc.length + 1, .nilsl :: acc.map pathV)
      (fun k => ∃ acc' : List (List Int), k.2.2 = .nilsl :: acc'.map pathV ∧ k.2.1 = acc'.length + 1 ∧ acc' ++ pathsTs (i + 1) (t.subs.drop (i + 1)) = pathsTs 0 t.subs)
      (fun k => [(4, .int .i64 i), (3, .osl (.loc 1) k.1 0 k.2.1), (1, .ptr (.loc 0) 0)]) (fun k => [some (.box (nodeV t).cells), some (.vec k.1 1 k.2.2)]) 300 (fun _ => rfl) (fun _ => rfl) (fun _ => rfl) (fun _ => rfl)
      ⟨⟨Nat.zero_le _, acc, rfl, rfl, k2⟩, ⟨⟨rfl, rfl⟩, ⟨rfl, rfl⟩, ⟨rfl, rfl⟩, ⟨rfl, rfl⟩, ⟨rfl, rfl⟩, trivial⟩, ⟨⟨rfl, rfl⟩, ⟨rfl, rfl⟩, trivial⟩⟩ ?_ ?_
    · rintro ⟨g', n', xs'⟩ ⟨acc', rfl, rfl, q⟩
      refine ⟨by constructor <;> omega, ?_⟩
      show Goes _ _ _ _
      exact next (i + 1, g', _, _) _ _ ⟨⟨hi, acc', rfl, rfl, q⟩, by simp only; omega, ⟨⟨rfl, rfl⟩, ⟨rfl, rfl⟩, ⟨rfl, rfl⟩, trivial⟩, ⟨⟨rfl, rfl⟩, ⟨rfl, rfl⟩, trivial⟩⟩
    · rintro ⟨k, g', n', xs'⟩ ⟨j1, acc', rfl, rfl, j2⟩ next2 post
      simp only at j1 j2
      refine ⟨fun hlt => go 300 ?_, fun hge => go 300 ?_⟩
      · have hk : k < (pathsT t.subs[i]).length := by simpa using hlt
        have hy : ((pathsT t.subs[i]).map pathV)[k]? = some (pathV (pathsT t.subs[i])[k]) := by simp [hk]
        have hdp := paths_deep (List.getElem_mem hk)
        rw [List.drop_eq_getElem_cons hk] at j2
        have hlen2 := congrArg List.length j2
        simp only [List.length_append, List.length_map, List.length_cons] at hlen2
        refine ⟨⟨rfl, trivial⟩, ?_⟩
        refine ⟨Int.natCast_nonneg k, _, hy, ?_⟩
        refine ⟨rfl, rfl, room_of (by simp; omega) (by decide), ?_⟩
        refine ⟨rfl, by simp; omega, ⟨rfl, trivial⟩, rfl, rfl, rfl, by simp, room_of (by simp; omega) (by decide), ?_⟩
        refine ⟨by constructor <;> omega, ?_⟩
        show Goes _ _ _ _
        refine next2 (k + 1, bump g', _, _) _ _ ⟨⟨hk, acc' ++ [(i : Int) :: (pathsT t.subs[i])[k]], ?_, ?_, ?_⟩, ?_, ⟨⟨rfl, rfl⟩, ⟨rfl, rfl⟩, ⟨rfl, rfl⟩, ⟨rfl, rfl⟩, ⟨rfl, rfl⟩, trivial⟩, ⟨⟨rfl, rfl⟩, ⟨rfl, rfl⟩, trivial⟩⟩
        · simp [pathV, intV]
          rfl
        · simp
        · rw [List.map_cons] at j2
          rw [← j2]
          simp only [List.append_assoc, List.cons_append, List.nil_append]
        · simp only; omega
      · have hk : k = (pathsT t.subs[i]).length := by have : (pathsT t.subs[i]).length ≤ k := by simpa using hge
                                                      omega
        subst hk
        rw [List.drop_length] at j2
        exact post (g', _, _) _ _ _ rfl ⟨⟨acc', rfl, rfl, j2⟩, ⟨⟨rfl, rfl⟩, ⟨rfl, rfl⟩, ⟨rfl, rfl⟩, trivial⟩, ⟨⟨rfl, rfl⟩, ⟨rfl, rfl⟩, trivial⟩⟩
  · have hi : t.subs.length ≤ i := by simpa [subV_eq] using hge
    rw [List.drop_eq_nil_of_le hi, pathsTs, List.append_nil] at k2
    subst k2
    refine ⟨trivial, rfl, rfl, rfl, by simp, rfl, pathsV (pathsT t), ?_, rfl, rfl⟩
    rw [pathsT_eq]
    exact Wk.sl ⟨⟨⟨Wk.nil 1, trivial⟩, okE_path []⟩, wkE_paths _⟩
end Bow
/- SP34: the grove, and all pairs of operations of all kinds on it: both ways round end in the same tree; computed in plain Lean. -/
namespace Bow
open Go

def groveT : Tree := .mk 1 false [114] [] [] [
  .mk 2 false [97] [([107], [49])] [] [.mk 3 true [120] [] [104, 105] [], .mk 4 false [99] [] [] []],
  .mk 5 true [98] [] [98, 101, 101] [],
  .mk 6 false [100] [] [] [.mk 7 false [101] [] [] [.mk 8 false [102] [] [] []]]]
def headO (p : List Int) : List OpT := [{ noOp 2 with path := p }, { noOp 5 with path := p, label := [113] }, { noOp 4 with path := p, key := [107], value := [57] }, { noOp 4 with path := p, key := [107], gone := true }, { noOp 6 with path := p, pieces := [⟨1, 1, [33]⟩] }]
def putO (i : Nat) (p : List Int) (k : Nat) : OpT := { noOp 1 with path := p, at_ := k, id := IntKind.u64.wrap (100 + 10 * (i : Int) + (k : Int)), label := [110] }
def movO (p : List Int) (k : Nat) (q : List Int) : OpT := { noOp 3 with path := q, to := p, at_ := k }
/-- .. at the gaps below n. -/
def gapsO (ps : List (List Int)) (i : Nat) (p : List Int) : Nat → List OpT
  | 0 => []
  | n + 1 => gapsO ps i p n ++ (putO i p n :: ps.map (movO p n))
def manyO (ps : List (List Int)) (top : Nat) : Nat → List OpT
  | 0 => []
  | i + 1 => manyO ps top i ++ (headO (ps.getD i []) ++ gapsO ps i (ps.getD i []) (top + 1))

end Bow
/- W86: bowerkit's Grove and Many; bowerlaw12.closes. -/
namespace Bow
open Go Go.Proofs

theorem wkE_app {sz : Nat} : ∀ {xs ys us vs : List V}, WkE sz xs ys → WkE sz us vs → WkE sz (xs ++ us) (ys ++ vs)
  | [], [], _, _, _, h => h
  | _ :: _, _ :: _, _, _, h, k => ⟨h.1, wkE_app h.2 k⟩
  | [], _ :: _, _, _, h, _ => h.elim
  | _ :: _, [], _, _, h, _ => h.elim
theorem wkL_mk {b : Bool} {i : Int} {label text : List UInt8} {ats ks leaf : V} {al : List (List UInt8 × List UInt8)} {ss : List Tree} (hl : Wk leaf (.bool b)) (ha : Wk ats (.sl 2 (al.map attrV))) (hk : Wk ks (.sl 6 (ss.map nodeV))) :
    WkL [.int .u64 i, leaf, .str label, ats, .str text, ks] (nodeV (.mk i b label al text ss)).cells := by
  refine ⟨.refl _, hl, .refl _, ha, .refl _, ?_, trivial⟩
  rw [subV_eq]
  exact hk
theorem wk_grove : Wk (.agg [.int .u64 1, .ff, .str [114], .nilsl, .str [], .sl 6 [
    .agg [.int .u64 2, .ff, .str [97], .sl 2 [.agg [.str [107], .str [49]]], .str [], .sl 6 [.agg [.int .u64 3, .tt, .str [120], .nilsl, .str [104, 105], .nilsl], .agg [.int .u64 4, .ff, .str [99], .nilsl, .str [], .nilsl]]],
    .agg [.int .u64 5, .tt, .str [98], .nilsl, .str [98, 101, 101], .nilsl],
    .agg [.int .u64 6, .ff, .str [100], .nilsl, .str [], .sl 6 [.agg [.int .u64 7, .ff, .str [101], .nilsl, .str [], .sl 6 [.agg [.int .u64 8, .ff, .str [102], .nilsl, .str [], .nilsl]]]]]]]) (nodeV groveT) := by
  refine Wk.agg (wkL_mk Wk.ff (Wk.nil 2) (Wk.sl ⟨⟨?_, okE_node _⟩, ⟨?_, okE_node _⟩, ⟨?_, okE_node _⟩, trivial⟩))
  · exact wkL_mk Wk.ff (.refl _) (Wk.sl ⟨⟨wkL_mk Wk.tt (Wk.nil 2) (Wk.nil 6), okE_node _⟩, ⟨wkL_mk Wk.ff (Wk.nil 2) (Wk.nil 6), okE_node _⟩, trivial⟩)
  · exact wkL_mk Wk.tt (Wk.nil 2) (Wk.nil 6)
  · exact wkL_mk Wk.ff (Wk.nil 2) (Wk.sl ⟨⟨wkL_mk Wk.ff (Wk.nil 2) (Wk.sl ⟨⟨wkL_mk Wk.ff (Wk.nil 2) (Wk.nil 6), okE_node _⟩, trivial⟩), okE_node _⟩, trivial⟩)

set_option maxRecDepth 100000 in
theorem w_Grove : Pure Tryz.prog 4 [] (fun x => x = nodeV groveT) := by
  refine pure_wk (pure_fn 60 Tryz.func4 rfl rfl rfl fun B => ?_)
  refine ⟨⟨rfl, trivial⟩, ⟨rfl, rfl, trivial⟩, ⟨rfl, trivial⟩, rfl, rfl, ⟨rfl, trivial⟩, rfl, rfl, rfl, rfl, rfl, rfl, ⟨rfl, rfl, rfl, trivial⟩, ?_⟩
  exact ⟨trivial, rfl, rfl, rfl, rfl, rfl, nodeV groveT, wk_grove, rfl, rfl⟩

theorem gaps_len (ps : List (List Int)) (i : Nat) (p : List Int) : ∀ n, (gapsO ps i p n).length = n * (1 + ps.length)
  | 0 => by simp [gapsO]
  | n + 1 => by
    rw [gapsO, List.length_append, gaps_len ps i p n]
    simp only [List.length_cons, List.length_map, Nat.add_mul]
    omega
theorem many_len (ps : List (List Int)) (top : Nat) : ∀ i, (manyO ps top i).length = i * (5 + (top + 1) * (1 + ps.length))
  | 0 => by simp [manyO]
  | i + 1 => by
    rw [manyO, List.length_append, many_len ps top i, List.length_append, gaps_len, Nat.add_mul i 1]
    simp [headO]
theorem wkO {k at_ id : Int} {p : List Int} {t l e s : V} {to : List Int} {label key value : List UInt8} {leaf gone : Bool} {pc : List PieceT} (ht : Wk t (pathV to)) (hl : Wk l (.bool leaf)) (he : Wk e (.bool gone)) (hs : Wk s (piecesV pc)) :
    WkE 11 [.agg [.int .u8 k, pathV p, .int .i64 at_, t, .int .u64 id, l, .str label, .str key, .str value, e, s]] ([⟨k, p, at_, to, id, leaf, label, key, value, gone, pc⟩].map opV) :=
  ⟨⟨⟨.refl _, .refl _, .refl _, ht, .refl _, hl, .refl _, .refl _, .refl _, he, hs, trivial⟩, rfl, rfl⟩, trivial⟩
theorem wk_head (p : List Int) : WkE 11 [.agg [.int .u8 2, pathV p, .int .i64 0, .nilsl, .int .u64 0, .ff, .str [], .str [], .str [], .ff, .nilsl], .agg [.int .u8 5, pathV p, .int .i64 0, .nilsl, .int .u64 0, .ff, .str [113], .str [], .str [], .ff, .nilsl],
    .agg [.int .u8 4, pathV p, .int .i64 0, .nilsl, .int .u64 0, .ff, .str [], .str [107], .str [57], .ff, .nilsl], .agg [.int .u8 4, pathV p, .int .i64 0, .nilsl, .int .u64 0, .ff, .str [], .str [107], .str [], .tt, .nilsl],
    .agg [.int .u8 6, pathV p, .int .i64 0, .nilsl, .int .u64 0, .ff, .str [], .str [], .str [], .ff, .sl 3 [.agg [.int .i64 1, .int .i64 1, .str [33]]]]] ((headO p).map opV) :=
  wkE_app (wkO (Wk.nil 1) Wk.ff Wk.ff (Wk.nil 3)) (wkE_app (wkO (Wk.nil 1) Wk.ff Wk.ff (Wk.nil 3)) (wkE_app (wkO (Wk.nil 1) Wk.ff Wk.ff (Wk.nil 3)) (wkE_app (wkO (Wk.nil 1) Wk.ff Wk.tt (Wk.nil 3)) (wkO (Wk.nil 1) Wk.ff Wk.ff (.refl _)))))
theorem room_of2 {n m b : Nat} (h : n + m ≤ 1000000) (hb : b ≤ 10000) : room (n + m) b := Nat.le_trans (Nat.mul_le_mul h hb) (by decide)

theorem many_osl {g : Nat} {xs ys : List V} : V.osl (.loc 0) g 0 (xs.length + ys.length) = V.osl (.loc 0) g 0 (xs ++ ys).length := by rw [List.length_append]
end Bow
/- W95: effects.Corner; what stands of deletes and labels; the chapter's examples; the law EffectsFind. -/
namespace Bow
open Go Go.Proofs

/-! ### What stands -/
def nodeAt (t : Tree) (p : List Int) : Tree := (atT t p).getD zeroT0
theorem w_AtB (t : Tree) (p : List Int) (hp : p.length ≤ 1000000) : Pure Tryz.prog 61 [nodeV t, pathV p] (fun x => x = .tup [nodeV (nodeAt t p), .bool (atT t p).isSome]) := by
  refine pure_wk ((w_At t p hp).mono fun x hx => ⟨_, ?_, ?_, rfl⟩)
  · rw [hx]
    unfold nodeAt
    cases atT t p with
    | none => exact Wk.tup ⟨.refl _, Wk.ff, trivial⟩
    | some s => exact Wk.tup ⟨.refl _, Wk.tt, trivial⟩
  · rfl
end Bow
/- SP66: whether both sides' effects stand, of operations of all kinds, in plain Lean. -/
namespace Bow
open Go

/-- An attribute's value. -/
def attrP (l : AttrL) (key : List UInt8) : List UInt8 × Bool := match l.find? fun a => decide (a.1 = key) with
  | some a => (a.2, true)
  | none => ([], false)
def ixA (key : List UInt8) : Nat → AttrL → Int
  | _, [] => -1
  | i, a :: l => bif decide (a.1 = key) then i else ixA key (i + 1) l
theorem ixA_spec (key : List UInt8) : ∀ (l : AttrL) (k : Nat), (ixA key k l = -1 ∧ attrP l key = ([], false)) ∨ ∃ (i : Nat) (a : List UInt8 × List UInt8), ixA key k l = ((k + i : Nat) : Int) ∧ l[i]? = some a ∧ attrP l key = (a.2, true)
  | [], _ => .inl ⟨rfl, rfl⟩
  | a :: l, k => by
    rw [ixA]
    have e : attrP (a :: l) key = bif decide (a.1 = key) then (a.2, true) else attrP l key := by
      unfold attrP
      rw [List.find?_cons]
      cases decide (a.1 = key) <;> rfl
    rw [e]
    cases decide (a.1 = key) with
    | true => exact .inr ⟨0, a, rfl, rfl, rfl⟩
    | false =>
      rcases ixA_spec key l (k + 1) with ⟨h1, h2⟩ | ⟨i, b, h1, h2, h3⟩
      · exact .inl ⟨h1, h2⟩
      · exact .inr ⟨i + 1, b, by rw [cond_false, h1]; omega, by simpa using h2, h3⟩
end Bow
/- W99: an attribute's value. -/
namespace Bow
open Go Go.Proofs

theorem w_attrIs (a : List UInt8 × List UInt8) (key : List UInt8) : Pure Tryz.prog 89 [attrV a, .iptr [.str key] 0] (fun x => x = .bool (decide (a.1 = key))) := by
  refine pure_fn 60 Tryz.func89 rfl rfl rfl fun B => ?_
  exact ⟨trivial, rfl, rfl, rfl, rfl⟩
set_option maxRecDepth 100000 in
theorem w_IndexAttr (key : List UInt8) (xs : AttrL) (hl : xs.length ≤ 1000000) :
    Pure Tryz.prog 88 [.sl 2 (xs.map attrV), .fn (.func 89) [] [.iptr [.str key] 0]] (fun x => x = .int .i64 (ixA key 0 xs)) := by
  refine pure_fn 100 Tryz.func88 rfl rfl rfl fun B => ?_
  show Goes _ _ _ _
  refine goes_iter (ι := Nat) (fun i => i ≤ xs.length ∧ ixA key i (xs.drop i) = ixA key 0 xs) (fun i => xs.length - i) (fun i => [(8, .int .i64 i), (7, .int .i64 (xs.map attrV).length), (1, .fn (.func 89) [] [.iptr [.str key] 0]), (0, .sl 2 (xs.map attrV))]) (fun _ => []) 0 200 (fun _ => rfl) (fun _ => rfl) ⟨⟨Nat.zero_le _, rfl⟩, ?_, ?_⟩ ?_
  · exact ⟨⟨rfl, rfl⟩, ⟨rfl, rfl⟩, ⟨rfl, rfl⟩, ⟨rfl, rfl⟩, trivial⟩
  · trivial
  · rintro i ⟨h1, h2⟩ next
    refine ⟨fun hlt => go 200 ?_, fun hge => go 200 ?_⟩
    · have hi : i < xs.length := by simpa using hlt
      have hx : (xs.map attrV)[i]? = some (attrV xs[i]) := by simp [hi]
      rw [drop_cons hi, ixA] at h2
      refine ⟨Int.natCast_nonneg i, _, hx, ?_⟩
      show CallThen _ _ _ _ _ _
      refine call_pure (w_attrIs xs[i] key) rfl ?_
      rintro x rfl
      refine ⟨fun h => go 200 ?_, fun h => go 200 ?_⟩
      · rw [h] at h2
        exact ⟨trivial, rfl, rfl, rfl, by rw [← h2]; rfl⟩
      · rw [h] at h2
        refine ⟨by constructor <;> omega, ?_⟩
        show Goes _ _ _ _
        exact next (i + 1) _ _ ⟨⟨hi, h2⟩, by omega, ⟨⟨rfl, rfl⟩, ⟨rfl, rfl⟩, ⟨rfl, rfl⟩, ⟨rfl, rfl⟩, trivial⟩, trivial⟩
    · have hi : xs.length ≤ i := by simpa using hge
      rw [List.drop_eq_nil_of_le hi] at h2
      exact ⟨trivial, rfl, rfl, rfl, by rw [← h2]; rfl⟩
def attrR (r : List UInt8 × Bool) : V := .tup [.str r.1, .bool r.2]
set_option maxRecDepth 100000 in
theorem w_plainAttr (t : Tree) (key : List UInt8) (hl : t.attrs.length ≤ 1000000) : Pure Tryz.prog 63 [nodeV t, .str key] (fun x => x = attrR (attrP t.attrs key)) := by
  have c1 := w_IndexAttr key t.attrs hl
  have hs := ixA_spec key t.attrs 0
  generalize ixA key 0 t.attrs = n at c1 hs
  generalize attrP t.attrs key = r at hs ⊢
  refine pure_wk (pure_fn 60 Tryz.func63 rfl rfl rfl fun B => ?_)
  show CallThen _ _ _ _ _ _
  refine call_freeze 1 rfl rfl ?_
  refine call_pure c1 rfl ?_
  rintro x rfl
  rcases hs with ⟨rfl, rfl⟩ | ⟨i, a, rfl, h2, rfl⟩
  · refine ⟨fun _ => go 60 ?_, fun q => absurd q (by decide)⟩
    exact ⟨trivial, rfl, rfl, rfl, attrR ([], false), Wk.tup ⟨.refl _, Wk.ff, trivial⟩, rfl, rfl⟩
  · refine ⟨fun q => ?_, fun _ => go 60 ?_⟩
    · have := lt_of q
      omega
    have hx : (t.attrs.map attrV)[0 + i]? = some (attrV a) := by rw [Nat.zero_add, List.getElem?_map, h2]; rfl
    refine ⟨Int.natCast_nonneg _, _, hx, ?_⟩
    exact ⟨trivial, rfl, rfl, rfl, attrR (a.2, true), Wk.tup ⟨.refl _, Wk.tt, trivial⟩, rfl, rfl⟩
theorem attrP_drop (key : List UInt8) {l : AttrL} {i : Nat} (hi : i < l.length) : attrP (l.drop i) key = bif decide (l[i].1 = key) then (l[i].2, true) else attrP (l.drop (i + 1)) key := by
  rw [drop_cons hi]
  unfold attrP
  rw [List.find?_cons]
  cases decide (l[i].1 = key) <;> rfl
set_option maxRecDepth 100000 in
theorem w_refAttr (t : Tree) (key : List UInt8) (hl : t.attrs.length ≤ 1000000) : Pure Tryz.prog 38 [nodeV t, .str key] (fun x => x = attrR (attrP t.attrs key)) := by
  refine pure_wk (pure_fn 60 Tryz.func38 rfl rfl rfl fun B => ?_)
  show Goes _ _ _ _
  refine goes_iter (ι := Nat) (fun i => i ≤ t.attrs.length ∧ attrP (t.attrs.drop i) key = attrP t.attrs key) (fun i => t.attrs.length - i) (fun i => [(6, .int .i64 i), (1, .str key), (2, .ptr (.loc 0) 0)]) (fun _ => [some (.box (nodeV t).cells)]) 0 60 (fun _ => rfl) (fun _ => rfl) ⟨⟨Nat.zero_le _, rfl⟩, ?_, ?_⟩ ?_
  · exact ⟨⟨rfl, rfl⟩, ⟨rfl, rfl⟩, ⟨rfl, rfl⟩, trivial⟩
  · exact ⟨⟨rfl, rfl⟩, trivial⟩
  · rintro i ⟨h1, h2⟩ next
    refine ⟨fun hlt => go 60 ?_, fun hge => go 60 ?_⟩
    · have hi : i < t.attrs.length := by simpa using hlt
      have hx : (t.attrs.map attrV)[i]? = some (attrV t.attrs[i]) := by simp [hi]
      rw [attrP_drop key hi] at h2
      refine ⟨Int.natCast_nonneg i, _, hx, ?_⟩
      refine ⟨fun h => go 60 ?_, fun h => go 60 ?_⟩
      · rw [h] at h2
        refine ⟨Int.natCast_nonneg i, _, hx, ?_⟩
        exact ⟨trivial, rfl, rfl, rfl, attrR (t.attrs[i].2, true), Wk.tup ⟨.refl _, Wk.tt, trivial⟩, rfl, by rw [← h2]; rfl⟩
      · rw [h] at h2
        refine ⟨by constructor <;> omega, ?_⟩
        show Goes _ _ _ _
        exact next (i + 1) _ _ ⟨⟨hi, h2⟩, by omega, ⟨⟨rfl, rfl⟩, ⟨rfl, rfl⟩, ⟨rfl, rfl⟩, trivial⟩, ⟨⟨rfl, rfl⟩, trivial⟩⟩
    · have hi : t.attrs.length ≤ i := by simpa using hge
      rw [List.drop_eq_nil_of_le hi] at h2
      exact ⟨trivial, rfl, rfl, rfl, attrR ([], false), Wk.tup ⟨.refl _, Wk.ff, trivial⟩, rfl, by rw [← h2]; rfl⟩
end Bow
/- W100: what stands of operations of all kinds: the program's. -/
namespace Bow
open Go Go.Proofs

end Bow
/- W101: what stands of attributes, labels, edits; of two operations: the program's. -/
namespace Bow
open Go Go.Proofs

end Bow
/- AE48: ranges over functions that hold the ranging side's objects; arguments that say less. -/
namespace Bow
open Go

/-- Arguments that say less, at a call. -/
def WkA : List V → List V → Prop
  | [], [] => True
  | x :: xs, y :: ys => (x = y ∨ (x.pureB = true ∧ y.pureB = true ∧ Wk x y)) ∧ WkA xs ys
  | _, _ => False
theorem WkA.get : ∀ {xs ys : List V}, WkA xs ys → xs.length = ys.length ∧ ∀ (j : Nat) (y : V), ys[j]? = some y → ∃ x, xs[j]? = some x ∧ (x = y ∨ (x.pureB = true ∧ y.pureB = true ∧ Wk x y))
  | [], [], _ => ⟨rfl, fun j y h => by simp at h⟩
  | x :: xs, y :: ys, h => by
    obtain ⟨h1, h2⟩ := WkA.get h.2
    refine ⟨by simp [h1], fun j z hz => ?_⟩
    cases j with
    | zero => simp at hz; subst hz; exact ⟨x, rfl, h.1⟩
    | succ j => simpa using h2 j z (by simpa using hz)
  | [], _ :: _, h => h.elim
  | _ :: _, [], h => h.elim
theorem call_wk {c : Cx} {g : FuncId} {args args' : List V} {E : Env} {T : Heap} {K : V → St → Prop} (hw : WkA args args') (h : CallThen c g args' E T K) : CallThen c g args E T K := by
  unfold CallThen at *
  obtain ⟨hl, hg⟩ := hw.get
  refine ⟨h.1, fun w β H m a vals cs hs hlen hr => h.2 w β H m a vals cs hs (by omega) fun j y v hj hv => ?_⟩
  obtain ⟨x, hx, hxy⟩ := hg j y hj
  have h1 := hr j x v hx hv
  rcases hxy with rfl | ⟨p1, p2, hw⟩
  · exact h1
  · rw [pure_conv _ _ p1] at h1
    rw [pure_conv _ _ p2]
    exact hw _ _ _ _ h1
end Bow
/- SP84: what undoes an operation on a tree, in plain Lean. -/
namespace Bow
open Go

def outO (x : Tree) (o : OpT) : OpT :=
  bif o.kind == 1 then { noOp 2 with path := o.path ++ [o.at_] }
  else bif o.kind == 3 then backO o
  else bif o.kind == 4 then { noOp 4 with path := o.path, key := o.key, value := (attrP x.attrs o.key).1, gone := !(attrP x.attrs o.key).2 }
  else bif o.kind == 5 then { noOp 5 with path := o.path, label := x.label }
  else { noOp 6 with path := o.path, pieces := (invE x.text o.pieces).1 }
def ofP (x : Tree) (o : OpT) : List OpT × Int :=
  bif o.kind == 2 then (makeL o.path.dropLast (o.path.getLast?.getD 0) x, 0)
  else bif o.kind == 6 && !(decide ((invE x.text o.pieces).2 = 0)) then ([], (invE x.text o.pieces).2)
  else ([bareO (outO x o)], 0)
theorem backS_len (q to : List Int) (d a : Int) : (backS q to d a).to1.length = to.length ∧ (backS q to d a).q1.length = q.length := by
  unfold backS
  simp only
  constructor
  · cases (!decide (q = to) && within q to && decide (d < (to[q.length]?).getD 0)) <;> simp [incAt_len]
  · generalize (bif !decide (q = to) && within q to && decide (d < (to[q.length]?).getD 0) then incAt to q.length (-1) else to) = to1
    cases (!decide (q = to) && within to1 q && decide ((bif decide (q = to) && decide (d < a) then a - 1 else a) ≤ (q[to1.length]?).getD 0)) <;> simp [incAt_len]
theorem attr_len (key : List UInt8) : ∀ l : AttrL, (attrP l key).1.length ≤ attrLen l
  | [] => by simp [attrP]
  | (k, v) :: l => by
    have ih := attr_len key l
    unfold attrP at ih ⊢
    rw [List.find?_cons]
    have e : attrLen ((k, v) :: l) = k.length + v.length + attrLen l := rfl
    rw [e]
    cases decide (k = key) with
    | true => simp only; omega
    | false => simp only; omega
end Bow
/- W147: invert.of, seen to hand back rows of its own. -/
namespace Bow
open Go Go.Proofs

theorem opB_of {N : Base} {ns : Ns} {o : OpT} (h : NsOk N ns o) : OpB N (opN ns o) o := by
  refine ⟨_, _, _, rfl, .inr ⟨_, _, ?_, h.path⟩, .inr ⟨_, _, ?_, h.to⟩, .inr ⟨_, _, rfl, h.pieces⟩⟩
  · simp
  · simp
theorem nodeAt_weight (t : Tree) (p : List Int) : (nodeAt t p).weight ≤ t.weight + 10 := by
  unfold nodeAt
  cases h : atT t p with
  | none => exact Nat.le_trans (show Tree.weight zeroT0 ≤ 10 by decide) (by omega)
  | some s => have := atT_weight h; simp only [Option.getD_some]; omega
def OfQ (r : List OpT × Int) (x : V) (N : Base) : Prop := ∃ zs, zs.map Prod.snd = r.1 ∧ x = .tup [.sl 11 (zs.map Prod.fst), .int .i64 r.2] ∧ LB N zs
set_option pp.maxSteps 400 in
set_option maxRecDepth 100000 in
theorem w_ofN (t : Tree) (o : OpT) (ht : t.weight ≤ 40000) (ho : o.Ok) (hs : soundO o = true) : FunN Tryz.prog 32 [nodeV t, opV o] (OfQ (ofP (nodeAt t o.path) o)) := by
  refine funN_of_goes 60 Tryz.func32 rfl rfl rfl fun B => ?_
  show CallThen _ _ _ _ _ _
  refine call_pure (w_AtB t o.path ho.lt.path) rfl ?_
  rintro x rfl
  have hf : formedB o = true := by
    unfold soundO at hs
    exact (Bool.and_eq_true_iff.1 hs).1
  have hpl := may_len (formed_path hf)
  have hx1 := nodeAt_weight t o.path
  obtain ⟨x, hx⟩ : ∃ x, nodeAt t o.path = x := ⟨_, rfl⟩
  rw [hx] at hx1 ⊢
  have hwq := weight_eq x
  have hso : o.kind = 2 ∨ o.kind = 3 → o.path ≠ [] := fun h e => by
    unfold soundO at hs
    rw [hf, e] at hs
    rcases h with h | h <;> simp [h] at hs
  refine ⟨fun k1 => go 60 ?_, fun k1 => go 60 ?_⟩
  · have k1 := eq_of k1
    have e : ofP x o = ([bareO (outO x o)], 0) := by
      unfold ofP
      rw [k1]
      rfl
    have e2 : outO x o = { noOp 2 with path := o.path ++ [o.at_] } := by
      unfold outO
      rw [k1]
      rfl
    rw [e, e2]
    show CallThen _ _ _ _ _ _
    refine call_pure (w_Child o.path o.at_ ho.lt.path) rfl ?_
    rintro y rfl
    show CallThen _ _ _ _ _ _
    refine call_wk (args' := [opV { noOp 2 with path := o.path ++ [o.at_] }]) ⟨.inr ⟨rfl, rfl, Wk.agg ⟨.refl _, .refl _, .refl _, Wk.nil 1, .refl _, Wk.ff, .refl _, .refl _, .refl _, Wk.ff, Wk.nil 3, trivial⟩⟩, trivial⟩ ?_
    refine call_funN (w_BareN { noOp 2 with path := o.path ++ [o.at_] } ⟨by rw [List.length_append]; simp; omega, by simp [noOp], by simp [noOp], by simp [noOp], by simp [noOp], by simp [noOp]⟩) rfl ?_
    rintro y N ⟨ns, rfl, hns⟩ _ hN
    refine ⟨⟨rfl, trivial⟩, trivial, rfl, Ext.add _ _, rfl, rfl, ?_⟩
    exact ⟨rfl, .tup [.sl 11 [opN ns (bareO { noOp 2 with path := o.path ++ [o.at_] })], .int .i64 0], Wk.refl _, rfl, [(_, bareO { noOp 2 with path := o.path ++ [o.at_] })], rfl, rfl, fun z hz => by
      rw [List.mem_singleton.1 hz]
      exact opB_of (hns.ext (newPart_add (fun _ _ e => e) hN))⟩
  have k1 := ne_of k1
  refine ⟨fun k2 => go 60 ?_, fun k2 => go 60 ?_⟩
  · have k2 := eq_of k2
    have hne := hso (.inl k2)
    have e : ofP x o = (makeL o.path.dropLast (o.path.getLast hne) x, 0) := by
      unfold ofP
      rw [k2, List.getLast?_eq_some_getLast hne]
      rfl
    rw [e]
    show CallThen _ _ _ _ _ _
    refine call_pure (w_Parent o.path ho.lt.path hne) rfl ?_
    rintro y rfl
    show CallThen _ _ _ _ _ _
    refine call_funN (w_MakeN o.path.dropLast (o.path.getLast hne) x (by rw [List.length_dropLast]; omega)) rfl ?_
    rintro y N ⟨zs, h1, rfl, h2⟩ _ hN
    exact ⟨trivial, rfl, Ext.add _ _, rfl, _, Wk.refl _, rfl, zs, h1, rfl, fun z hz => (h2 z hz).ext (newPart_add (fun _ _ e => e) hN)⟩
  have k2 := ne_of k2
  refine ⟨fun k3 => go 60 ?_, fun k3 => go 60 ?_⟩
  · have k3 := eq_of k3
    have hne := hso (.inr k3)
    have e : ofP x o = ([bareO (outO x o)], 0) := by
      unfold ofP
      rw [k3]
      rfl
    have e2 : outO x o = backO o := by
      unfold outO
      rw [k3]
      rfl
    rw [e, e2]
    have hst := may_step (formed_path hf)
    have hgap := formed_gap hf (.inr k3)
    have hto : mayP o.to = true := by
      unfold formedB at hf
      rw [k3] at hf
      simpa using (Bool.and_eq_true_iff.1 (Bool.and_eq_true_iff.1 hf).2).2
    have hst2 := may_step hto
    have htl := may_len hto
    obtain ⟨bl1, bl2⟩ := backS_len o.path.dropLast o.to (o.path.getLast?.getD 0) o.at_
    show CallThen _ _ _ _ _ _
    refine call_pure (w_back o ho.lt hne (fun n hn => by have := hst n hn; unfold Mid; omega) (fun n hn => by have := hst2 n hn; unfold Mid; omega) (by unfold Mid; omega)) rfl ?_
    rintro y rfl
    show CallThen _ _ _ _ _ _
    refine call_wk (args' := [opV (backO o)]) ⟨.inl rfl, trivial⟩ ?_
    refine call_funN (w_BareN (backO o) ⟨by show (_ ++ _ : List Int).length ≤ _; rw [List.length_append, bl1]; simp; omega, by show (backS _ _ _ _).q1.length ≤ _; rw [bl2, List.length_dropLast]; omega, by simp [backO, noOp], by simp [backO, noOp], by simp [backO, noOp], by simp [backO, noOp]⟩) rfl ?_
    rintro y N ⟨ns, rfl, hns⟩ _ hN
    refine ⟨⟨rfl, trivial⟩, trivial, rfl, Ext.add _ _, rfl, rfl, ?_⟩
    exact ⟨rfl, .tup [.sl 11 [opN ns (bareO (backO o))], .int .i64 0], Wk.refl _, rfl, [(_, bareO (backO o))], rfl, rfl, fun z hz => by
      rw [List.mem_singleton.1 hz]
      exact opB_of (hns.ext (newPart_add (fun _ _ e => e) hN))⟩
  have k3 := ne_of k3
  refine ⟨fun k4 => go 60 ?_, fun k4 => go 60 ?_⟩
  · have k4 := eq_of k4
    have e : ofP x o = ([bareO (outO x o)], 0) := by
      unfold ofP
      rw [k4]
      rfl
    have e2 : outO x o = { noOp 4 with path := o.path, key := o.key, value := (attrP x.attrs o.key).1, gone := !(attrP x.attrs o.key).2 } := by
      unfold outO
      rw [k4]
      rfl
    rw [e, e2]
    have hal := attr_len o.key x.attrs
    show CallThen _ _ _ _ _ _
    refine call_pure (w_plainAttr x o.key (by omega)) rfl ?_
    rintro y rfl
    show CallThen _ _ _ _ _ _
    refine call_wk (args' := [opV { noOp 4 with path := o.path, key := o.key, value := (attrP x.attrs o.key).1, gone := !(attrP x.attrs o.key).2 }]) ⟨.inr ⟨rfl, rfl, Wk.agg ⟨by rw [k4]; exact .refl _, .refl _, .refl _, Wk.nil 1, .refl _, Wk.ff, .refl _, .refl _, .refl _, .refl _, Wk.nil 3, trivial⟩⟩, trivial⟩ ?_
    refine call_funN (w_BareN { noOp 4 with path := o.path, key := o.key, value := (attrP x.attrs o.key).1, gone := !(attrP x.attrs o.key).2 } ⟨ho.lt.path, by simp [noOp], by simp [noOp], ho.lt.key, by show (attrP x.attrs o.key).1.length ≤ _; omega, by simp [noOp]⟩) rfl ?_
    rintro y N ⟨ns, rfl, hns⟩ _ hN
    refine ⟨⟨rfl, trivial⟩, trivial, rfl, Ext.add _ _, rfl, rfl, ?_⟩
    exact ⟨rfl, .tup [.sl 11 [opN ns (bareO { noOp 4 with path := o.path, key := o.key, value := (attrP x.attrs o.key).1, gone := !(attrP x.attrs o.key).2 })], .int .i64 0], Wk.refl _, rfl, [(_, bareO { noOp 4 with path := o.path, key := o.key, value := (attrP x.attrs o.key).1, gone := !(attrP x.attrs o.key).2 })], rfl, rfl, fun z hz => by
      rw [List.mem_singleton.1 hz]
      exact opB_of (hns.ext (newPart_add (fun _ _ e => e) hN))⟩
  have k4 := ne_of k4
  refine ⟨fun k5 => go 60 ?_, fun k5 => go 60 ?_⟩
  · have k5 := eq_of k5
    have e : ofP x o = ([bareO (outO x o)], 0) := by
      unfold ofP
      rw [k5]
      rfl
    have e2 : outO x o = { noOp 5 with path := o.path, label := x.label } := by
      unfold outO
      rw [k5]
      rfl
    rw [e, e2]
    show CallThen _ _ _ _ _ _
    refine call_wk (args' := [opV { noOp 5 with path := o.path, label := x.label }]) ⟨.inr ⟨rfl, rfl, Wk.agg ⟨by rw [k5]; exact .refl _, .refl _, .refl _, Wk.nil 1, .refl _, Wk.ff, .refl _, .refl _, .refl _, Wk.ff, Wk.nil 3, trivial⟩⟩, trivial⟩ ?_
    refine call_funN (w_BareN { noOp 5 with path := o.path, label := x.label } ⟨ho.lt.path, by simp [noOp], by show x.label.length ≤ _; omega, by simp [noOp], by simp [noOp], by simp [noOp]⟩) rfl ?_
    rintro y N ⟨ns, rfl, hns⟩ _ hN
    refine ⟨⟨rfl, trivial⟩, trivial, rfl, Ext.add _ _, rfl, rfl, ?_⟩
    exact ⟨rfl, .tup [.sl 11 [opN ns (bareO { noOp 5 with path := o.path, label := x.label })], .int .i64 0], Wk.refl _, rfl, [(_, bareO { noOp 5 with path := o.path, label := x.label })], rfl, rfl, fun z hz => by
      rw [List.mem_singleton.1 hz]
      exact opB_of (hns.ext (newPart_add (fun _ _ e => e) hN))⟩
  have k5 := ne_of k5
  have k6 : o.kind = 6 := by
    rcases formed_kinds hf with h | h | h | h | h | h
    · exact absurd h k1
    · exact absurd h k2
    · exact absurd h k3
    · exact absurd h k4
    · exact absurd h k5
    · exact h
  refine ⟨fun k7 => go 60 ?_, fun k7 => go 60 ?_⟩
  rotate_left
  · exact absurd k6 (ne_of k7)
  clear k7
  show CallThen _ _ _ _ _ _
  refine call_pure (w_lInvert x.text o.pieces (by omega) ho.lt.pieces (fun p hp => ho.each p hp)) rfl ?_
  rintro y rfl
  refine ⟨fun k8 => go 60 ?_, fun k8 => go 60 ?_⟩
  · have k8 := ne_of' k8
    have e : ofP x o = ([], (invE x.text o.pieces).2) := by
      unfold ofP
      rw [k6, decide_eq_false k8]
      rfl
    rw [e]
    exact ⟨trivial, rfl, fun _ _ e => e, rfl, .tup [.sl 11 [], .int .i64 (invE x.text o.pieces).2], Wk.tup ⟨Wk.nil 11, .refl _, trivial⟩, rfl, [], rfl, rfl, fun z hz => by cases hz⟩
  have k8 := eq_of' k8
  have e : ofP x o = ([bareO (outO x o)], 0) := by
    unfold ofP
    rw [k6, decide_eq_true k8]
    rfl
  have e2 : outO x o = { noOp 6 with path := o.path, pieces := (invE x.text o.pieces).1 } := by
    unfold outO
    rw [k6]
    rfl
  rw [e, e2]
  have hr : (invE x.text o.pieces).1.length ≤ 1000000 := by
    unfold invE
    cases (applyE x.text o.pieces).2 == 0 with
    | false => simp
    | true =>
      cases hr : rightP (normP (invL x.text (normP o.pieces))) with
      | false => simp
      | true =>
        have := (rightP_ok hr).1
        simp only [cond_true]
        omega
  show CallThen _ _ _ _ _ _
  refine call_wk (args' := [opV { noOp 6 with path := o.path, pieces := (invE x.text o.pieces).1 }]) ⟨.inr ⟨rfl, rfl, Wk.agg ⟨by rw [k6]; exact .refl _, .refl _, .refl _, Wk.nil 1, .refl _, Wk.ff, .refl _, .refl _, .refl _, Wk.ff, .refl _, trivial⟩⟩, trivial⟩ ?_
  refine call_funN (w_BareN { noOp 6 with path := o.path, pieces := (invE x.text o.pieces).1 } ⟨ho.lt.path, by simp [noOp], by simp [noOp], by simp [noOp], by simp [noOp], hr⟩) rfl ?_
  rintro y N ⟨ns, rfl, hns⟩ _ hN
  refine ⟨⟨rfl, trivial⟩, trivial, rfl, Ext.add _ _, rfl, rfl, ?_⟩
  exact ⟨rfl, .tup [.sl 11 [opN ns (bareO { noOp 6 with path := o.path, pieces := (invE x.text o.pieces).1 })], .int .i64 0], Wk.refl _, rfl, [(_, bareO { noOp 6 with path := o.path, pieces := (invE x.text o.pieces).1 })], rfl, rfl, fun z hz => by
    rw [List.mem_singleton.1 hz]
    exact opB_of (hns.ext (newPart_add (fun _ _ e => e) hN))⟩
end Bow
/- AE76: a function whose named memory is read, and let go. -/
namespace Bow
open Go

theorem Fz.repTo {B : Base} {w : World} {β : Nat → Loc} {H H2 : Heap} (hrel : HRel w β H) (hB : ∀ q o, B q = some o → H[q]? = some (some o)) (f : Fr w β H w β H2) (hsub : ∀ (q : Nat) (o : HObj), H2[q]? = some (some o) → H[q]? = some (some o)) (hdead : ∀ (q : Nat) (o : HObj), B q = some o → ∀ o' : HObj, H2[q]? ≠ some (some o')) {x y : V} (h : Fz B x y) : ∀ {v : Value}, Rep w β H x v → Rep w β H2 y v := by
  have hdown : ∀ {b sz : Nat}, freeB β H b sz → freeB β H2 b sz := fun {b sz} k => ⟨fun ⟨r, M, ⟨o, ho, hn⟩, hb⟩ => k.1 ⟨r, M, ⟨o, hsub r o ho, hn⟩, hb⟩, fun r s M h hb => k.2 r s M (hsub r _ h) hb⟩
  have hfree : ∀ (q : Nat) (o : HObj) (b M : Nat), B q = some o → β q = .blk b M → ∀ sz, freeB β H2 b sz := fun q o b M hq hb sz => by
    have key : ∀ (r : Nat) (o' : HObj) (M' : Nat), H2[r]? = some (some o') → β r = .blk b M' → False := fun r o' M' hr hb' => by
      have := hrel.inj r q b M' M ⟨o', hsub r o' hr⟩ ⟨o, hB q o hq⟩ hb' hb
      subst this
      exact hdead r o hq o' hr
    exact ⟨fun ⟨r, M', ⟨o', hr, _⟩, hb'⟩ => key r o' M' hr hb', fun r s M' hr hb' => (key r _ M' hr hb').elim⟩
  induction h with
  | wk h => exact fun {v} hv => (h w β H v hv).mono f
  | row r g sz xs h =>
    intro v hv
    have hH := hB r _ h
    have hob := hrel.obj r _ hH
    have hvec : ∀ sz2 xs2, H[r]? = some (some (.vec g sz2 xs2)) → sz2 = sz ∧ xs2 = xs := fun sz2 xs2 h2 => by
      rw [hH] at h2
      injection h2 with h2
      injection h2 with h2
      injection h2 with _ e1 e2
      exact ⟨e1.symm, e2.symm⟩
    generalize hn : xs.length = n at hv
    cases hv with
    | oslNil _ _ sz2 xs2 ad hH' hβ =>
      rw [hβ] at hob
      have : xs = [] := hob
      subst this
      exact .sl sz [] ad 0 (fun _ => Go.undef) (Nat.le_refl _) (Nat.zero_le _) (by simp) (fun hne => absurd rfl hne) (fun i x j c hi => by simp at hi)
    | oslBlk _ _ _ _ sz2 xs2 b N ad cap hH' hβ hl hN hcap ha hlen =>
      obtain ⟨rfl, rfl⟩ := hvec _ _ hH'
      rw [hβ] at hob
      obtain ⟨vs, e, _, h1, h2, h3, h4, h5, h6⟩ := hob
      subst hn
      refine .sl sz2 xs2 ad cap (fun j => vs.getD j Go.undef) hl (by omega) h5 (fun hne => ?_) (fun i x j c hi hj => ?_)
      · have h0 : 0 < xs2.length := List.length_pos_iff.2 hne
        have := ha (by omega)
        subst this
        refine ⟨_, rfl, hfree r _ b _ h hβ _, (Array.getElem?_eq_some_iff.1 h1).1, fun j hj => ?_⟩
        have hjv : j < vs.size := by omega
        rw [Nat.zero_mul, at_add, cell_of_row w b j vs e (0, 0) h1]
        simp [hjv]
      · have hlt : i * sz2 + j < vs.size := by
          have e1 := lt_of_get hi
          have e2 := lt_of_get hj
          have e3 := (h5 x (List.mem_of_getElem? hi)).1
          have : (i + 1) * sz2 ≤ xs2.length * sz2 := Nat.mul_le_mul_right _ e1
          rw [Nat.add_mul] at this
          omega
        exact (h6 i x j c (vs.getD (i * sz2 + j) Go.undef) hi hj (by simp [hlt])).mono f
    | oslStale _ _ _ _ g' sz' xs' _ hH' hg =>
      rw [hH] at hH'
      injection hH' with hH'
      injection hH' with hH'
      injection hH' with e0 _ _
      omega
    | oslDead _ _ _ _ _ hd => rw [hH] at hd; cases hd
  | agg cs ds hl h ih =>
    intro v hv
    cases hv with
    | agg _ vs hl' h' =>
      refine .agg ds vs (hl.symm.trans hl') fun j d u hj hu => ?_
      have hjc : j < cs.length := by have := lt_of_get hj; omega
      exact ih j _ d (List.getElem?_eq_getElem hjc) hj (h' j _ u (List.getElem?_eq_getElem hjc) hu)
  | sl sz xs ys hl hy h ih =>
    intro v hv
    generalize hn : xs.length = n at hl
    generalize hq : V.sl sz xs = q at hv
    cases hv with
    | sl sz' xs' a cap vals hcap hmax hsz ha hr =>
      injection hq with e1 e2
      subst e1 e2
      rw [hn, hl]
      refine .sl sz ys a cap vals (by omega) hmax hy (fun hne => ?_) (fun i y j d hi hj => ?_)
      · obtain ⟨ad, k1, k2, k3, k4⟩ := ha (fun e => hne (by rw [e] at hn; exact List.length_eq_zero_iff.1 (by simp at hn; omega)))
        exact ⟨ad, k1, hdown k2, k3, fun j hj => k4 j (by rw [hn, hl]; exact hj)⟩
      · have hix : i < xs.length := by have := lt_of_get hi; omega
        have hx := List.getElem?_eq_getElem hix
        have hc1 := (hsz _ (List.mem_of_getElem? hx)).1
        have hc2 := (hy _ (List.mem_of_getElem? hi)).1
        have hjx : j < (xs[i]).cells.length := by have := lt_of_get hj; omega
        exact ih i _ y j _ d hx hi (List.getElem?_eq_getElem hjx) hj (hr i _ j _ hx (List.getElem?_eq_getElem hjx))
    | _ => cases hq

theorem letGo2 {w : World} {β : Nat → Loc} {H : Heap} {B N : Base} (h : SRel [] 0 w β H [] ⟨[], [], B.add N, []⟩ bare) (hn : ∀ q o, N q = some o → B q = none) : ∃ H2 : Heap, SRel [] 0 w β H2 [] ⟨[], [], B, []⟩ bare ∧ Fr w β H w β H2 ∧ (∀ (q : Nat) (o : HObj), H2[q]? = some (some o) → H[q]? = some (some o)) ∧ ∀ (q : Nat) (o : HObj), N q = some o → ∀ o' : HObj, H2[q]? ≠ some (some o') := by
  have hH : ∀ q, q < H.length → H[q]? = some ((B.add N) q) := fun q hq => h.base q hq (by simp)
  obtain ⟨H2, hH2⟩ : ∃ H2 : Heap, H2 = (List.range H.length).map B := ⟨_, rfl⟩
  have hl : H2.length = H.length := by rw [hH2]; simp
  have hg : ∀ q, q < H.length → H2[q]? = some (B q) := fun q hq => by rw [hH2]; simp [hq]
  have hsub : ∀ q o, H2[q]? = some (some o) → H[q]? = some (some o) := fun q o hq => by
    have hlt : q < H.length := by rw [← hl]; exact lt_of_get hq
    rw [hg q hlt] at hq
    injection hq with hq
    rw [hH q hlt, Ext.add B N q o hq]
  have f : Fr w β H w β H2 := by
    refine ⟨⟨rfl, rfl, rfl, Nat.le_refl _, by rw [hl]; exact Nat.le_refl _, fun r o' _ ho => ⟨o', hsub r o' ho, Evo.refl _, fun _ _ => rfl⟩, fun _ _ _ => rfl, ?_, fun _ _ => rfl, fun r s hs => ⟨hsub r _ hs, rfl⟩⟩, fun _ _ h => h⟩
    rintro b ⟨r, M, ⟨o, ho, hn⟩, hb⟩
    exact .inr ⟨r, M, ⟨o, hsub r o ho, hn⟩, hb⟩
  refine ⟨H2, ⟨?_, rfl, fun k => by simp [lk, V.conv]; exact .undef _, rfl, List.nodup_nil, by simp, rfl, fun r hr _ => ?_, fun r hr => ?_, by simp, by simp, by simp, rfl, by simp⟩, f, hsub, fun q o hq o' ho' => ?_⟩
  rotate_left 3
  · have hlt : q < H.length := by rw [← hl]; exact lt_of_get ho'
    rw [hg q hlt, hn q o hq] at ho'
    cases ho'
  · refine h.hrel.step f (fun r o ho => .inl ⟨hsub r o ho, rfl, fun _ _ _ => rfl⟩) ?_
    rintro r r' b M M' ⟨o, ho⟩ ⟨o', ho'⟩ hb hb'
    exact h.hrel.inj r r' b M M' ⟨o, hsub r o ho⟩ ⟨o', hsub r' o' ho'⟩ hb hb'
  · exact hg r (by rw [← hl]; exact hr)
  · have h1 : (B.add N) r = none := h.fut r (by rw [← hl]; exact hr)
    show B r = none
    cases hb : B r with
    | none => rfl
    | some o => rw [Ext.add B N r o hb] at h1; cases h1
/-- .. or a tuple of such. -/
def FzTo (N : Base) (x y : V) : Prop := Fz N x y ∨ ∃ xs ys, x = .tup xs ∧ y = .tup ys ∧ FzL N xs ys
theorem FzTo.repTo {B : Base} {w : World} {β : Nat → Loc} {H H2 : Heap} (hrel : HRel w β H) (hB : ∀ q o, B q = some o → H[q]? = some (some o)) (f : Fr w β H w β H2) (hsub : ∀ (q : Nat) (o : HObj), H2[q]? = some (some o) → H[q]? = some (some o)) (hdead : ∀ (q : Nat) (o : HObj), B q = some o → ∀ o' : HObj, H2[q]? ≠ some (some o')) {x y : V} (h : FzTo B x y) {v : Value} (hv : Rep w β H x v) : Rep w β H2 y v := by
  rcases h with h | ⟨xs, ys, rfl, rfl, h⟩
  · exact h.repTo hrel hB f hsub hdead hv
  · cases hv with
    | tup _ vs hl hr =>
      obtain ⟨h1, h2⟩ := h.get
      refine .tup ys vs (h1.symm.trans hl) fun j d u hj hu => ?_
      obtain ⟨x, hx, hf⟩ := h2 j d hj
      exact hf.repTo hrel hB f hsub hdead (hr j x u hx hu)
theorem pure_of_funNF {P : Program} {g : FuncId} {args : List V} {Q : V → Prop} (h : FunN P g args fun x N => ∃ y, FzTo N x y ∧ y.pureB = true ∧ Q y) (ha : V.pureL args = true) : Pure P g args Q := by
  unfold FunN at h
  unfold Pure Fun
  refine ⟨h.1, fun w β H m B vals cs hs hl hr => ?_⟩
  have hm : m = [] := List.length_eq_zero_iff.1 hs.mlen
  subst hm
  obtain ⟨x, N, v, w', β', H', fr, ⟨y, hy, hyp, hq⟩, hN, k1, k2, k3, k4, k5⟩ := h.2 w β H B vals cs hs hl (fun j x v hj hv => by
    have h1 := hr j x v hj hv
    rwa [pure_conv _ _ (pureL_mem _ ha x (List.mem_of_getElem? hj))] at h1)
  obtain ⟨H2, e1, e2, e3, e4⟩ := letGo2 k1 hN
  have hNH : ∀ q o, N q = some o → H'[q]? = some (some o) := fun q o h => by
    have h1 : (B.add N) q = some o := add_new h (hN q o h)
    have hlt : q < H'.length := by
      rcases Nat.lt_or_ge q H'.length with h | h
      · exact h
      · have := k1.fut q h
        simp only at this
        rw [h1] at this
        cases this
    have h2 := k1.base q hlt (by simp)
    simp only at h2
    rw [h2, h1]
  exact ⟨y, [], v, w', β', H2, [], fr, ⟨rfl, hyp, hq⟩, e1, k2.trans e2, by rw [pure_conv _ _ hyp]; exact hy.repTo k1.hrel hNH e2 e3 e4 k3, k5⟩
end Bow
/- SP40: trees as what names unfold to: whose children are which, and what stands at each. -/
namespace Bow
open Go

section
variable {α : Type}
/-! ### Paths -/
end
end Bow
/- SP41: a change at a node, seen by names. -/
namespace Bow
open Go

section
variable {α : Type}
end
end Bow
/- SP42: nodes taken out, put in, changed, seen by names. -/
namespace Bow
open Go

section
variable {α : Type}
section
variable [DecidableEq α]
end
end
end Bow
/- SP43: what an operation does to the lists of children, by names; where a child stands then. -/
namespace Bow
open Go

section
variable {α : Type} [DecidableEq α]
end
end Bow
/- SP44: two changes of the lists of children, one behind the other, and the other way round. -/
namespace Bow
open Go

section
variable {α : Type} [DecidableEq α]
end
end Bow
/- SP45: where nodes and gaps are behind an operation: the same names. -/
namespace Bow
open Go

section
variable {α : Type} [DecidableEq α]
end
end Bow
