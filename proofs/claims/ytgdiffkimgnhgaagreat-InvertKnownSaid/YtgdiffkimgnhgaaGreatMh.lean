/- The library, part 8: SP46, SP47, SP48, SP49, SP50, SP51, SP52, SP53, SP54, SP55, SP56, SP57, SP62, SP63, SP64, W148, SP85, W149, W150, AE77, W151, W102, W152, W153, W154, W155, W156, W157, W158, W88, W159, TD1, TD2. -/
import Derived.Test.YtgdiffkimgnhgaaGreatMg
import Derived.Test.YtgdiffkimgnhgaaGreatMf
import Derived.Test.YtgdiffkimgnhgaaGreatMd
import Derived.Test.YtgdiffkimgnhgaaGreatMe
import Derived.Test.YtgdiffkimgnhgaaGreatMc
import Derived.Test.YtgdiffkimgnhgaaGreatRows
import Derived.ChangeShapes
/- SP46: nodes' paths and gaps behind an operation lead to the same names. -/
namespace Bow
open Go

section
variable {α : Type} [DecidableEq α]
end
end Bow
/- SP47: what becomes of a tree, by names. -/
namespace Bow
open Go

section
variable {α : Type} [DecidableEq α]
end
end Bow
/- SP48: operations that are valid, by names; one behind another one. -/
namespace Bow
open Go

section
variable {α : Type} [DecidableEq α]
end
end Bow
/- SP49: an operation behind another one, by names: it does what it did. -/
namespace Bow
open Go

section
variable {α : Type} [DecidableEq α]
end
end Bow
/- SP50: both ways round, by names: two that take out and put in; a deletion, and what is below it. -/
namespace Bow
open Go

section
variable {α : Type} [DecidableEq α]
end
end Bow
/- SP51: two attributes set, one behind the other. -/
namespace Bow
open Go

end Bow
/- SP52: both ways round, by names: what stands at nodes is turned; a deletion, and what is below it. -/
namespace Bow
open Go

section
variable {α : Type} [DecidableEq α]
end
end Bow
/- SP53: both ways round, by names: the same node moved by both; a deletion, and what the other one does below it. -/
namespace Bow
open Go

section
variable {α : Type} [DecidableEq α]
/-! ### Below a node that is deleted -/
end
end Bow
/- SP54: both ways round, by names: a deletion, and what the other one does at or below the node. -/
namespace Bow
open Go

section
variable {α : Type} [DecidableEq α]
end
end Bow
/- SP55: both ways round, by names: a move out of what is deleted, and a move into it. -/
namespace Bow
open Go

section
variable {α : Type} [DecidableEq α]
end
end Bow
/- SP56: a move undone, by names. -/
namespace Bow
open Go

section
variable {α : Type} [DecidableEq α]
end
end Bow
/- SP57: two moves, each of which would bring the other one's node below its own: one is undone. -/
namespace Bow
open Go

section
variable {α : Type} [DecidableEq α]
end
end Bow
/- SP62: two edits of one leaf; any two operations, both ways round: the same tree. -/
namespace Bow
open Go

section
variable {α : Type} [DecidableEq α]
/-! ### Any two -/
end
end Bow
/- SP63: any two operations that are valid on a tree, both ways round, by names: the same tree. -/
namespace Bow
open Go

section
variable {α : Type} [DecidableEq α]
end
end Bow
/- SP64: names for any tree; two operations and two lists, both ways round: the same tree. -/
namespace Bow
open Go

/-! ### Names: paths, and two new ones -/
/-! ### What a list comes to -/
/-! ### Two operations -/
theorem valid_sound {t : Tree} {o : OpT} (h : ValidE t o = 0) : soundO o = true := by
  have hf := (valid_right h).2.1
  unfold soundO
  rw [hf]
  cases good_of h with
  | ins y hk => simp [hk]
  | del x hk hne =>
    have := List.length_pos_iff.2 hne
    simp [hk, this]
  | mov x z hk hne hx hw =>
    have := List.length_pos_iff.2 hne
    simp [hk, this, hw]
  | att y hk => simp [hk]
  | lab y hk => simp [hk]
  | edt y hk => simp [hk]
/-! ### Two lists -/
end Bow
/- W148: invert.of, invert.Of. -/
namespace Bow
open Go Go.Proofs

theorem fz_nrow {N : Base} {x : V} {xs : List Int} (h : NRow N x (xs.map intV)) : Fz N x (pathV xs) := by
  rcases h with ⟨h, rfl⟩ | ⟨q, g, rfl, h⟩
  · rw [show pathV xs = .sl 1 [] from congrArg (V.sl 1) h]
    exact .wk (.refl _)
  · exact .row q g 1 _ h
theorem fz_pieces {N : Base} {x : V} {l : List PieceT} (h : x = piecesV l ∨ ∃ q g, x = .osl (.abs q) g 0 (l.map pieceV).length ∧ N q = some (.vec g 3 (l.map pieceV))) : Fz N x (piecesV l) := by
  rcases h with rfl | ⟨q, g, rfl, h⟩
  · exact .wk (.refl _)
  · exact .row q g 3 _ h
theorem fz_opBc {N : Base} {o : OpT} {xp xt xs : V} (h1 : Fz N xp (pathV o.path)) (h2 : Fz N xt (pathV o.to)) (h3 : Fz N xs (piecesV o.pieces)) : ∀ (j : Nat) (c d : V), [V.int .u8 o.kind, xp, .int .i64 o.at_, xt, .int .u64 o.id, .bool o.leaf, .str o.label, .str o.key, .str o.value, .bool o.gone, xs][j]? = some c → (opV o).cells[j]? = some d → Fz N c d
  | 0, c, d, hc, hd => by cases hc; cases hd; exact .wk (.refl _)
  | 1, c, d, hc, hd => by cases hc; cases hd; exact h1
  | 2, c, d, hc, hd => by cases hc; cases hd; exact .wk (.refl _)
  | 3, c, d, hc, hd => by cases hc; cases hd; exact h2
  | 4, c, d, hc, hd => by cases hc; cases hd; exact .wk (.refl _)
  | 5, c, d, hc, hd => by cases hc; cases hd; exact .wk (.refl _)
  | 6, c, d, hc, hd => by cases hc; cases hd; exact .wk (.refl _)
  | 7, c, d, hc, hd => by cases hc; cases hd; exact .wk (.refl _)
  | 8, c, d, hc, hd => by cases hc; cases hd; exact .wk (.refl _)
  | 9, c, d, hc, hd => by cases hc; cases hd; exact .wk (.refl _)
  | 10, c, d, hc, hd => by cases hc; cases hd; exact h3
  | j + 11, c, d, hc, hd => by cases hc
theorem fz_LB {N : Base} {zs : List (V × OpT)} {l : List OpT} (h : LB N zs) (e : zs.map Prod.snd = l) : Fz N (.sl 11 (zs.map Prod.fst)) (opsV l) := by
  subst e
  refine .sl 11 _ _ (by simp) (fun y hy => ?_) fun i x y j c d hx hy hc hd => ?_
  · obtain ⟨o, _, rfl⟩ := List.mem_map.1 hy
    exact ⟨rfl, rfl⟩
  · rw [List.getElem?_map, Option.map_eq_some_iff] at hx hy
    obtain ⟨z, hz, rfl⟩ := hx
    obtain ⟨o, ho, rfl⟩ := hy
    rw [List.getElem?_map, hz] at ho
    injection ho with ho
    subst ho
    have := h z (List.mem_of_getElem? hz)
    obtain ⟨xp, xt, xs, e, h1, h2, h3⟩ := this.ex
    rw [e] at hc
    exact fz_opBc (fz_nrow h1) (fz_nrow h2) (fz_pieces h3) j c d hc hd
def ofV (r : List OpT × Int) : V := .tup [opsV r.1, .int .i64 r.2]
theorem ofQ_fz {r : List OpT × Int} {x : V} {N : Base} (h : OfQ r x N) : ∃ y, FzTo N x y ∧ y.pureB = true ∧ y = ofV r := by
  obtain ⟨zs, h1, rfl, h2⟩ := h
  exact ⟨ofV r, .inr ⟨_, [opsV r.1, .int .i64 r.2], rfl, rfl, fz_LB h2 h1, .wk (.refl _), trivial⟩, rfl, rfl⟩
theorem w_of (t : Tree) (o : OpT) (ht : t.weight ≤ 40000) (ho : o.Ok) (hs : soundO o = true) : Pure Tryz.prog 32 [nodeV t, opV o] (fun x => x = ofV (ofP (nodeAt t o.path) o)) :=
  pure_of_funNF ((w_ofN t o ht ho hs).mono fun _ _ h => ofQ_fz h) rfl

def OfP (t : Tree) (o : OpT) : List OpT × Int := bif decide (ValidE t o = 0) then ofP (nodeAt t o.path) o else ([], ValidE t o)
set_option maxRecDepth 100000 in
theorem w_OfN (t : Tree) (o : OpT) (ht : t.weight ≤ 40000) (ho : o.Ok) : FunN Tryz.prog 16 [nodeV t, opV o] (OfQ (OfP t o)) := by
  refine funN_of_goes 60 Tryz.func16 rfl rfl rfl fun B => ?_
  show CallThen _ _ _ _ _ _
  refine call_pure (w_Valid t o (by omega) ho) rfl ?_
  rintro x rfl
  refine ⟨fun k1 => go 60 ?_, fun k1 => go 60 ?_⟩
  · have k1 := ne_of' k1
    have e : OfP t o = ([], ValidE t o) := by
      unfold OfP
      rw [decide_eq_false k1]
      rfl
    rw [e]
    exact ⟨trivial, rfl, fun _ _ e => e, rfl, .tup [.sl 11 [], .int .i64 (ValidE t o)], Wk.tup ⟨Wk.nil 11, .refl _, trivial⟩, rfl, [], rfl, rfl, fun z hz => by cases hz⟩
  · have k1 := eq_of' k1
    have e : OfP t o = ofP (nodeAt t o.path) o := by
      unfold OfP
      rw [decide_eq_true k1]
      rfl
    rw [e]
    show CallThen _ _ _ _ _ _
    refine call_funN (w_ofN t o ht ho (valid_sound k1)) rfl ?_
    rintro x N ⟨zs, h1, rfl, h2⟩ _ hN
    exact ⟨trivial, rfl, Ext.add _ _, rfl, _, Wk.refl _, rfl, zs, h1, rfl, fun z hz => (h2 z hz).ext (newPart_add (fun _ _ e => e) hN)⟩
theorem w_Of (t : Tree) (o : OpT) (ht : t.weight ≤ 40000) (ho : o.Ok) : Pure Tryz.prog 16 [nodeV t, opV o] (fun x => x = ofV (OfP t o)) :=
  pure_of_funNF ((w_OfN t o ht ho).mono fun _ _ h => ofQ_fz h) rfl
end Bow
/- SP85: the making of a node, kid by kid. -/
namespace Bow
open Go

def kidsL (q : List Int) (ss : List Tree) : List OpT := (treesP q 0 ss).flatMap mkOps
theorem treesP_snoc (p : List Int) (s : Tree) : ∀ (l : List Tree) (k : Nat), treesP p k (l ++ [s]) = treesP p k l ++ s.withP (p ++ [((k + l.length : Nat) : Int)])
  | [], k => by simp [treesP]
  | t :: l, k => by
    rw [List.cons_append, treesP, treesP, treesP_snoc p s l (k + 1), List.append_assoc, List.length_cons, show k + 1 + l.length = k + (l.length + 1) by omega]
theorem kidsL_snoc (q : List Int) (s : Tree) (l : List Tree) : kidsL q (l ++ [s]) = kidsL q l ++ makeL q l.length s := by
  unfold kidsL makeL
  rw [treesP_snoc, List.flatMap_append, Nat.zero_add]
theorem makeL_eq (p : List Int) (a : Int) (t : Tree) : makeL p a t = mkOps (p ++ [a], t) ++ kidsL (p ++ [a]) t.subs := by
  cases t
  unfold makeL kidsL
  rw [Tree.withP, List.flatMap_cons]
  rfl
end Bow
/- W149: the making of a node by the document: bowerref09.Make. -/
namespace Bow
open Go Go.Proofs

structure RowM (os : List OpT) (xs : List V) : Prop where
  wk : WkE 11 xs (os.map opV)
  pure : V.pureL xs = true
theorem RowM.len {os : List OpT} {xs : List V} (h : RowM os xs) : xs.length = os.length := by
  have := h.wk.len
  rw [List.length_map] at this
  exact this.symm
theorem pureLapp : ∀ {xs ys : List V}, V.pureL xs = true → V.pureL ys = true → V.pureL (xs ++ ys) = true
  | [], _, _, k => k
  | x :: xs, ys, h, k => by
    rw [V.pureL, Bool.and_eq_true] at h
    rw [List.cons_append, V.pureL, h.1, pureLapp h.2 k]
    rfl
theorem RowM.app {os us : List OpT} {xs ys : List V} (h : RowM os xs) (k : RowM us ys) : RowM (os ++ us) (xs ++ ys) := ⟨by rw [List.map_append]; exact wkE_app h.wk k.wk, pureLapp h.pure k.pure⟩
theorem RowM.one {o : OpT} {x : V} (h : WkL x.cells (opV o).cells) (hp : x.pureB = true) : RowM [o] [x] := ⟨⟨⟨h, ⟨rfl, rfl⟩⟩, trivial⟩, by rw [V.pureL, hp]; rfl⟩
theorem RowM.refl : ∀ os : List OpT, RowM os (os.map opV)
  | [] => ⟨trivial, rfl⟩
  | o :: os => (RowM.one (o := o) (WkL.refl _) rfl).app (RowM.refl os)
theorem weightsTake : ∀ (l : List Tree) (i : Nat), weights (l.take i) ≤ weights l
  | [], i => by simp
  | s :: l, 0 => Nat.zero_le _
  | s :: l, i + 1 => by
    have := weightsTake l i
    rw [List.take_succ_cons, weights, weights]
    omega
set_option pp.maxSteps 400 in
set_option maxRecDepth 100000 in
theorem w_refMake (t : Tree) : ∀ (p : List Int) (at_ : Int), p.length + t.weight ≤ 100000 → Pure Tryz.prog 28 [pathV p, intV at_, nodeV t] (fun x => x = opsV (makeL p at_ t)) := by
  induction t using Tree.ind with
  | _ t ih =>
  intro p at_ hw
  have hal := attrs_le_weight t
  have hsl := subs_le_weight t
  have hsz := size_le_weight t
  obtain ⟨q, hq⟩ : ∃ q, p ++ [at_] = q := ⟨_, rfl⟩
  have hql : q.length ≤ 100001 := by rw [← hq, List.length_append]; simp; omega
  refine pure_wk (pure_fn 60 Tryz.func28 rfl rfl rfl fun B => ?_)
  rw [makeL_eq, hq]
  show CallThen _ _ _ _ _ _
  refine call_pure (w_refChild4 p at_ (by omega)) rfl ?_
  rw [hq]
  rintro x rfl
  show Goes _ (.code (.region _ _ true) :: _) _ _
  refine goes_drawX [] 60 ?_
  refine ⟨_, w_refCopied p (by omega), rfl, ?_⟩
  refine ⟨rfl, ⟨rfl, trivial⟩, rfl, ?_⟩
  refine ⟨by kernel_rfl, ?_⟩
  show Goes _ _ _ _
  refine goes_iter (ι := Nat × Nat × List V) (fun i => i.1 ≤ t.attrs.length ∧ RowM (kInsO (q, t) :: (t.attrs.take i.1).map (kAttO q)) i.2.2) (fun i => t.attrs.length - i.1)
    (fun i => [(9, .int .i64 i.1), (8, .osl (.loc 1) i.2.1 0 i.2.2.length), (7, pathV q), (5, .ptr (.loc 0) 0)]) (fun i => [some (.box (nodeV t).cells), some (.vec i.2.1 11 i.2.2)]) (0, 2, _) 60 (fun _ => rfl) (fun _ => rfl)
    ⟨⟨Nat.zero_le _, RowM.one ?_ ?_⟩, ⟨⟨rfl, rfl⟩, ⟨rfl, rfl⟩, ⟨rfl, rfl⟩, ⟨rfl, rfl⟩, trivial⟩, ⟨⟨rfl, rfl⟩, ⟨rfl, rfl⟩, trivial⟩⟩ ?_
  · have hk : kInsO (q, t) = { noOp 1 with path := p, at_ := at_, id := t.id, leaf := t.leaf, label := t.label } := by
      rw [← hq]
      simp [kInsO]
    rw [hk]
    exact ⟨.refl _, .refl _, .refl _, Wk.nil 1, .refl _, .refl _, .refl _, .refl _, .refl _, Wk.ff, Wk.nil 3, trivial⟩
  · rfl
  rintro ⟨i, g, xs⟩ ⟨k1, k2⟩ next
  simp only at k1 k2
  refine ⟨fun hlt => go 60 ?_, fun hge => go 60 ?_⟩
  · have hi : i < t.attrs.length := by have := lt_of hlt; simp at this; omega
    have hx : (t.attrs.map attrV)[((i : Nat) : Int).toNat]? = some (attrV t.attrs[i]) := by simp [hi]
    have htk : t.attrs.take (i + 1) = t.attrs.take i ++ [t.attrs[i]] := List.take_succ_eq_append_getElem hi
    have hlen := k2.len
    rw [List.length_cons, List.length_map, List.length_take] at hlen
    generalize t.attrs[i] = a at hx htk
    show Goes _ (.code (.region _ _ true) :: _) _ _
    refine goes_drawX [] 60 ?_
    refine ⟨_, w_refCopied q (by omega), rfl, Int.natCast_nonneg i, _, hx, Int.natCast_nonneg i, _, hx, ?_⟩
    refine ⟨rfl, ⟨rfl, trivial⟩, rfl, rfl, rfl, ?_⟩
    refine ⟨rfl, rfl, Nat.le_trans (Nat.mul_le_mul_right _ (show _ ≤ 1000001 by simp only [List.length_cons, List.length_nil]; omega)) (by decide), ?_⟩
    refine ⟨by kernel_rfl, ?_⟩
    refine ⟨by constructor <;> omega, ?_⟩
    show Goes _ _ _ _
    refine next (i + 1, bump g, _) _ _ ⟨⟨hi, ?_⟩, by simp only; omega, ⟨⟨rfl, rfl⟩, ⟨?_, rfl⟩, ⟨rfl, rfl⟩, ⟨rfl, rfl⟩, trivial⟩, ⟨⟨rfl, rfl⟩, ⟨rfl, rfl⟩, trivial⟩⟩
    rotate_left
    · exact congrArg (V.osl (.loc 1) (bump g) 0) (by simp)
    · simp only
      rw [htk, List.map_append]
      exact k2.app (RowM.one (o := kAttO q a) ⟨.refl _, .refl _, .refl _, Wk.nil 1, .refl _, Wk.ff, .refl _, .refl _, .refl _, Wk.ff, Wk.nil 3, trivial⟩ rfl)
  · have hi : i = t.attrs.length := by have := not_lt_of hge; simp at this; omega
    subst hi
    rw [List.take_length] at k2
    have hlen := k2.len
    rw [List.length_cons, List.length_map] at hlen
    refine ⟨fun ht => go 60 ?_, fun ht => go 60 ?_⟩
    · have htx : t.text ≠ [] := fun e => by rw [e] at ht; simp at ht
      have hmk : mkOps (q, t) = kInsO (q, t) :: t.attrs.map (kAttO q) ++ [kTxtO q t.text] := by
        simp only [mkOps, decide_eq_false htx, cond_false]
      show Goes _ (.code (.region _ _ true) :: _) _ _
      refine goes_drawX [] 60 ?_
      refine ⟨_, w_refCopied q (by omega), rfl, ?_⟩
      refine ⟨rfl, ⟨rfl, trivial⟩, rfl, rfl, rfl, rfl, ⟨rfl, trivial⟩, rfl, rfl, rfl, rfl, rfl, Nat.le_trans (Nat.mul_le_mul_right _ (show _ ≤ 1000001 by simp only [List.length_cons, List.length_nil]; omega)) (by decide), ?_⟩
      refine ⟨by kernel_rfl, ?_⟩
      show Goes _ _ _ _
      have hrow : RowM (mkOps (q, t) ++ kidsL q (t.subs.take 0)) (xs ++ [.agg [.int .u8 6, pathV q, .int .i64 0, .nilsl, .int .u64 0, .ff, .str [], .str [], .str [], .ff, .sl 3 [pieceV ⟨0, 0, t.text⟩]]]) := by
        rw [hmk, List.take_zero]
        exact (List.append_nil _).symm ▸ k2.app (RowM.one (o := kTxtO q t.text) ⟨.refl _, .refl _, .refl _, Wk.nil 1, .refl _, Wk.ff, .refl _, .refl _, .refl _, Wk.ff, .refl _, trivial⟩ rfl)
      refine goes_iter (ι := Nat × Nat × List V) (fun i => i.1 ≤ t.subs.length ∧ RowM (mkOps (q, t) ++ kidsL q (t.subs.take i.1)) i.2.2) (fun i => t.subs.length - i.1)
        (fun i => [(10, .int .i64 i.1), (8, .osl (.loc 1) i.2.1 0 i.2.2.length), (7, pathV q), (5, .ptr (.loc 0) 0)]) (fun i => [some (.box (nodeV t).cells), some (.vec i.2.1 11 i.2.2)]) (0, bump g, _) 60 (fun _ => rfl) (fun _ => rfl)
        ⟨⟨Nat.zero_le _, hrow⟩, ⟨⟨rfl, rfl⟩, ⟨?_, rfl⟩, ⟨rfl, rfl⟩, ⟨rfl, rfl⟩, trivial⟩, ⟨⟨rfl, rfl⟩, ⟨rfl, rfl⟩, trivial⟩⟩ ?_
      · first | rfl | exact congrArg (V.osl (.loc 1) (bump g) 0) (by simp)
      rintro ⟨i, g, xs⟩ ⟨k1, k2⟩ next
      simp only at k1 k2
      refine ⟨fun hlt => go 60 ?_, fun hge => go 60 ?_⟩
      · have hi : i < t.subs.length := by have := lt_of hlt; simp [subV_eq] at this; omega
        have hx : t.subV[((i : Nat) : Int).toNat]? = some (nodeV t.subs[i]) := by simp [subV_eq, hi]
        have hmem := List.getElem_mem hi
        have hwm := weight_mem hmem
        have hwt := weight_eq t
        have hih := ih _ hmem q i (by rw [← hq, List.length_append]; simp; omega)
        have htk : t.subs.take (i + 1) = t.subs.take i ++ [t.subs[i]] := List.take_succ_eq_append_getElem hi
        have hks := kidsL_snoc q t.subs[i] (t.subs.take i)
        rw [List.length_take, Nat.min_eq_left (by omega)] at hks
        generalize t.subs[i] = s at hx htk hmem hwm hih hks
        refine ⟨Int.natCast_nonneg i, _, hx, ?_⟩
        show CallThen _ _ _ _ _ _
        refine call_pure hih rfl ?_
        rintro x rfl
        have hlen := k2.len
        have h1 := mkOps_len (q, t)
        have h2 := maks_len q 0 (t.subs.take i)
        have h3 := weightsTake t.subs i
        have h4 := mak_len (q ++ [(i : Int)]) s
        rw [List.length_append] at hlen
        simp only at h1
        have h5 : (kidsL q (t.subs.take i)).length = ((treesP q 0 (t.subs.take i)).flatMap mkOps).length := rfl
        have h6 : (makeL q i s).length = ((s.withP (q ++ [(i : Int)])).flatMap mkOps).length := rfl
        refine ⟨rfl, rfl, Nat.le_trans (Nat.mul_le_mul_right _ (show _ ≤ 1000001 by simp only [List.length_map]; omega)) (by decide), ?_⟩
        refine ⟨by constructor <;> omega, ?_⟩
        show Goes _ _ _ _
        refine next (i + 1, bump g, xs ++ (makeL q i s).map opV) _ _ ⟨⟨hi, ?_⟩, by simp only; omega, ⟨⟨rfl, rfl⟩, ⟨?_, rfl⟩, ⟨rfl, rfl⟩, ⟨rfl, rfl⟩, trivial⟩, ⟨⟨rfl, rfl⟩, ⟨rfl, rfl⟩, trivial⟩⟩
        · simp only
          rw [htk, hks, ← List.append_assoc]
          exact k2.app (RowM.refl _)
        · exact congrArg (V.osl (.loc 1) (bump g) 0) (by simp)
      · have hi : i = t.subs.length := by have := not_lt_of hge; simp [subV_eq] at this; omega
        subst hi
        rw [List.take_length] at k2
        refine ⟨trivial, rfl, rfl, rfl, rfl, rfl, _, Wk.sl k2.wk, rfl, rfl⟩
    · have htx : t.text = [] := by simpa using ht
      have hmk : mkOps (q, t) = kInsO (q, t) :: t.attrs.map (kAttO q) := by
        simp only [mkOps, htx, decide_true, cond_true, List.append_nil]
      show Goes _ _ _ _
      have hrow : RowM (mkOps (q, t) ++ kidsL q (t.subs.take 0)) xs := by rw [hmk, List.take_zero]; exact (List.append_nil _).symm ▸ k2
      refine goes_iter (ι := Nat × Nat × List V) (fun i => i.1 ≤ t.subs.length ∧ RowM (mkOps (q, t) ++ kidsL q (t.subs.take i.1)) i.2.2) (fun i => t.subs.length - i.1)
        (fun i => [(10, .int .i64 i.1), (8, .osl (.loc 1) i.2.1 0 i.2.2.length), (7, pathV q), (5, .ptr (.loc 0) 0)]) (fun i => [some (.box (nodeV t).cells), some (.vec i.2.1 11 i.2.2)]) (0, g, _) 60 (fun _ => rfl) (fun _ => rfl)
        ⟨⟨Nat.zero_le _, hrow⟩, ⟨⟨rfl, rfl⟩, ⟨?_, rfl⟩, ⟨rfl, rfl⟩, ⟨rfl, rfl⟩, trivial⟩, ⟨⟨rfl, rfl⟩, ⟨rfl, rfl⟩, trivial⟩⟩ ?_
      · first | rfl | exact congrArg (V.osl (.loc 1) (g) 0) (by simp)
      rintro ⟨i, g, xs⟩ ⟨k1, k2⟩ next
      simp only at k1 k2
      refine ⟨fun hlt => go 60 ?_, fun hge => go 60 ?_⟩
      · have hi : i < t.subs.length := by have := lt_of hlt; simp [subV_eq] at this; omega
        have hx : t.subV[((i : Nat) : Int).toNat]? = some (nodeV t.subs[i]) := by simp [subV_eq, hi]
        have hmem := List.getElem_mem hi
        have hwm := weight_mem hmem
        have hwt := weight_eq t
        have hih := ih _ hmem q i (by rw [← hq, List.length_append]; simp; omega)
        have htk : t.subs.take (i + 1) = t.subs.take i ++ [t.subs[i]] := List.take_succ_eq_append_getElem hi
        have hks := kidsL_snoc q t.subs[i] (t.subs.take i)
        rw [List.length_take, Nat.min_eq_left (by omega)] at hks
        generalize t.subs[i] = s at hx htk hmem hwm hih hks
        refine ⟨Int.natCast_nonneg i, _, hx, ?_⟩
        show CallThen _ _ _ _ _ _
        refine call_pure hih rfl ?_
        rintro x rfl
        have hlen := k2.len
        have h1 := mkOps_len (q, t)
        have h2 := maks_len q 0 (t.subs.take i)
        have h3 := weightsTake t.subs i
        have h4 := mak_len (q ++ [(i : Int)]) s
        rw [List.length_append] at hlen
        simp only at h1
        have h5 : (kidsL q (t.subs.take i)).length = ((treesP q 0 (t.subs.take i)).flatMap mkOps).length := rfl
        have h6 : (makeL q i s).length = ((s.withP (q ++ [(i : Int)])).flatMap mkOps).length := rfl
        refine ⟨rfl, rfl, Nat.le_trans (Nat.mul_le_mul_right _ (show _ ≤ 1000001 by simp only [List.length_map]; omega)) (by decide), ?_⟩
        refine ⟨by constructor <;> omega, ?_⟩
        show Goes _ _ _ _
        refine next (i + 1, bump g, xs ++ (makeL q i s).map opV) _ _ ⟨⟨hi, ?_⟩, by simp only; omega, ⟨⟨rfl, rfl⟩, ⟨?_, rfl⟩, ⟨rfl, rfl⟩, ⟨rfl, rfl⟩, trivial⟩, ⟨⟨rfl, rfl⟩, ⟨rfl, rfl⟩, trivial⟩⟩
        · simp only
          rw [htk, hks, ← List.append_assoc]
          exact k2.app (RowM.refl _)
        · exact congrArg (V.osl (.loc 1) (bump g) 0) (by simp)
      · have hi : i = t.subs.length := by have := not_lt_of hge; simp [subV_eq] at this; omega
        subst hi
        rw [List.take_length] at k2
        refine ⟨trivial, rfl, rfl, rfl, rfl, rfl, _, Wk.sl k2.wk, rfl, rfl⟩
end Bow
/- W150: the laws of chapter 9: which lists are the same; the examples. -/
namespace Bow
open Go Go.Proofs

theorem w_same09 (l : List OpT) (hl : l.length ≤ 1000000) (hok : ∀ o ∈ l, o.Lt 1000000) : Pure Tryz.prog 18 [opsV l, opsV l] (fun x => x = .bool true) := by
  refine pure_wk (pure_fn 100 Tryz.func18 rfl rfl rfl fun B => ?_)
  refine ⟨fun g => absurd rfl (ne_of' g), fun _ => go 100 ?_⟩
  show Goes _ _ _ _
  refine goes_iter (ι := Nat) (fun i => i ≤ l.length) (fun i => l.length - i) (fun i => [(5, .int .i64 i), (0, opsV l), (1, opsV l)]) (fun _ => []) 0 100 (fun _ => rfl) (fun _ => rfl) ⟨Nat.zero_le _, ⟨⟨rfl, rfl⟩, ⟨rfl, rfl⟩, ⟨rfl, rfl⟩, trivial⟩, trivial⟩ ?_
  rintro i k1 next
  refine ⟨fun hlt => go 100 ?_, fun hge => go 100 ?_⟩
  · have hi : i < l.length := by simpa using hlt
    have hx : (l.map opV)[i]? = some (opV l[i]) := by simp [hi]
    have h := hok l[i] (List.getElem_mem hi)
    show Goes _ (.code (.region _ _ true) :: _) _ _
    refine goes_drawX [] 100 ⟨Int.natCast_nonneg i, _, hx, Int.natCast_nonneg i, _, hx, _, w_refSameO _ _ h h, rfl, ?_⟩
    refine ⟨by kernel_rfl, ?_⟩
    rw [sameO_refl]
    refine ⟨fun g => absurd g (by simp), fun _ => go 100 ?_⟩
    refine ⟨by constructor <;> omega, ?_⟩
    show Goes _ _ _ _
    exact next (i + 1) _ _ ⟨hi, by omega, ⟨⟨rfl, rfl⟩, ⟨rfl, rfl⟩, ⟨rfl, rfl⟩, trivial⟩, trivial⟩
  · exact ⟨trivial, rfl, rfl, rfl, leaf_tt rfl⟩

/-! ### The examples -/
def work9T : Tree := .mk 0 false [114] [] [] [.mk 0 false [97] [([107], [49])] [] [.mk 0 true [120] [] [104, 105] []], .mk 0 false [98] [] [] []]
def work9a : List OpT := [{ noOp 2 with path := [1] }]
def work9b : List OpT := [{ noOp 1 with path := [], at_ := 0, label := [97] }, { noOp 4 with path := [0], key := [107], value := [49] }, { noOp 1 with path := [0], at_ := 0, leaf := true, label := [120] }, { noOp 6 with path := [0, 0], pieces := [⟨0, 0, [104, 105]⟩] }]
def work9c : List OpT := [{ noOp 3 with path := [1], to := [], at_ := 0 }]
def work9d : List OpT := [{ noOp 4 with path := [1], key := [107], gone := true }]
theorem w_9a : Pure Tryz.prog 16 [nodeV work9T, opV { noOp 1 with at_ := 1 }] (fun x => x = ofV (work9a, 0)) := by
  have h := w_Of work9T { noOp 1 with at_ := 1 } (by decide) ⟨⟨by decide, by decide, by decide, by decide, by decide, by decide⟩, by decide⟩
  rwa [show OfP work9T { noOp 1 with at_ := 1 } = (work9a, 0) by kernel_rfl] at h
theorem w_9b : Pure Tryz.prog 16 [nodeV work9T, opV { noOp 2 with path := [0] }] (fun x => x = ofV (work9b, 0)) := by
  have h := w_Of work9T { noOp 2 with path := [0] } (by decide) ⟨⟨by decide, by decide, by decide, by decide, by decide, by decide⟩, by decide⟩
  rwa [show OfP work9T { noOp 2 with path := [0] } = (work9b, 0) by kernel_rfl] at h
theorem w_9c : Pure Tryz.prog 16 [nodeV work9T, opV { noOp 3 with path := [0], at_ := 2 }] (fun x => x = ofV (work9c, 0)) := by
  have h := w_Of work9T { noOp 3 with path := [0], at_ := 2 } (by decide) ⟨⟨by decide, by decide, by decide, by decide, by decide, by decide⟩, by decide⟩
  rwa [show OfP work9T { noOp 3 with path := [0], at_ := 2 } = (work9c, 0) by kernel_rfl] at h
theorem w_9d : Pure Tryz.prog 16 [nodeV work9T, opV { noOp 4 with path := [1], key := [107], value := [50] }] (fun x => x = ofV (work9d, 0)) := by
  have h := w_Of work9T { noOp 4 with path := [1], key := [107], value := [50] } (by decide) ⟨⟨by decide, by decide, by decide, by decide, by decide, by decide⟩, by decide⟩
  rwa [show OfP work9T { noOp 4 with path := [1], key := [107], value := [50] } = (work9d, 0) by kernel_rfl] at h
theorem wk_work9 : WkL [.int .u64 0, .ff, .str [114], .nilsl, .str [], .sl 6 [.agg [.int .u64 0, .ff, .str [97], .sl 2 [.agg [.str [107], .str [49]]], .str [], .sl 6 [.agg [.int .u64 0, .tt, .str [120], .nilsl, .str [104, 105], .nilsl]]], .agg [.int .u64 0, .ff, .str [98], .nilsl, .str [], .nilsl]]] (nodeV work9T).cells :=
  ⟨.refl _, Wk.ff, .refl _, Wk.nil 2, .refl _, Wk.sl ⟨⟨⟨.refl _, Wk.ff, .refl _, .refl _, .refl _, Wk.sl ⟨⟨⟨.refl _, Wk.tt, .refl _, Wk.nil 2, .refl _, Wk.nil 6, trivial⟩, okE_node (.mk 0 true [120] [] [104, 105] [])⟩, trivial⟩, trivial⟩, okE_node (.mk 0 false [97] [([107], [49])] [] [.mk 0 true [120] [] [104, 105] []])⟩, ⟨⟨.refl _, Wk.ff, .refl _, Wk.nil 2, .refl _, Wk.nil 6, trivial⟩, okE_node (.mk 0 false [98] [] [] [])⟩, trivial⟩, trivial⟩
set_option pp.maxSteps 300 in
set_option maxHeartbeats 4000000 in
set_option maxRecDepth 100000 in
theorem w_works09 : Pure Tryz.prog 12 [] (fun x => x = .bool true) := by
  refine pure_wk (pure_fn 16 Tryz.func12 rfl rfl rfl fun B => ?_)
  refine ⟨⟨rfl, trivial⟩, ⟨rfl, trivial⟩, rfl, rfl, rfl, rfl, ⟨rfl, rfl, trivial⟩, ?_⟩
  show Goes _ _ _ _
  refine goes_freezeIn 2 [3] rfl rfl rfl ?_
  show Goes _ _ _ _
  refine goes_wkbox 3 (nodeV work9T).cells rfl rfl rfl wk_work9 ?_
  refine go 300 ?_
  show CallThen _ _ _ _ _ _
  refine call_pure (pure_args w_9a ⟨.refl _, wk_op ⟨.refl _, Wk.nil 1, .refl _, Wk.nil 1, .refl _, Wk.ff, .refl _, .refl _, .refl _, Wk.ff, Wk.nil 3, trivial⟩, trivial⟩ rfl rfl) rfl ?_
  rintro x rfl
  refine ⟨⟨rfl, trivial⟩, ?_⟩
  show CallThen _ _ _ _ _ _
  refine call_pure_frz ?_
  refine ⟨rfl, rfl, _, pure_args w_9b ⟨.refl _, wk_op ⟨.refl _, .refl _, .refl _, Wk.nil 1, .refl _, Wk.ff, .refl _, .refl _, .refl _, Wk.ff, Wk.nil 3, trivial⟩, trivial⟩ rfl rfl, rfl, ?_⟩
  rintro x rfl
  refine ⟨⟨rfl, trivial⟩, ?_⟩
  show CallThen _ _ _ _ _ _
  refine call_pure_frz ?_
  refine ⟨rfl, rfl, _, pure_args w_9c ⟨.refl _, wk_op ⟨.refl _, .refl _, .refl _, Wk.nil 1, .refl _, Wk.ff, .refl _, .refl _, .refl _, Wk.ff, Wk.nil 3, trivial⟩, trivial⟩ rfl rfl, rfl, ?_⟩
  rintro x rfl
  refine ⟨⟨rfl, trivial⟩, ?_⟩
  show CallThen _ _ _ _ _ _
  refine call_pure_frz ?_
  refine ⟨rfl, rfl, _, pure_args w_9d ⟨.refl _, wk_op ⟨.refl _, .refl _, .refl _, Wk.nil 1, .refl _, Wk.ff, .refl _, .refl _, .refl _, Wk.ff, Wk.nil 3, trivial⟩, trivial⟩ rfl rfl, rfl, ?_⟩
  rintro x rfl
  iterate 8 (refine ⟨fun g => absurd g (by decide), fun _ => go 300 ?_⟩)
  refine ⟨by decide, _, rfl, ?_⟩
  refine ⟨fun _ => go 300 ?_, fun g => absurd g (by decide)⟩
  refine ⟨by decide, _, rfl, ?_⟩
  refine ⟨⟨rfl, trivial⟩, ?_⟩
  show CallThen _ _ _ _ _ _
  refine call_flat ?_
  refine ⟨rfl, rfl, _, w_SameInts [1] (by decide), rfl, rfl, ?_⟩
  refine ⟨fun _ => go 300 ?_, fun g => absurd g (by decide)⟩
  refine ⟨by decide, _, rfl, ?_⟩
  refine ⟨fun _ => go 300 ?_, fun g => absurd g (by decide)⟩
  refine ⟨by decide, _, rfl, ?_⟩
  refine ⟨fun _ => go 300 ?_, fun g => absurd g (by decide)⟩
  refine ⟨by decide, _, rfl, ?_⟩
  refine ⟨fun _ => go 300 ?_, fun g => absurd g (by decide)⟩
  refine ⟨by decide, _, rfl, ?_⟩
  refine ⟨fun _ => go 300 ?_, fun g => absurd g (by decide)⟩
  refine ⟨by decide, _, rfl, ?_⟩
  refine ⟨fun _ => go 300 ?_, fun g => absurd g (by decide)⟩
  refine ⟨by decide, _, rfl, ?_⟩
  refine ⟨⟨rfl, rfl, trivial⟩, ?_⟩
  show CallThen _ _ _ _ _ _
  refine call_flat ?_
  refine ⟨rfl, rfl, _, w_SameInts [0, 0] (by decide), rfl, rfl, ?_⟩
  refine ⟨fun _ => go 300 ?_, fun g => absurd g (by decide)⟩
  refine ⟨by decide, _, rfl, ?_⟩
  refine ⟨⟨rfl, trivial⟩, ?_⟩
  show CallThen _ _ _ _ _ _
  refine call_flat ?_
  refine ⟨rfl, rfl, _, w_SameInts [1] (by decide), rfl, rfl, ?_⟩
  refine ⟨fun _ => go 300 ?_, fun g => absurd g (by decide)⟩
  refine ⟨by decide, _, rfl, ?_⟩
  refine ⟨fun _ => go 300 ?_, fun g => absurd g (by decide)⟩
  refine ⟨by decide, _, rfl, ?_⟩
  exact ⟨trivial, rfl, rfl, rfl, leaf_b rfl⟩
end Bow
/- AE77: where ways meet again, wherever that is. -/
namespace Bow
open Go

def tailN : Nat → List Item → List Item
  | n + 1, .code (.seq _ b) :: k => tailN n (.code b :: k)
  | n + 1, _ :: k => tailN n k
  | _, k => k
/-- Ways that meet again behind so many parts of what is to be done. -/
theorem goes_joinN (n : Nat) {c : Cx} {todo : List Item} {E : Env} {T : Heap} {ι : Type} (Inv : ι → Prop) (Eo : ι → Env) (To : ι → Heap) (hD : ∀ i, c.D.all (Nat.blt · (To i).length) = true) (hi : ∀ i, Nat.ble c.imps.length (To i).length = true)
    (h : (∀ j E' T', Inv j ∧ envIs (To j).length E' (Eo j) ∧ heapIs (To j).length T' (To j) → Goes c (tailN n todo) E' T') → Goes c todo E T) (hJ : ∀ j, Inv j → Goes c (tailN n todo) (Eo j) (To j)) : Goes c todo E T :=
  h fun j _ _ ⟨h1, h2, h3⟩ => goes_to (Eo j) (To j) (hD j) (Nat.le_of_ble_eq_true (hi j)) h2 h3 (hJ j h1)
/-- The same, where the memory elsewhere may have been written to. -/
theorem goes_joinB (n : Nat) {c : Cx} {todo : List Item} {E : Env} {T : Heap} {ι : Type} (Inv : ι → Base → Prop) (Eo : ι → Env) (To : ι → Heap) (hD : ∀ i, c.D.all (Nat.blt · (To i).length) = true) (hi : ∀ i, Nat.ble c.imps.length (To i).length = true)
    (h : (∀ j B' E' T', Inv j B' ∧ envIs (To j).length E' (Eo j) ∧ heapIs (To j).length T' (To j) → Goes { c with B := B' } (tailN n todo) E' T') → Goes c todo E T) (hJ : ∀ j B', Inv j B' → Goes { c with B := B' } (tailN n todo) (Eo j) (To j)) : Goes c todo E T :=
  h fun j B' _ _ ⟨h1, h2, h3⟩ => goes_to (c := { c with B := B' }) (Eo j) (To j) (hD j) (Nat.le_of_ble_eq_true (hi j)) h2 h3 (hJ j B' h1)
/-- A region that draws its order, its guards and its makings told. -/
theorem goes_drawG (sp : List (Nat × Bool)) (G : List Tmp) (D : Heap) {c : Cx} {ops : Array Oper} {id : Nat} {k : List Item} {E : Env} {T : Heap} (n : Nat) (hd : dumsX sp 0 ops.toList = D) (h : catC T D fun T0 => evdX sp c ops G ops.toList 0 T.length E T0 fun En Tn ss => chk ops.toList ss 0 [] [] = true ∧ evp c n k En Tn) :
    Goes c (.code (.region id ops true) :: k) E T := by
  subst hd
  rw [catC_eq] at h
  obtain ⟨rs, ss, En, Tn, h1, h2, h3⟩ := evdX_sound (sp := sp) ops.toList 0 T.length E _ _ h (fun k => by rw [Nat.zero_add, Array.getElem?_toList]) (by simp)
  exact goes_draw_ofX sp h1 h2 (evp_sound n _ _ _ _ h3)
end Bow
/- W151: the move back, by the document: bowerref09.back. -/
namespace Bow
open Go Go.Proofs

theorem within_ne {p q : List Int} (h : p ≠ q) (hl : q.length ≤ p.length) : within p q = false := by
  cases hw : within p q with
  | false => rfl
  | true => exact absurd (within_eq hw hl) h
theorem len_of {p q : List Int} (h : decide ((((p.map intV).length : Nat) : Int) < (((q.map intV).length : Nat) : Int)) = false) : q.length ≤ p.length := by
  have := not_lt_of h
  simp only [List.length_map] at this
  omega
theorem len_lt {p q : List Int} (h : decide ((((p.map intV).length : Nat) : Int) < (((q.map intV).length : Nat) : Int)) = true) : p.length < q.length := by
  have := lt_of h
  simp only [List.length_map] at this
  omega
theorem back_eq {q to l1 : List Int} {d a : Int} (h : l1 = (bif !decide (q = to) && within q to && decide (d < (to[q.length]?).getD 0) then incAt to q.length (-1) else to)) (hl : q.length ≤ l1.length) : (bif !decide (q = to) && within l1 q && decide (a ≤ (q[l1.length]?).getD 0) then incAt q l1.length 1 else q) = q := by
  cases hq : decide (q = to) with
  | true => rfl
  | false =>
    have hq := of_decide_eq_false hq
    cases hw : within l1 q with
    | false => rfl
    | true =>
      have e := within_eq hw hl
      refine absurd ?_ hq
      cases hc : (!decide (q = to) && within q to && decide (d < (to[q.length]?).getD 0)) with
      | false => rw [hc] at h; exact e.symm.trans h
      | true =>
        rw [hc] at h
        have h1 : l1.length = to.length := by rw [h]; exact incAt_len _ _ _
        simp only [Bool.and_eq_true] at hc
        exact within_eq hc.1.2 (by rw [← h1, e]; exact Nat.le_refl _)
def mkO (to1 q1 : List Int) (at1 d1 : Int) : OpT := { noOp 3 with path := to1 ++ [at1], to := q1, at_ := d1 }
theorem mkO_wk (to1 q1 : List Int) (at1 d1 : Int) : WkL [.int .u8 3, pathV (to1 ++ [at1]), .int .i64 d1, pathV q1, .int .u64 0, .ff, .str [], .str [], .str [], .ff, .nilsl] (opV (mkO to1 q1 at1 d1)).cells :=
  ⟨.refl _, .refl _, .refl _, .refl _, .refl _, Wk.ff, .refl _, .refl _, .refl _, Wk.ff, Wk.nil 3, trivial⟩
theorem mkO_ok (to1 q1 : List Int) (at1 d1 : Int) (h1 : to1.length ≤ 900000) (h2 : q1.length ≤ 1000000) : (mkO to1 q1 at1 d1).Ok :=
  ⟨⟨by unfold mkO; simp; omega, h2, by simp [mkO, noOp], by simp [mkO, noOp], by simp [mkO, noOp], by simp [mkO, noOp]⟩, Nat.zero_le _⟩
def refBackO (t : Tree) (o : OpT) : OpT :=
  bif !formedB (backO o) then backO o
  else bif decide ((applyR (applyR t o).1 (backO o)).2 = 0) && sameT true (applyR (applyR t o).1 (backO o)).1 t then backO o else noOp 0
set_option pp.maxSteps 400 in
set_option maxHeartbeats 4000000 in
set_option maxRecDepth 100000 in
theorem w_refBack (t : Tree) (o : OpT) (htw : t.weight ≤ 40000) (hok : o.Ok) (hto6 : o.to.length ≤ 100000) (hco : costO o ≤ 100000) (hne : o.path ≠ []) (hp : ∀ n ∈ o.path, Mid n) (ht : ∀ n ∈ o.to, Mid n) (ha : Mid o.at_) : Pure Tryz.prog 37 [nodeV t, opV o] (fun x => x = opV (refBackO t o)) := by
  have hpl := hok.lt.path
  have htl := hok.lt.to
  obtain ⟨q, hq⟩ : ∃ q, o.path.dropLast = q := ⟨_, rfl⟩
  obtain ⟨d, hd⟩ : ∃ d, o.path.getLast hne = d := ⟨_, rfl⟩
  have hpos : 0 < o.path.length := List.length_pos_iff.2 hne
  have hql : q.length ≤ 1000000 := by rw [← hq, List.length_dropLast]; omega
  have hqm : ∀ n ∈ q, Mid n := fun n hn => hp n (by rw [← hq] at hn; exact List.dropLast_subset _ hn)
  have hdm : Mid d := hp d (by rw [← hd]; exact List.getLast_mem hne)
  have e1 : ((((o.path.map intV).drop (Int.toNat 0)).take ((((o.path.map intV).length : Int) - 1).toNat - Int.toNat 0))) = q.map intV := by
    rw [← hq, List.dropLast_eq_take, List.map_take]
    show ((o.path.map intV).drop 0).take _ = _
    rw [List.drop_zero]
    congr 1
    simp
  have hxx : (o.path.map intV)[(((o.path.map intV).length : Int) - 1).toNat]? = some (intV d) := by
    rw [← hd, List.getElem?_map, List.getLast_eq_getElem]
    have : (((o.path.map intV).length : Int) - 1).toNat = o.path.length - 1 := by simp
    rw [this, List.getElem?_eq_getElem (by omega)]
    rfl
  have b1 : -9223372036854775808 ≤ ((o.path.map intV).length : Int) - 1 ∧ ((o.path.map intV).length : Int) - 1 ≤ 9223372036854775807 := by constructor <;> simp <;> omega
  have b2 : (0 : Int) ≤ ((o.path.map intV).length : Int) - 1 := by simp; omega
  have b3 : ((o.path.map intV).length : Int) - 1 ≤ ((o.path.map intV).length : Int) := by omega
  have hmw := applyR_weight t o
  have hbk : backO o = mkO (backS q o.to d o.at_).to1 (backS q o.to d o.at_).q1 (backS q o.to d o.at_).at1 (backS q o.to d o.at_).d1 := by
    unfold backO mkO
    simp only [List.getLast?_eq_some_getLast hne, Option.getD_some, hq, hd]
  refine pure_wk (pure_fn 60 Tryz.func37 rfl rfl rfl fun B => ?_)
  show CallThen _ _ _ _ _ _
  refine call_pure (w_refApply t o (by omega) hok) rfl ?_
  rintro x rfl
  show Goes _ (.code (.region _ _ true) :: _) _ _
  refine goes_drawX [] 0 ?_
  refine ⟨b1, by decide, b2, b3, b1, b2, _, hxx, ?_⟩
  refine ⟨by kernel_rfl, ?_⟩
  obtain ⟨to, hto⟩ : ∃ to, o.to = to := ⟨_, rfl⟩
  obtain ⟨at_, hat⟩ : ∃ a, o.at_ = a := ⟨_, rfl⟩
  show Goes { P := Tryz.prog, nt := Tryz.f37.ntmps, fn := 37, ro := none, imps := [], X := XR Tryz.prog [] Tryz.f37.results B fun x T => frz x T False fun x' _ => x'.pureB = true ∧ ∃ y, Wk x' y ∧ y.pureB = true ∧ y = opV (refBackO t o), B := B, D := [] } _ _ _
  refine goes_forget [(2, .ptr (.loc 0) 0), (3, .ptr (.loc 1) 0), (4, .ptr (.loc 2) 0), (5, .ptr (.loc 3) 0), (7, pathV q), (8, intV d)] ⟨⟨rfl, rfl⟩, ⟨rfl, rfl⟩, ⟨rfl, rfl⟩, ⟨rfl, rfl⟩, ⟨congrArg (V.sl 1) e1, rfl⟩, ⟨rfl, rfl⟩, trivial⟩ ?_
  obtain ⟨qm1, qm2⟩ := hdm
  obtain ⟨am1, am2⟩ := ha
  refine goes_joinN 9 (ι := List Int × List Int × Int × Int) (fun j => backO o = mkO j.1 j.2.1 j.2.2.1 j.2.2.2 ∧ j.1.length ≤ 100000 ∧ j.2.1.length ≤ 1000000) (fun j => [(13, intV j.2.2.2), (12, pathV j.2.1), (11, pathV (j.1 ++ [j.2.2.1])), (5, .ptr (.loc 3) 0), (4, .ptr (.loc 2) 0), (3, .ptr (.loc 1) 0), (2, .ptr (.loc 0) 0)]) (fun _ => [some (.box (nodeV t).cells), some (.box (opV o).cells), some (.box [.int .u8 0, .nilsl, .int .i64 0, .nilsl, .int .u64 0, .ff, .str [], .str [], .str [], .ff, .nilsl]), some (.box (nodeV (applyR t o).1).cells)]) (fun _ => rfl) (fun _ => rfl) (fun tailC => ?_) ?_
  · refine goes_joinN 4 (ι := List Int × Int) (fun j => j.1.length = o.to.length ∧ j.2 = (bif decide (q = o.to) && decide (d < o.at_) then o.at_ - 1 else o.at_) ∧ -1000000001 ≤ j.2 ∧ j.2 ≤ 1000000000 ∧ j.1 = (bif !decide (q = o.to) && within q o.to && decide (d < (o.to[q.length]?).getD 0) then incAt o.to q.length (-1) else o.to)) (fun j => [(10, intV j.2), (9, .osl (.loc 4) 0 0 (o.to.map intV).length), (8, intV d), (7, pathV q), (5, .ptr (.loc 3) 0), (4, .ptr (.loc 2) 0), (3, .ptr (.loc 1) 0), (2, .ptr (.loc 0) 0)]) (fun j => [some (.box (nodeV t).cells), some (.box (opV o).cells), some (.box [.int .u8 0, .nilsl, .int .i64 0, .nilsl, .int .u64 0, .ff, .str [], .str [], .str [], .ff, .nilsl]), some (.box (nodeV (applyR t o).1).cells), some (.vec 0 1 (j.1.map intV))]) (fun _ => rfl) (fun _ => rfl) (fun tailB => ?_) ?_
    · refine go 60 ?_
      show CallThen _ _ _ _ _ _
      refine call_sub [] (w_CopiedQ (o.to.map intV) (by simpa using htl)) rfl rfl trivial rfl rfl rfl ?_
      rintro x T1 ⟨rfl, rfl⟩
      refine ⟨rfl, ?_⟩
      show CallThen _ _ _ _ _ _
      refine call_flat ?_
      refine ⟨rfl, by simp, _, w_refSame q o.to hql, rfl, rfl, ?_⟩
      cases hh : decide (q = o.to) with
      | true =>
        have hqt : q = o.to := of_decide_eq_true hh
        have hll : (o.to.map intV).length = (q.map intV).length := by rw [hqt]
        refine ⟨fun g1 => go 60 ?_, fun g1 => go 60 ?_⟩
        rotate_left
        · cases g1
        refine ⟨fun g2 => go 60 ?_, fun g2 => go 60 ?_⟩
        · refine ⟨by constructor <;> omega, ?_⟩
          refine ⟨rfl, ?_⟩
          refine ⟨fun g3 => go 60 ?_, fun g3 => ?_⟩
          · have := lt_of g3
            omega
          refine go 16 ?_
          exact tailB (o.to, o.at_ - 1) _ _ ⟨⟨rfl, by simp only [hh, g2, Bool.true_and, Bool.not_true, Bool.not_false, Bool.false_and, Bool.and_false, Bool.and_true, cond_true, cond_false], by simp only; omega, by simp only; omega, by simp only [hh, Bool.true_and, Bool.not_true, Bool.not_false, Bool.false_and, Bool.and_false, Bool.and_true, cond_true, cond_false]⟩, ⟨⟨rfl, rfl⟩, ⟨rfl, rfl⟩, ⟨rfl, rfl⟩, ⟨rfl, rfl⟩, ⟨rfl, rfl⟩, ⟨rfl, rfl⟩, ⟨rfl, rfl⟩, ⟨rfl, rfl⟩, trivial⟩, ⟨⟨rfl, rfl⟩, ⟨rfl, rfl⟩, ⟨rfl, rfl⟩, ⟨rfl, rfl⟩, ⟨rfl, rfl⟩, trivial⟩⟩

        · refine ⟨rfl, ?_⟩
          refine ⟨fun g3 => go 60 ?_, fun g3 => ?_⟩
          · have := lt_of g3
            omega
          refine go 16 ?_
          exact tailB (o.to, o.at_) _ _ ⟨⟨rfl, by simp only [hh, g2, Bool.true_and, Bool.not_true, Bool.not_false, Bool.false_and, Bool.and_false, Bool.and_true, cond_true, cond_false], by simp only; omega, by simp only; omega, by simp only [hh, Bool.true_and, Bool.not_true, Bool.not_false, Bool.false_and, Bool.and_false, Bool.and_true, cond_true, cond_false]⟩, ⟨⟨rfl, rfl⟩, ⟨rfl, rfl⟩, ⟨rfl, rfl⟩, ⟨rfl, rfl⟩, ⟨rfl, rfl⟩, ⟨rfl, rfl⟩, ⟨rfl, rfl⟩, ⟨rfl, rfl⟩, trivial⟩, ⟨⟨rfl, rfl⟩, ⟨rfl, rfl⟩, ⟨rfl, rfl⟩, ⟨rfl, rfl⟩, ⟨rfl, rfl⟩, trivial⟩⟩

      | false =>
        have hne2 : q ≠ o.to := of_decide_eq_false hh
        refine ⟨fun g1 => go 60 ?_, fun g1 => go 60 ?_⟩
        · cases g1
        refine ⟨rfl, ?_⟩
        refine ⟨fun g3 => ?_, fun g3 => ?_⟩
        · cases hw : within q o.to with
          | true =>
            have hlt := len_lt g3
            have hx : (o.to.map intV)[0 + (((q.map intV).length : Nat) : Int).toNat]? = some (intV (o.to[q.length])) := by simp [hlt]
            have hlt2 : (((q.map intV).length : Nat) : Int) < ((o.to.map intV).length : Nat) := by simp; omega
            have hgd : (o.to[q.length]?).getD 0 = o.to[q.length] := by simp [hlt]
            have hW := w_refWithin q o.to hql
            rw [hw] at hW
            have hset : incAt o.to q.length (-1) = o.to.set q.length (o.to[q.length] - 1) := by unfold incAt; rw [hgd]; rfl
            have hz : o.to[q.length]? = some (o.to[q.length]) := by simp [hlt]
            generalize o.to[q.length] = z at hx hgd hz hset
            have hsv : (o.to.map intV).set (0 + (((q.map intV).length : Nat) : Int).toNat) (.int .i64 (z - 1)) = (incAt o.to q.length (-1)).map intV := by
              rw [hset, List.map_set]
              simp
              rfl
            obtain ⟨z1, z2⟩ := ht _ (List.mem_of_getElem? hz)
            refine go 60 ?_
            show CallThen _ _ _ _ _ _
            refine call_flat ?_
            refine ⟨rfl, by simp, _, hW, rfl, rfl, ?_⟩
            refine ⟨fun g5 => go 60 ?_, fun g5 => go 60 ?_⟩
            rotate_left
            · cases g5
            refine ⟨rfl, Int.natCast_nonneg _, hlt2, ?_⟩
            refine ⟨rfl, _, hx, ?_⟩
            refine ⟨fun g6 => ?_, fun g6 => ?_⟩
            · refine go 10 ?_
              refine ⟨rfl, Int.natCast_nonneg _, hlt2, ?_⟩
              refine ⟨rfl, _, hx, ?_⟩
              refine ⟨by constructor <;> omega, ?_⟩
              refine ⟨rfl, Int.natCast_nonneg _, hlt2, rfl, _, hx, ?_⟩
              exact tailB (incAt o.to q.length (-1), o.at_) _ _ ⟨⟨incAt_len _ _ _, by simp only [hh, Bool.true_and, Bool.not_true, Bool.not_false, Bool.false_and, Bool.and_false, Bool.and_true, cond_true, cond_false], by simp only; omega, by simp only; omega, by simp only [hh, hw, hgd, g6, Bool.true_and, Bool.not_true, Bool.not_false, Bool.false_and, Bool.and_false, Bool.and_true, cond_true, cond_false]⟩, ⟨⟨rfl, rfl⟩, ⟨rfl, rfl⟩, ⟨rfl, rfl⟩, ⟨rfl, rfl⟩, ⟨rfl, rfl⟩, ⟨rfl, rfl⟩, ⟨rfl, rfl⟩, ⟨rfl, rfl⟩, trivial⟩, ⟨⟨rfl, rfl⟩, ⟨rfl, rfl⟩, ⟨rfl, rfl⟩, ⟨rfl, rfl⟩, ⟨congrArg (fun l => some (HObj.vec 0 1 l)) hsv, rfl⟩, trivial⟩⟩

            · refine go 1 ?_
              exact tailB (o.to, o.at_) _ _ ⟨⟨rfl, by simp only [hh, Bool.true_and, Bool.not_true, Bool.not_false, Bool.false_and, Bool.and_false, Bool.and_true, cond_true, cond_false], by simp only; omega, by simp only; omega, by simp only [hh, hw, hgd, g6, Bool.true_and, Bool.not_true, Bool.not_false, Bool.false_and, Bool.and_false, Bool.and_true, cond_true, cond_false]⟩, ⟨⟨rfl, rfl⟩, ⟨rfl, rfl⟩, ⟨rfl, rfl⟩, ⟨rfl, rfl⟩, ⟨rfl, rfl⟩, ⟨rfl, rfl⟩, ⟨rfl, rfl⟩, ⟨rfl, rfl⟩, trivial⟩, ⟨⟨rfl, rfl⟩, ⟨rfl, rfl⟩, ⟨rfl, rfl⟩, ⟨rfl, rfl⟩, ⟨rfl, rfl⟩, trivial⟩⟩

          | false =>
            have hW := w_refWithin q o.to hql
            rw [hw] at hW
            refine go 60 ?_
            show CallThen _ _ _ _ _ _
            refine call_flat ?_
            refine ⟨rfl, by simp, _, hW, rfl, rfl, ?_⟩
            refine ⟨fun g5 => absurd g5 (by decide), fun g5 => ?_⟩
            refine go 11 ?_
            exact tailB (o.to, o.at_) _ _ ⟨⟨rfl, by simp only [hh, Bool.true_and, Bool.not_true, Bool.not_false, Bool.false_and, Bool.and_false, Bool.and_true, cond_true, cond_false], by simp only; omega, by simp only; omega, by simp only [hh, hw, Bool.true_and, Bool.not_true, Bool.not_false, Bool.false_and, Bool.and_false, Bool.and_true, cond_true, cond_false]⟩, ⟨⟨rfl, rfl⟩, ⟨rfl, rfl⟩, ⟨rfl, rfl⟩, ⟨rfl, rfl⟩, ⟨rfl, rfl⟩, ⟨rfl, rfl⟩, ⟨rfl, rfl⟩, ⟨rfl, rfl⟩, trivial⟩, ⟨⟨rfl, rfl⟩, ⟨rfl, rfl⟩, ⟨rfl, rfl⟩, ⟨rfl, rfl⟩, ⟨rfl, rfl⟩, trivial⟩⟩

        · have hw := within_ne hne2 (len_of g3)
          refine go 16 ?_
          exact tailB (o.to, o.at_) _ _ ⟨⟨rfl, by simp only [hh, Bool.true_and, Bool.not_true, Bool.not_false, Bool.false_and, Bool.and_false, Bool.and_true, cond_true, cond_false], by simp only; omega, by simp only; omega, by simp only [hh, hw, Bool.true_and, Bool.not_true, Bool.not_false, Bool.false_and, Bool.and_false, Bool.and_true, cond_true, cond_false]⟩, ⟨⟨rfl, rfl⟩, ⟨rfl, rfl⟩, ⟨rfl, rfl⟩, ⟨rfl, rfl⟩, ⟨rfl, rfl⟩, ⟨rfl, rfl⟩, ⟨rfl, rfl⟩, ⟨rfl, rfl⟩, trivial⟩, ⟨⟨rfl, rfl⟩, ⟨rfl, rfl⟩, ⟨rfl, rfl⟩, ⟨rfl, rfl⟩, ⟨rfl, rfl⟩, trivial⟩⟩

    · rintro ⟨l1, a1⟩ ⟨hl1, ha1, b4, b5, ht1⟩
      simp only at hl1 ha1 b4 b5 ht1
      refine goes_joinN 3 (ι := List Int) (fun q1 => q1.length = q.length ∧ q1 = (bif !decide (q = o.to) && within l1 q && decide (a1 ≤ (q[l1.length]?).getD 0) then incAt q l1.length 1 else q)) (fun _ => [(12, .osl (.loc 5) 0 0 (q.map intV).length), (11, pathV (l1 ++ [a1])), (10, intV a1), (8, intV d), (7, pathV q), (5, .ptr (.loc 3) 0), (4, .ptr (.loc 2) 0), (3, .ptr (.loc 1) 0), (2, .ptr (.loc 0) 0)]) (fun q1 => [some (.box (nodeV t).cells), some (.box (opV o).cells), some (.box [.int .u8 0, .nilsl, .int .i64 0, .nilsl, .int .u64 0, .ff, .str [], .str [], .str [], .ff, .nilsl]), some (.box (nodeV (applyR t o).1).cells), none, some (.vec 0 1 (q1.map intV))]) (fun _ => rfl) (fun _ => rfl) (fun tailD => ?_) ?_
      · refine goes_freezeIn (o := .vec 0 1 (l1.map intV)) 4 [] rfl rfl rfl ?_
        show Goes _ (.code _ :: _) _ _
        refine goes_forget [(10, intV a1), (9, pathV l1), (8, intV d), (7, pathV q), (5, .ptr (.loc 3) 0), (4, .ptr (.loc 2) 0), (3, .ptr (.loc 1) 0), (2, .ptr (.loc 0) 0)] ⟨⟨rfl, rfl⟩, ⟨?_, rfl⟩, ⟨rfl, rfl⟩, ⟨rfl, rfl⟩, ⟨rfl, rfl⟩, ⟨rfl, rfl⟩, ⟨rfl, rfl⟩, ⟨rfl, rfl⟩, trivial⟩ ?_
        · show V.fz 4 (.vec 0 1 (l1.map intV)) (.osl (.loc 4) 0 0 (o.to.map intV).length) = pathV l1
          simp [V.fz, frzRef, pathV, ← hl1]
        refine go 60 ?_
        show CallThen _ _ _ _ _ _
        refine call_pure (w_refChild4 l1 a1 (by omega)) rfl ?_
        rintro x rfl
        show CallThen _ _ _ _ _ _
        refine call_sub [] (w_CopiedQ (q.map intV) (by simpa using hql)) rfl rfl trivial rfl rfl rfl ?_
        rintro x T1 ⟨rfl, rfl⟩
        refine ⟨rfl, ?_⟩
        refine ⟨rfl, ?_⟩
        refine ⟨fun g4 => ?_, fun g4 => ?_⟩
        · have hlt := len_lt g4
          have hh : decide (q = o.to) = false := decide_eq_false fun e => by rw [e] at hlt; omega
          cases hw : within l1 q with
          | true =>
            have hx : (q.map intV)[0 + (((l1.map intV).length : Nat) : Int).toNat]? = some (intV (q[l1.length])) := by simp [hlt]
            have hlt2 : (((l1.map intV).length : Nat) : Int) < ((q.map intV).length : Nat) := by simp; omega
            have hgd : (q[l1.length]?).getD 0 = q[l1.length] := by simp [hlt]
            have hW := w_refWithin l1 q (by omega)
            rw [hw] at hW
            have hset : incAt q l1.length 1 = q.set l1.length (q[l1.length] + 1) := by unfold incAt; rw [hgd]
            have hz : q[l1.length]? = some (q[l1.length]) := by simp [hlt]
            generalize q[l1.length] = z at hx hgd hz hset
            have hsv : (q.map intV).set (0 + (((l1.map intV).length : Nat) : Int).toNat) (.int .i64 (z + 1)) = (incAt q l1.length 1).map intV := by
              rw [hset, List.map_set]
              simp
              rfl
            obtain ⟨z1, z2⟩ := hqm _ (List.mem_of_getElem? hz)
            refine go 60 ?_
            show CallThen _ _ _ _ _ _
            refine call_flat ?_
            refine ⟨rfl, by simp, _, hW, rfl, rfl, ?_⟩
            refine ⟨fun g5 => go 60 ?_, fun g5 => go 60 ?_⟩
            rotate_left
            · cases g5
            refine ⟨rfl, Int.natCast_nonneg _, hlt2, ?_⟩
            refine ⟨rfl, _, hx, ?_⟩
            refine ⟨fun g6 => ?_, fun g6 => ?_⟩
            · refine go 10 ?_
              refine ⟨rfl, Int.natCast_nonneg _, hlt2, ?_⟩
              refine ⟨rfl, _, hx, ?_⟩
              refine ⟨by constructor <;> omega, ?_⟩
              refine ⟨rfl, Int.natCast_nonneg _, hlt2, rfl, _, hx, ?_⟩
              exact tailD (incAt q l1.length 1) _ _ ⟨⟨incAt_len _ _ _, by simp only [hh, hw, hgd, g6, Bool.true_and, Bool.not_true, Bool.not_false, Bool.false_and, Bool.and_false, Bool.and_true, cond_true, cond_false]⟩, ⟨⟨rfl, rfl⟩, ⟨rfl, rfl⟩, ⟨rfl, rfl⟩, ⟨rfl, rfl⟩, ⟨rfl, rfl⟩, ⟨rfl, rfl⟩, ⟨rfl, rfl⟩, ⟨rfl, rfl⟩, ⟨rfl, rfl⟩, trivial⟩, ⟨⟨rfl, rfl⟩, ⟨rfl, rfl⟩, ⟨rfl, rfl⟩, ⟨rfl, rfl⟩, rfl, ⟨congrArg (fun l => some (HObj.vec 0 1 l)) hsv, rfl⟩, trivial⟩⟩

            · refine go 1 ?_
              exact tailD (q) _ _ ⟨⟨rfl, by simp only [hh, hw, hgd, g6, Bool.true_and, Bool.not_true, Bool.not_false, Bool.false_and, Bool.and_false, Bool.and_true, cond_true, cond_false]⟩, ⟨⟨rfl, rfl⟩, ⟨rfl, rfl⟩, ⟨rfl, rfl⟩, ⟨rfl, rfl⟩, ⟨rfl, rfl⟩, ⟨rfl, rfl⟩, ⟨rfl, rfl⟩, ⟨rfl, rfl⟩, ⟨rfl, rfl⟩, trivial⟩, ⟨⟨rfl, rfl⟩, ⟨rfl, rfl⟩, ⟨rfl, rfl⟩, ⟨rfl, rfl⟩, rfl, ⟨rfl, rfl⟩, trivial⟩⟩

          | false =>
            have hW := w_refWithin l1 q (by omega)
            rw [hw] at hW
            refine go 60 ?_
            show CallThen _ _ _ _ _ _
            refine call_flat ?_
            refine ⟨rfl, by simp, _, hW, rfl, rfl, ?_⟩
            refine ⟨fun g5 => absurd g5 (by decide), fun g5 => ?_⟩
            refine go 11 ?_
            exact tailD (q) _ _ ⟨⟨rfl, by simp only [hh, hw, Bool.true_and, Bool.not_true, Bool.not_false, Bool.false_and, Bool.and_false, Bool.and_true, cond_true, cond_false]⟩, ⟨⟨rfl, rfl⟩, ⟨rfl, rfl⟩, ⟨rfl, rfl⟩, ⟨rfl, rfl⟩, ⟨rfl, rfl⟩, ⟨rfl, rfl⟩, ⟨rfl, rfl⟩, ⟨rfl, rfl⟩, ⟨rfl, rfl⟩, trivial⟩, ⟨⟨rfl, rfl⟩, ⟨rfl, rfl⟩, ⟨rfl, rfl⟩, ⟨rfl, rfl⟩, rfl, ⟨rfl, rfl⟩, trivial⟩⟩

        · refine go 16 ?_
          exact tailD (q) _ _ ⟨⟨rfl, (back_eq ht1 (len_of g4)).symm⟩, ⟨⟨rfl, rfl⟩, ⟨rfl, rfl⟩, ⟨rfl, rfl⟩, ⟨rfl, rfl⟩, ⟨rfl, rfl⟩, ⟨rfl, rfl⟩, ⟨rfl, rfl⟩, ⟨rfl, rfl⟩, ⟨rfl, rfl⟩, trivial⟩, ⟨⟨rfl, rfl⟩, ⟨rfl, rfl⟩, ⟨rfl, rfl⟩, ⟨rfl, rfl⟩, rfl, ⟨rfl, rfl⟩, trivial⟩⟩

      · rintro q1 ⟨hl2, hq1⟩
        refine goes_freezeIn (o := .vec 0 1 (q1.map intV)) 5 [] rfl rfl rfl ?_
        show Goes _ (.code _ :: _) _ _
        refine goes_forget [(12, pathV q1), (11, pathV (l1 ++ [a1])), (10, intV a1), (8, intV d), (7, pathV q), (5, .ptr (.loc 3) 0), (4, .ptr (.loc 2) 0), (3, .ptr (.loc 1) 0), (2, .ptr (.loc 0) 0)] ⟨⟨?_, rfl⟩, ⟨rfl, rfl⟩, ⟨rfl, rfl⟩, ⟨rfl, rfl⟩, ⟨rfl, rfl⟩, ⟨rfl, rfl⟩, ⟨rfl, rfl⟩, ⟨rfl, rfl⟩, ⟨rfl, rfl⟩, trivial⟩ ?_
        · show V.fz 5 (.vec 0 1 (q1.map intV)) (.osl (.loc 5) 0 0 (q.map intV).length) = pathV q1
          simp [V.fz, frzRef, pathV, ← hl2]
        have hbo : backO o = mkO l1 q1 a1 (bif decide (q = o.to) && decide (a1 < d) then d + 1 else d) := by
          rw [hbk]
          unfold backS
          simp only [← ha1, ← ht1, ← hq1]
        have hS := w_refSame q o.to hql
        refine go 60 ?_
        show CallThen _ _ _ _ _ _
        refine call_pure hS rfl ?_
        rintro x rfl
        refine ⟨fun g7 => go 60 ?_, fun g7 => ?_⟩
        · refine ⟨fun g8 => ?_, fun g8 => ?_⟩
          · refine go 5 ?_
            refine ⟨by constructor <;> omega, ?_⟩
            exact tailC (l1, q1, a1, d + 1) _ _ ⟨⟨by rw [hbo]; simp only [g7, g8, Bool.true_and, Bool.false_and, cond_true, cond_false], by simp only; omega, by simp only; omega⟩, ⟨⟨rfl, rfl⟩, ⟨rfl, rfl⟩, ⟨rfl, rfl⟩, ⟨rfl, rfl⟩, ⟨rfl, rfl⟩, ⟨rfl, rfl⟩, ⟨rfl, rfl⟩, trivial⟩, ⟨⟨rfl, rfl⟩, ⟨rfl, rfl⟩, ⟨rfl, rfl⟩, ⟨rfl, rfl⟩, trivial⟩⟩

          · refine go 1 ?_
            exact tailC (l1, q1, a1, d) _ _ ⟨⟨by rw [hbo]; simp only [g7, g8, Bool.true_and, Bool.false_and, cond_true, cond_false], by simp only; omega, by simp only; omega⟩, ⟨⟨rfl, rfl⟩, ⟨rfl, rfl⟩, ⟨rfl, rfl⟩, ⟨rfl, rfl⟩, ⟨rfl, rfl⟩, ⟨rfl, rfl⟩, ⟨rfl, rfl⟩, trivial⟩, ⟨⟨rfl, rfl⟩, ⟨rfl, rfl⟩, ⟨rfl, rfl⟩, ⟨rfl, rfl⟩, trivial⟩⟩

        · refine go 7 ?_
          exact tailC (l1, q1, a1, d) _ _ ⟨⟨by rw [hbo]; simp only [g7, Bool.true_and, Bool.false_and, cond_true, cond_false], by simp only; omega, by simp only; omega⟩, ⟨⟨rfl, rfl⟩, ⟨rfl, rfl⟩, ⟨rfl, rfl⟩, ⟨rfl, rfl⟩, ⟨rfl, rfl⟩, ⟨rfl, rfl⟩, ⟨rfl, rfl⟩, trivial⟩, ⟨⟨rfl, rfl⟩, ⟨rfl, rfl⟩, ⟨rfl, rfl⟩, ⟨rfl, rfl⟩, trivial⟩⟩

  · rintro ⟨l1, q1, a1, d1⟩ ⟨hbo, hc1, hc2⟩
    simp only at hbo hc1 hc2
    show Goes _ (.code _ :: _) _ _
    refine go 60 ?_
    show CallThen _ _ _ _ _ _
    refine call_wk (args' := [opV (mkO (l1) (q1) (a1) (d1))]) ⟨.inr ⟨rfl, rfl, Wk.agg (mkO_wk (l1) (q1) (a1) (d1))⟩, trivial⟩ ?_
    refine call_pure (w_refFormed (mkO (l1) (q1) (a1) (d1)) (mkO_ok (l1) (q1) (a1) (d1) (by first | omega | (simp only [incAt_len]; omega)) (by first | omega | (simp only [incAt_len]; omega))).lt (mkO_ok (l1) (q1) (a1) (d1) (by first | omega | (simp only [incAt_len]; omega)) (by first | omega | (simp only [incAt_len]; omega))).each) rfl ?_
    rintro x rfl
    refine ⟨fun u1 => go 60 ?_, fun u1 => go 60 ?_⟩
    · have e : refBackO t o = (mkO (l1) (q1) (a1) (d1)) := by
        unfold refBackO
        rw [hbo, u1]
        rfl
      exact ⟨trivial, rfl, rfl, rfl, opV (mkO (l1) (q1) (a1) (d1)), Wk.agg (mkO_wk (l1) (q1) (a1) (d1)), rfl, congrArg opV e.symm⟩
    show CallThen _ _ _ _ _ _
    refine call_wk (args' := [nodeV (applyR t o).1, opV (mkO (l1) (q1) (a1) (d1))]) ⟨.inl rfl, .inr ⟨rfl, rfl, Wk.agg (mkO_wk (l1) (q1) (a1) (d1))⟩, trivial⟩ ?_
    refine call_pure (w_refApply (applyR t o).1 (mkO (l1) (q1) (a1) (d1)) (by omega) (mkO_ok (l1) (q1) (a1) (d1) (by first | omega | (simp only [incAt_len]; omega)) (by first | omega | (simp only [incAt_len]; omega)))) rfl ?_
    rintro x rfl
    refine ⟨fun u2 => go 60 ?_, fun u2 => go 60 ?_⟩
    · have u2 := ne_of' u2
      have e : refBackO t o = noOp 0 := by
        unfold refBackO
        rw [hbo, u1, decide_eq_false u2]
        rfl
      exact ⟨trivial, rfl, rfl, rfl, opV (noOp 0), Wk.agg ⟨.refl _, Wk.nil 1, .refl _, Wk.nil 1, .refl _, Wk.ff, .refl _, .refl _, .refl _, Wk.ff, Wk.nil 3, trivial⟩, rfl, congrArg opV e.symm⟩
    have u2 := eq_of' u2
    have hbw := applyR_weight (applyR t o).1 (mkO (l1) (q1) (a1) (d1))
    have hbc : costO (mkO (l1) (q1) (a1) (d1)) = 2 := rfl
    show CallThen _ _ _ _ _ _
    refine call_pure (w_refSameT (applyR (applyR t o).1 (mkO (l1) (q1) (a1) (d1))).1 t (by omega)) rfl ?_
    rintro x rfl
    refine ⟨fun u3 => go 60 ?_, fun u3 => go 60 ?_⟩
    · have u3 : sameT true (applyR (applyR t o).1 (mkO (l1) (q1) (a1) (d1))).1 t = false := by simpa using u3
      have e : refBackO t o = noOp 0 := by
        unfold refBackO
        rw [hbo, u1, u3, Bool.and_false]
        rfl
      exact ⟨trivial, rfl, rfl, rfl, opV (noOp 0), Wk.agg ⟨.refl _, Wk.nil 1, .refl _, Wk.nil 1, .refl _, Wk.ff, .refl _, .refl _, .refl _, Wk.ff, Wk.nil 3, trivial⟩, rfl, congrArg opV e.symm⟩
    · have u3 : sameT true (applyR (applyR t o).1 (mkO (l1) (q1) (a1) (d1))).1 t = true := by simpa using u3
      have e : refBackO t o = (mkO (l1) (q1) (a1) (d1)) := by
        unfold refBackO
        rw [hbo, u1, u3, decide_eq_true u2]
        rfl
      exact ⟨trivial, rfl, rfl, rfl, opV (mkO (l1) (q1) (a1) (d1)), Wk.agg (mkO_wk (l1) (q1) (a1) (d1)), rfl, congrArg opV e.symm⟩
end Bow
/- W102: what stands of operations of all kinds: the document's. -/
namespace Bow
open Go Go.Proofs

theorem w_refAtB (t : Tree) (p : List Int) (hp : p.length ≤ 1000000) : Pure Tryz.prog 35 [nodeV t, pathV p] (fun x => x = .tup [nodeV (nodeAt t p), .bool (atT t p).isSome]) := by
  refine pure_wk ((w_refAt t p hp).mono fun x hx => ⟨_, ?_, ?_, rfl⟩)
  · rw [hx]
    unfold nodeAt
    cases atT t p with
    | none => exact Wk.tup ⟨.refl _, Wk.ff, trivial⟩
    | some s => exact Wk.tup ⟨.refl _, Wk.tt, trivial⟩
  · rfl
end Bow
/- W152: what undoes an operation by the document: bowerref09.Of (its back, for moves, is asked of the caller). -/
namespace Bow
open Go Go.Proofs

def refOfP (t : Tree) (o bk : OpT) : List OpT × Int :=
  bif decide (ValidE t o = 0) then (bif o.kind == 2 then (makeL o.path.dropLast (o.path.getLast?.getD 0) (nodeAt t o.path), 0)
    else bif o.kind == 6 && !(decide ((invE (nodeAt t o.path).text o.pieces).2 = 0)) then ([], (invE (nodeAt t o.path).text o.pieces).2)
    else ([bif o.kind == 3 then bk else outO (nodeAt t o.path) o], 0)) else ([], ValidE t o)
set_option pp.maxSteps 400 in
set_option maxHeartbeats 4000000 in
set_option maxRecDepth 100000 in
theorem w_refOf (t : Tree) (o bk : OpT) (ht : t.weight ≤ 40000) (ho : o.Ok) (hbk : o.kind = 3 → ValidE t o = 0 → Pure Tryz.prog 37 [nodeV t, opV o] (fun x => x = opV bk)) : Pure Tryz.prog 17 [nodeV t, opV o] (fun x => x = ofV (refOfP t o bk)) := by
  refine pure_wk (pure_fn 60 Tryz.func17 rfl rfl rfl fun B => ?_)
  show CallThen _ _ _ _ _ _
  refine call_pure (w_refValid t o (by omega) ho) rfl ?_
  rintro x rfl
  refine ⟨fun k0 => go 60 ?_, fun k0 => go 60 ?_⟩
  · have k0 := ne_of' k0
    have e : refOfP t o bk = ([], ValidE t o) := by
      unfold refOfP
      rw [decide_eq_false k0]
      rfl
    rw [e]
    exact ⟨trivial, rfl, rfl, rfl, .tup [.sl 11 [], .int .i64 (ValidE t o)], Wk.tup ⟨Wk.nil 11, .refl _, trivial⟩, rfl, rfl⟩
  have k0 := eq_of' k0
  have hs := valid_sound k0
  have hf : formedB o = true := by
    unfold soundO at hs
    exact (Bool.and_eq_true_iff.1 hs).1
  have hpl := may_len (formed_path hf)
  show CallThen _ _ _ _ _ _
  refine call_pure (w_refCopied o.path ho.lt.path) rfl ?_
  rintro x rfl
  show CallThen _ _ _ _ _ _
  refine call_pure (w_refAtB t o.path ho.lt.path) rfl ?_
  rintro x rfl
  have hx1 := nodeAt_weight t o.path
  have hR : refOfP t o bk = (bif o.kind == 2 then (makeL o.path.dropLast (o.path.getLast?.getD 0) (nodeAt t o.path), 0)
    else bif o.kind == 6 && !(decide ((invE (nodeAt t o.path).text o.pieces).2 = 0)) then ([], (invE (nodeAt t o.path).text o.pieces).2)
    else ([bif o.kind == 3 then bk else outO (nodeAt t o.path) o], 0)) := by
    unfold refOfP
    rw [decide_eq_true k0]
    rfl
  rw [hR]
  obtain ⟨x, hx⟩ : ∃ x, nodeAt t o.path = x := ⟨_, rfl⟩
  rw [hx] at hx1 ⊢
  have hwq := weight_eq x
  have hso : o.kind = 2 ∨ o.kind = 3 → o.path ≠ [] := fun h e => by
    unfold soundO at hs
    rw [hf, e] at hs
    rcases h with h | h <;> simp [h] at hs
  refine ⟨fun k1 => go 60 ?_, fun k1 => go 60 ?_⟩
  · have k1 := eq_of k1
    rw [show (o.kind == 2) = false by rw [k1]; rfl, show (o.kind == 3) = false by rw [k1]; rfl, show (o.kind == 6) = false by rw [k1]; rfl]
    rw [show outO x o = { noOp 2 with path := o.path ++ [o.at_] } by unfold outO; rw [k1]; rfl]
    show CallThen _ _ _ _ _ _
    refine call_pure (w_refChild4 o.path o.at_ (by omega)) rfl ?_
    rintro y rfl
    refine ⟨fun k => go 60 ?_, fun k => go 60 ?_⟩
    · exact absurd k0 (ne_of' k)
    exact ⟨⟨rfl, trivial⟩, trivial, rfl, rfl, rfl, rfl, rfl, .tup [opsV [{ noOp 2 with path := o.path ++ [o.at_] }], .int .i64 0], Wk.tup ⟨Wk.sl ⟨⟨⟨.refl _, .refl _, .refl _, Wk.nil 1, .refl _, Wk.ff, .refl _, .refl _, .refl _, Wk.ff, Wk.nil 3, trivial⟩, okE_op _⟩, trivial⟩, .refl _, trivial⟩, rfl, rfl⟩
  have k1 := ne_of k1
  refine ⟨fun k2 => go 60 ?_, fun k2 => go 60 ?_⟩
  · have k2 := eq_of k2
    have hne := hso (.inl k2)
    have hpos : 0 < o.path.length := List.length_pos_iff.2 hne
    rw [show (o.kind == 2) = true by rw [k2]; rfl, List.getLast?_eq_some_getLast hne]
    have e1 : ((((o.path.map intV).drop (Int.toNat 0)).take ((((o.path.map intV).length : Int) - 1).toNat - Int.toNat 0))) = (o.path.dropLast.map intV) := by
      rw [List.dropLast_eq_take, List.map_take]
      show ((o.path.map intV).drop 0).take _ = _
      rw [List.drop_zero]
      congr 1
      simp
    have hxx : (o.path.map intV)[(((o.path.map intV).length : Int) - 1).toNat]? = some (intV (o.path.getLast hne)) := by
      rw [List.getElem?_map, List.getLast_eq_getElem]
      have : (((o.path.map intV).length : Int) - 1).toNat = o.path.length - 1 := by simp
      rw [this, List.getElem?_eq_getElem (by omega)]
      rfl
    have hM := w_refMake x o.path.dropLast (o.path.getLast hne) (by rw [List.length_dropLast]; omega)
    unfold pathV at hM
    rw [← e1] at hM
    have b1 : -9223372036854775808 ≤ ((o.path.map intV).length : Int) - 1 ∧ ((o.path.map intV).length : Int) - 1 ≤ 9223372036854775807 := by constructor <;> simp <;> omega
    have b2 : (0 : Int) ≤ ((o.path.map intV).length : Int) - 1 := by simp; omega
    have b3 : ((o.path.map intV).length : Int) - 1 ≤ ((o.path.map intV).length : Int) := by omega
    show Goes _ (.code (.region _ _ true) :: _) _ _
    refine goes_drawX [] 60 ?_
    refine ⟨b1, ?_⟩
    refine ⟨by decide, b2, b3, ?_⟩
    refine ⟨b1, ?_⟩
    refine ⟨b2, _, hxx, ?_⟩
    refine ⟨_, hM, rfl, ?_⟩
    refine ⟨by kernel_rfl, ?_⟩
    exact ⟨trivial, rfl, rfl, rfl, _, Wk.refl _, rfl, rfl⟩
  have k2 := ne_of k2
  refine ⟨fun k3 => go 60 ?_, fun k3 => go 60 ?_⟩
  · have k3 := eq_of k3
    rw [show (o.kind == 2) = false by rw [k3]; rfl, show (o.kind == 3) = true by rw [k3]; rfl, show (o.kind == 6) = false by rw [k3]; rfl]
    show CallThen _ _ _ _ _ _
    refine call_pure (hbk k3 k0) rfl ?_
    rintro y rfl
    refine ⟨fun k => go 60 ?_, fun k => go 60 ?_⟩
    · exact absurd k0 (ne_of' k)
    exact ⟨⟨rfl, trivial⟩, trivial, rfl, rfl, rfl, rfl, rfl, .tup [opsV [bk], .int .i64 0], Wk.tup ⟨Wk.sl ⟨⟨(WkL.refl _), okE_op _⟩, trivial⟩, .refl _, trivial⟩, rfl, rfl⟩
  have k3 := ne_of k3
  refine ⟨fun k4 => go 60 ?_, fun k4 => go 60 ?_⟩
  · have k4 := eq_of k4
    rw [show (o.kind == 2) = false by rw [k4]; rfl, show (o.kind == 3) = false by rw [k4]; rfl, show (o.kind == 6) = false by rw [k4]; rfl]
    rw [show outO x o = { noOp 4 with path := o.path, key := o.key, value := (attrP x.attrs o.key).1, gone := !(attrP x.attrs o.key).2 } by unfold outO; rw [k4]; rfl]
    show CallThen _ _ _ _ _ _
    refine call_pure (w_refAttr x o.key (by omega)) rfl ?_
    rintro y rfl
    refine ⟨fun k => go 60 ?_, fun k => go 60 ?_⟩
    · exact absurd k0 (ne_of' k)
    exact ⟨⟨rfl, trivial⟩, trivial, rfl, rfl, rfl, rfl, rfl, .tup [opsV [{ noOp 4 with path := o.path, key := o.key, value := (attrP x.attrs o.key).1, gone := !(attrP x.attrs o.key).2 }], .int .i64 0], Wk.tup ⟨Wk.sl ⟨⟨⟨by rw [k4]; exact .refl _, .refl _, .refl _, Wk.nil 1, .refl _, Wk.ff, .refl _, .refl _, .refl _, .refl _, Wk.nil 3, trivial⟩, okE_op _⟩, trivial⟩, .refl _, trivial⟩, rfl, rfl⟩
  have k4 := ne_of k4
  refine ⟨fun k5 => go 60 ?_, fun k5 => go 60 ?_⟩
  · have k5 := eq_of k5
    rw [show (o.kind == 2) = false by rw [k5]; rfl, show (o.kind == 3) = false by rw [k5]; rfl, show (o.kind == 6) = false by rw [k5]; rfl]
    rw [show outO x o = { noOp 5 with path := o.path, label := x.label } by unfold outO; rw [k5]; rfl]
    refine ⟨fun k => go 60 ?_, fun k => go 60 ?_⟩
    · exact absurd k0 (ne_of' k)
    exact ⟨⟨rfl, trivial⟩, trivial, rfl, rfl, rfl, rfl, rfl, .tup [opsV [{ noOp 5 with path := o.path, label := x.label }], .int .i64 0], Wk.tup ⟨Wk.sl ⟨⟨⟨by rw [k5]; exact .refl _, .refl _, .refl _, Wk.nil 1, .refl _, Wk.ff, .refl _, .refl _, .refl _, Wk.ff, Wk.nil 3, trivial⟩, okE_op _⟩, trivial⟩, .refl _, trivial⟩, rfl, rfl⟩
  have k5 := ne_of k5
  have k6 : o.kind = 6 := by
    rcases formed_kinds hf with h | h | h | h | h | h
    · exact absurd h k1
    · exact absurd h k2
    · exact absurd h k3
    · exact absurd h k4
    · exact absurd h k5
    · exact h
  refine ⟨fun k7 => go 60 ?_, fun k7 => go 60 ?_⟩
  rotate_left
  · exact absurd k6 (ne_of k7)
  clear k7
  rw [show (o.kind == 2) = false by rw [k6]; rfl, show (o.kind == 3) = false by rw [k6]; rfl, show (o.kind == 6) = true by rw [k6]; rfl]
  rw [show outO x o = { noOp 6 with path := o.path, pieces := (invE x.text o.pieces).1 } by unfold outO; rw [k6]; rfl]
  show CallThen _ _ _ _ _ _
  refine call_pure (w_refInvert x.text o.pieces (by omega) ho.lt.pieces (fun p hp => ho.each p hp)) rfl ?_
  rintro y rfl
  refine ⟨fun k8 => go 60 ?_, fun k8 => go 60 ?_⟩
  · have k8 := ne_of' k8
    rw [decide_eq_false k8]
    exact ⟨trivial, rfl, rfl, rfl, .tup [.sl 11 [], .int .i64 (invE x.text o.pieces).2], Wk.tup ⟨Wk.nil 11, .refl _, trivial⟩, rfl, rfl⟩
  have k8 := eq_of' k8
  rw [decide_eq_true k8]
  exact ⟨⟨rfl, trivial⟩, trivial, rfl, rfl, rfl, rfl, rfl, .tup [opsV [{ noOp 6 with path := o.path, pieces := (invE x.text o.pieces).1 }], .int .i64 0], Wk.tup ⟨Wk.sl ⟨⟨⟨by rw [k6]; exact .refl _, .refl _, .refl _, Wk.nil 1, .refl _, Wk.ff, .refl _, .refl _, .refl _, Wk.ff, .refl _, trivial⟩, okE_op _⟩, trivial⟩, .refl _, trivial⟩, rfl, rfl⟩
end Bow
/- W153: what undoes a list by the document: bowerref09.OfAll. -/
namespace Bow
open Go Go.Proofs

/-- What the walks of a list ask of each operation. -/
structure OkM (o : OpT) : Prop where
  ok : o.Ok
  to : o.to.length ≤ 100000
  cost : costO o ≤ 100000
  pm : ∀ n ∈ o.path, Mid n
  tm : ∀ n ∈ o.to, Mid n
  am : Mid o.at_
def refOfQ (t : Tree) (o : OpT) : List OpT × Int := refOfP t o (refBackO t o)
theorem w_refOfQ (t : Tree) (o : OpT) (ht : t.weight ≤ 40000) (ho : OkM o) : Pure Tryz.prog 17 [nodeV t, opV o] (fun x => x = ofV (refOfQ t o)) := by
  refine w_refOf t o _ ht ho.ok fun hk hv => w_refBack t o ht ho.ok ho.to ho.cost (fun e => ?_) ho.pm ho.tm ho.am
  have hs := valid_sound hv
  unfold soundO at hs
  rw [(Bool.and_eq_true_iff.1 hs).1, e] at hs
  simp [hk] at hs
def refAllL : Tree → List OpT → List OpT → Nat → List OpT × Nat × Int
  | _, [], acc, i => (acc, i, 0)
  | t, o :: l, acc, i => bif decide ((refOfQ t o).2 = 0) then refAllL (applyR t o).1 l ((refOfQ t o).1 ++ acc) (i + 1) else ([], i, (refOfQ t o).2)
def refOfAllP (t : Tree) (l : List OpT) : List OpT × Nat × Int :=
  bif decide ((AllR t l).2.2 = 0) then refAllL t l [] 0 else ([], (AllR t l).2.1, (AllR t l).2.2)
def ofAllV (r : List OpT × Nat × Int) : V := .tup [opsV r.1, .int .i64 r.2.1, .int .i64 r.2.2]
theorem refOf_len (t : Tree) (o : OpT) : (refOfQ t o).1.length ≤ 3 * t.weight + 40 := by
  unfold refOfQ refOfP
  cases decide (ValidE t o = 0) with
  | false => simp
  | true =>
    simp only [cond_true]
    cases o.kind == 2 with
    | true =>
      have h1 := nodeAt_weight t o.path
      have h2 := mak_len (o.path.dropLast ++ [o.path.getLast?.getD 0]) (nodeAt t o.path)
      simp only [cond_true]
      unfold makeL
      omega
    | false =>
      simp only [cond_false]
      cases (o.kind == 6 && !(decide ((invE (nodeAt t o.path).text o.pieces).2 = 0))) with
      | true => simp
      | false => simp
set_option pp.maxSteps 400 in
set_option maxHeartbeats 4000000 in
set_option maxRecDepth 100000 in
theorem w_refOfAll (t : Tree) (l : List OpT) (hw : t.weight + costs l ≤ 40000) (hl : l.length ≤ 7) (hok : ∀ o ∈ l, OkM o) : Pure Tryz.prog 26 [nodeV t, opsV l] (fun x => x = ofAllV (refOfAllP t l)) := by
  refine pure_wk (pure_fn 60 Tryz.func26 rfl rfl rfl fun B => ?_)
  show CallThen _ _ _ _ _ _
  refine call_pure (w_refApplyAll t l (by omega) (by omega) fun o ho => (hok o ho).ok) rfl ?_
  rintro x rfl
  refine ⟨fun g => go 60 ?_, fun g => go 60 ?_⟩
  · have g := ne_of' g
    have e : refOfAllP t l = ([], (AllR t l).2.1, (AllR t l).2.2) := by unfold refOfAllP; rw [decide_eq_false g]; rfl
    rw [e]
    exact ⟨trivial, rfl, rfl, rfl, .tup [.sl 11 [], .int .i64 (AllR t l).2.1, .int .i64 (AllR t l).2.2], Wk.tup ⟨Wk.nil 11, .refl _, .refl _, trivial⟩, rfl, rfl⟩
  have g := eq_of' g
  have e : refOfAllP t l = refAllL t l [] 0 := by unfold refOfAllP; rw [decide_eq_true g]; rfl
  rw [e]
  show Goes { P := Tryz.prog, nt := Tryz.f26.ntmps, fn := 26, ro := none, imps := [], X := XR Tryz.prog [] Tryz.f26.results B fun x T => frz x T False fun x' _ => x'.pureB = true ∧ ∃ y, Wk x' y ∧ y.pureB = true ∧ y = ofAllV (refAllL t l [] 0), B := B, D := [] } _ _ _
  refine goes_wkSlot 10 (v := .nilsl) (v' := .sl 11 []) rfl rfl rfl (Wk.nil 11) ?_
  show Goes _ _ _ _
  refine goes_iter (ι := Nat × Tree × List OpT) (fun i => i.1 ≤ l.length ∧ i.2.1.weight + costs (l.drop i.1) ≤ 40000 ∧ i.2.2.length ≤ 120100 * i.1 ∧ refAllL i.2.1 (l.drop i.1) i.2.2 i.1 = refAllL t l [] 0) (fun i => l.length - i.1)
    (fun i => [(11, .int .i64 i.1), (10, opsV i.2.2), (1, opsV l), (2, .ptr (.loc 0) 0)]) (fun i => [some (.box (nodeV i.2.1).cells)]) (0, t, []) 60 (fun _ => rfl) (fun _ => rfl) ⟨⟨Nat.zero_le _, hw, Nat.zero_le _, rfl⟩, ⟨⟨rfl, rfl⟩, ⟨rfl, rfl⟩, ⟨rfl, rfl⟩, ⟨rfl, rfl⟩, trivial⟩, ⟨⟨rfl, rfl⟩, trivial⟩⟩ ?_
  rintro ⟨i, u, acc⟩ ⟨k1, k2, k3, k4⟩ next
  simp only at k1 k2 k3 k4
  refine ⟨fun hlt => go 60 ?_, fun hge => go 60 ?_⟩
  · have hi : i < l.length := by simpa using hlt
    have hx : (l.map opV)[i]? = some (opV l[i]) := by simp [hi]
    rw [List.drop_eq_getElem_cons hi, refAllL] at k4
    rw [List.drop_eq_getElem_cons hi, costs] at k2
    have ho := hok _ (List.getElem_mem hi)
    have hof := w_refOfQ u l[i] (by omega) ho
    have hap := w_refApply u l[i] (by omega) ho.ok
    have hle := refOf_len u l[i]
    generalize l[i] = o at hx k4 k2 ho hof hap hle
    show Goes _ _ _ _
    refine goes_drawX [] 60 ⟨Int.natCast_nonneg i, _, hx, _, hof, rfl, ?_⟩
    refine ⟨by kernel_rfl, ?_⟩
    refine ⟨fun g1 => go 60 ?_, fun g1 => go 60 ?_⟩
    · have g1 := ne_of' g1
      rw [decide_eq_false g1] at k4
      rw [← k4]
      exact ⟨trivial, rfl, rfl, rfl, .tup [.sl 11 [], .int .i64 i, .int .i64 (refOfQ u o).2], Wk.tup ⟨Wk.nil 11, .refl _, .refl _, trivial⟩, rfl, rfl⟩
    have g1 := eq_of' g1
    rw [decide_eq_true g1] at k4
    have hwt := applyR_weight u o
    generalize (refOfQ u o).1 = row at hle k4
    show Goes _ (.code (.region _ _ true) :: _) _ _
    refine goes_drawX [] 0 ⟨Int.natCast_nonneg i, _, hx, _, hap, rfl, ?_⟩
    refine ⟨by kernel_rfl, ?_⟩
    show Goes _ _ _ _
    refine goes_to [(12, opsV row), (11, .int .i64 i), (10, opsV acc), (1, opsV l), (2, .ptr (.loc 0) 0)] [some (.box (nodeV (applyR u o).1).cells)] rfl (Nat.zero_le _) ⟨⟨rfl, rfl⟩, ⟨rfl, rfl⟩, ⟨rfl, rfl⟩, ⟨rfl, rfl⟩, ⟨rfl, rfl⟩, trivial⟩ ⟨⟨rfl, rfl⟩, trivial⟩ ?_
    refine go 60 ?_
    refine ⟨Nat.le_trans (Nat.mul_le_mul_right _ (show _ ≤ 1000001 by simp only [List.length_map]; omega)) (by decide), ?_⟩
    refine ⟨rfl, rfl, Nat.le_trans (Nat.mul_le_mul_right _ (show _ ≤ 1000001 by simp only [List.length_map]; omega)) (by decide), ?_⟩
    refine ⟨by constructor <;> omega, ?_⟩
    show Goes _ _ _ _
    refine goes_fzSlot 10 1 rfl rfl (by simp) ?_
    refine next (i + 1, (applyR u o).1, row ++ acc) _ _ ⟨⟨hi, by simp only; omega, by simp only [List.length_append]; omega, k4⟩, by simp only; omega, ⟨⟨rfl, rfl⟩, ⟨?_, rfl⟩, ⟨rfl, rfl⟩, ⟨rfl, rfl⟩, trivial⟩, ⟨⟨rfl, rfl⟩, trivial⟩⟩
    exact congrArg (V.sl 11) (List.map_append).symm
  · have hi : i = l.length := by have := not_lt_of hge; simp at this; omega
    subst hi
    rw [List.drop_length, refAllL] at k4
    refine ⟨trivial, rfl, rfl, rfl, ?_⟩
    rw [← k4]
    exact ⟨_, Wk.refl _, rfl, by simp [ofAllV]; rfl⟩
end Bow
/- W154: what undoes a list: slices.Reverse, invert.OfAll. -/
namespace Bow
open Go Go.Proofs

/-- A row, so many of its ends already changed for one another. -/
def RevI (xs ys : List V) (i : Nat) : Prop := ys.length = xs.length ∧ ∀ k, k < xs.length → ys[k]? = if k < i ∨ xs.length ≤ k + i then xs[xs.length - 1 - k]? else xs[k]?
theorem revI_zero (xs : List V) : RevI xs xs 0 := ⟨rfl, fun k h => by rw [if_neg (by omega)]⟩
theorem revI_done {xs ys : List V} {i : Nat} (h : RevI xs ys i) (hi : xs.length ≤ 2 * i + 1) : ys = xs.reverse := by
  obtain ⟨h1, h2⟩ := h
  refine List.ext_getElem? fun k => ?_
  rcases Nat.lt_or_ge k xs.length with hk | hk
  · rw [h2 k hk, List.getElem?_reverse hk]
    split
    · rfl
    · congr 1
      omega
  · rw [List.getElem?_eq_none (by omega), List.getElem?_eq_none (by simpa using hk)]
theorem revI_step {xs ys : List V} {i : Nat} {a b : V} (h : RevI xs ys i) (hi : 2 * i + 1 < xs.length) (ha : ys[i]? = some a) (hb : ys[xs.length - 1 - i]? = some b) : RevI xs ((ys.set i b).set (xs.length - 1 - i) a) (i + 1) := by
  obtain ⟨h1, h2⟩ := h
  refine ⟨by simpa using h1, fun k hk => ?_⟩
  have e1 := h2 i (by omega)
  have e2 := h2 (xs.length - 1 - i) (by omega)
  rw [if_neg (by omega), ha] at e1
  rw [if_neg (by omega), hb] at e2
  rw [List.getElem?_set, List.getElem?_set]
  by_cases c1 : xs.length - 1 - i = k
  · subst c1
    rw [if_pos rfl, if_pos (by simp; omega), if_pos (by omega), e1]
    congr 1
    omega
  · rw [if_neg c1]
    by_cases c2 : i = k
    · subst c2
      rw [if_pos rfl, if_pos (by omega), if_pos (by omega), e2]
    · rw [if_neg c2, h2 k hk]
      by_cases c3 : k < i ∨ xs.length ≤ k + i
      · rw [if_pos c3, if_pos (by omega)]
      · rw [if_neg c3, if_neg (by omega)]
set_option pp.maxSteps 400 in
set_option maxHeartbeats 4000000 in
set_option maxRecDepth 100000 in
theorem w_RevRows (g : Nat) (l : List (List OpT)) (hl : l.length ≤ 1000000) : Fun Tryz.prog 51 [some (.vec g 1 (l.map opsV))] [.osl (.loc 0) g 0 (l.map opsV).length] (fun v T => v = .tup [] ∧ T = [some (.vec g 1 (l.reverse.map opsV))]) := by
  refine fun_fn 60 Tryz.func51 rfl rfl rfl fun imps B hi => ?_
  obtain ⟨p, rfl⟩ : ∃ p, imps = [p] := List.length_eq_one_iff.1 hi
  have hlm : (l.map opsV).length = l.length := List.length_map ..
  refine ⟨rfl, ?_⟩
  refine ⟨by constructor <;> omega, ?_⟩
  show Goes _ _ _ _
  refine goes_iter (ι := Nat × List V) (fun i => i.1 ≤ l.length ∧ RevI (l.map opsV) i.2 i.1 ∧ ∀ y ∈ i.2, ∃ r, y = opsV r) (fun i => l.length - i.1)
    (fun i => [(3, .int .i64 (((l.map opsV).length : Int) - 1 - i.1)), (2, .int .i64 i.1), (0, .osl (.loc 0) g 0 (l.map opsV).length)]) (fun i => [some (.vec g 1 i.2)]) (0, l.map opsV) 60 (fun _ => rfl) (fun _ => rfl) ⟨⟨Nat.zero_le _, revI_zero _, fun y hy => by obtain ⟨r, _, rfl⟩ := List.mem_map.1 hy; exact ⟨r, rfl⟩⟩, ⟨⟨?_, rfl⟩, ⟨rfl, rfl⟩, ⟨rfl, rfl⟩, trivial⟩, ⟨⟨rfl, rfl⟩, trivial⟩⟩ ?_
  · simp [lk]
  rintro ⟨i, ys⟩ ⟨k1, k2, k3⟩ next
  simp only at k1 k2 k3
  refine ⟨fun hlt => go 60 ?_, fun hge => go 60 ?_⟩
  · have hlt := lt_of hlt
    have hyl := k2.1
    have hi : i < ys.length := by omega
    have hj : ys.length - 1 - i < ys.length := by omega
    have hx1 : ys[0 + ((i : Nat) : Int).toNat]? = some ys[i] := by simp [hi]
    have hx2 : ys[0 + (((l.map opsV).length : Int) - 1 - i).toNat]? = some (ys[ys.length - 1 - i]) := by
      rw [show 0 + (((l.map opsV).length : Int) - 1 - i).toNat = ys.length - 1 - i by omega, List.getElem?_eq_getElem hj]
    obtain ⟨r1, e1⟩ := k3 _ (List.getElem_mem hi)
    obtain ⟨r2, e2⟩ := k3 _ (List.getElem_mem hj)
    rw [e1] at hx1
    rw [e2] at hx2
    show Goes _ (.code (.region _ _ true) :: _) _ _
    refine goes_drawX [] 60 ?_
    have hB : (0 : Int) ≤ ((l.map opsV).length : Int) - 1 - i := by omega
    have hB2 : ((l.map opsV).length : Int) - 1 - i < ((l.map opsV).length : Int) := by omega
    have hi2 : ((i : Nat) : Int) < ((l.map opsV).length : Int) := by omega
    refine ⟨rfl, hB, hB2, ?_⟩
    refine ⟨rfl, _, hx2, ?_⟩
    refine ⟨rfl, Int.natCast_nonneg i, hi2, ?_⟩
    refine ⟨rfl, _, hx1, ?_⟩
    refine ⟨rfl, Int.natCast_nonneg i, hi2, ?_⟩
    refine ⟨rfl, _, hx1, ?_⟩
    refine ⟨rfl, hB, hB2, ?_⟩
    have hx3 : (ys.set (0 + ((i : Nat) : Int).toNat) (opsV r2))[0 + (((l.map opsV).length : Int) - 1 - i).toNat]? = some (opsV r2) := by
      rw [List.getElem?_set_ne (by omega)]
      exact hx2
    refine ⟨rfl, _, hx3, ?_⟩
    refine ⟨by kernel_rfl, ?_⟩
    refine ⟨by constructor <;> omega, ?_⟩
    refine ⟨by constructor <;> omega, ?_⟩
    show Goes _ _ _ _
    have hset : ((ys.set (0 + ((i : Nat) : Int).toNat) (opsV r2)).set (0 + (((l.map opsV).length : Int) - 1 - i).toNat) (opsV r1)) = ((ys.set i (opsV r2)).set ((l.map opsV).length - 1 - i) (opsV r1)) := by
      congr 1
      · congr 1
        omega
      · omega
    refine next (i + 1, (ys.set i (opsV r2)).set ((l.map opsV).length - 1 - i) (opsV r1)) _ _ ⟨⟨by omega, revI_step k2 (by omega) ?_ ?_, ?_⟩, by simp only; omega, ⟨⟨?_, rfl⟩, ⟨rfl, rfl⟩, ⟨rfl, rfl⟩, trivial⟩, ⟨⟨congrArg (fun z => some (HObj.vec g 1 z)) hset, rfl⟩, trivial⟩⟩
    · simpa using hx1
    · have := hx2
      rwa [show 0 + (((l.map opsV).length : Int) - 1 - i).toNat = (l.map opsV).length - 1 - i by omega] at this
    · intro y hy
      rcases List.mem_or_eq_of_mem_set hy with hy | rfl
      · rcases List.mem_or_eq_of_mem_set hy with hy | rfl
        · exact k3 y hy
        · exact ⟨_, rfl⟩
      · exact ⟨_, rfl⟩
    · show V.int .i64 _ = V.int .i64 _
      congr 1
      simp only [Int.natCast_add]
      omega
  · have hge := not_lt_of hge
    refine ⟨trivial, rfl, rfl, rfl, ?_⟩
    have e := revI_done k2 (by omega)
    show [some (HObj.vec g 1 ys)] = _
    rw [e, List.map_reverse]

theorem w_ConcatRows (ls : List (List OpT)) (h : ls.flatten.length ≤ 1000000) (hl : ls.length ≤ 1000000) : Pure Tryz.prog 52 [.sl 1 (ls.map opsV)] (fun x => x = opsV ls.flatten) := by
  have e : (ls.map (List.map opV)).flatten = ls.flatten.map opV := by rw [List.map_flatten]
  have h1 := w_ConcatOp (ls.map (List.map opV)) (by rw [e, List.length_map]; exact h) (by rw [List.length_map]; exact hl)
  rw [e, List.map_map] at h1
  exact h1
theorem flat_rev_len (ls : List (List OpT)) : ls.reverse.flatten.length = ls.flatten.length := by
  induction ls with
  | nil => rfl
  | cons a l ih => simp [List.flatten_append, ih]; omega
def ofAllL : Tree → List OpT → List (List OpT) → Nat → List OpT × Nat × Int
  | _, [], acc, i => (acc.reverse.flatten, i, 0)
  | t, o :: l, acc, i => bif decide ((ofP (nodeAt t o.path) o).2 = 0) then ofAllL (applyR t o).1 l (acc ++ [(ofP (nodeAt t o.path) o).1]) (i + 1) else ([], i, (ofP (nodeAt t o.path) o).2)
def ofAllP (t : Tree) (l : List OpT) : List OpT × Nat × Int :=
  bif decide ((AllR t l).2.2 = 0) then ofAllL t l [] 0 else ([], (AllR t l).2.1, (AllR t l).2.2)
theorem ofP_len (t : Tree) (o : OpT) : (ofP (nodeAt t o.path) o).1.length ≤ 3 * t.weight + 40 := by
  unfold ofP
  cases o.kind == 2 with
  | true =>
    have h1 := nodeAt_weight t o.path
    have h2 := mak_len (o.path.dropLast ++ [o.path.getLast?.getD 0]) (nodeAt t o.path)
    simp only [cond_true]
    unfold makeL
    omega
  | false =>
    simp only [cond_false]
    cases (o.kind == 6 && !(decide ((invE (nodeAt t o.path).text o.pieces).2 = 0))) with
    | true => simp
    | false => simp
theorem all_right {t : Tree} {l : List OpT} (h : (AllR t l).2.2 = 0) : rightT t = true ∧ (allR t l 0).2.2 = 0 := by
  unfold AllR at h
  cases hr : rightT t with
  | true => rw [hr] at h; exact ⟨rfl, h⟩
  | false => rw [hr] at h; cases h
theorem all_valid {t : Tree} {o : OpT} {l : List OpT} {i : Nat} (h : (allR t (o :: l) i).2.2 = 0) : ValidE t o = 0 ∧ (allR (applyT t o) l (i + 1)).2.2 = 0 := by
  rw [allR] at h
  by_cases hv : ValidE t o = 0
  · rw [decide_eq_true hv] at h
    exact ⟨hv, h⟩
  · rw [decide_eq_false hv] at h
    exact absurd h hv
set_option pp.maxSteps 400 in
set_option maxHeartbeats 4000000 in
set_option maxRecDepth 100000 in
theorem w_OfAll (t : Tree) (l : List OpT) (hw : t.weight + costs l ≤ 40000) (hl : l.length ≤ 7) (hok : ∀ o ∈ l, OkM o) : Pure Tryz.prog 25 [nodeV t, opsV l] (fun x => x = ofAllV (ofAllP t l)) := by
  refine pure_wk (pure_fn 60 Tryz.func25 rfl rfl rfl fun B => ?_)
  show CallThen _ _ _ _ _ _
  refine call_pure (w_ApplyAll t l (by omega) (by omega) fun o ho => (hok o ho).ok) rfl ?_
  rintro x rfl
  refine ⟨fun g => go 60 ?_, fun g => go 60 ?_⟩
  · have g := ne_of' g
    have e : ofAllP t l = ([], (AllR t l).2.1, (AllR t l).2.2) := by unfold ofAllP; rw [decide_eq_false g]; rfl
    rw [e]
    exact ⟨trivial, rfl, rfl, rfl, .tup [.sl 11 [], .int .i64 (AllR t l).2.1, .int .i64 (AllR t l).2.2], Wk.tup ⟨Wk.nil 11, .refl _, .refl _, trivial⟩, rfl, rfl⟩
  have g := eq_of' g
  have e : ofAllP t l = ofAllL t l [] 0 := by unfold ofAllP; rw [decide_eq_true g]; rfl
  rw [e]
  obtain ⟨_, hv0⟩ := all_right g
  show Goes { P := Tryz.prog, nt := Tryz.f25.ntmps, fn := 25, ro := none, imps := [], X := XR Tryz.prog [] Tryz.f25.results B fun x T => frz x T False fun x' _ => x'.pureB = true ∧ ∃ y, Wk x' y ∧ y.pureB = true ∧ y = ofAllV (ofAllL t l [] 0), B := B, D := [] } _ _ _
  refine goes_own 10 1 rfl ?_
  show Goes _ _ _ _
  refine goes_iter (ι := Nat × Nat × Tree × List (List OpT)) (fun i => i.1 ≤ l.length ∧ i.2.2.1.weight + costs (l.drop i.1) ≤ 40000 ∧ i.2.2.2.length = i.1 ∧ i.2.2.2.flatten.length ≤ 120100 * i.1 ∧ (allR i.2.2.1 (l.drop i.1) i.1).2.2 = 0 ∧ ofAllL i.2.2.1 (l.drop i.1) i.2.2.2 i.1 = ofAllL t l [] 0) (fun i => l.length - i.1)
    (fun i => [(28, .int .i64 i.1), (27, .int .i64 (l.map opV).length), (26, opsV l), (10, .osl (.loc 2) i.2.1 0 (i.2.2.2.map opsV).length), (1, opsV l), (2, .ptr (.loc 0) 0)]) (fun i => [some (.box (nodeV i.2.2.1).cells), some (.box (nodeV (AllR t l).1).cells), some (.vec i.2.1 1 (i.2.2.2.map opsV))]) (0, 0, t, []) 60 (fun _ => rfl) (fun _ => rfl) ⟨⟨Nat.zero_le _, hw, rfl, Nat.zero_le _, hv0, rfl⟩, ⟨⟨rfl, rfl⟩, ⟨rfl, rfl⟩, ⟨rfl, rfl⟩, ⟨rfl, rfl⟩, ⟨rfl, rfl⟩, ⟨rfl, rfl⟩, trivial⟩, ⟨⟨rfl, rfl⟩, ⟨rfl, rfl⟩, ⟨rfl, rfl⟩, trivial⟩⟩ ?_
  rintro ⟨i, g, u, acc⟩ ⟨k1, k2, k5, k3, k6, k4⟩ next
  simp only at k1 k2 k3 k4 k5 k6
  refine ⟨fun hlt => go 60 ?_, fun hge => go 60 ?_⟩
  · have hi : i < l.length := by simpa using hlt
    have hx : (l.map opV)[i]? = some (opV l[i]) := by simp [hi]
    rw [List.drop_eq_getElem_cons hi] at k4 k2 k6
    rw [ofAllL] at k4
    rw [costs] at k2
    obtain ⟨k6, k7⟩ := all_valid k6
    have ho := hok _ (List.getElem_mem hi)
    have hof := w_of u l[i] (by omega) ho.ok (valid_sound k6)
    have hap := w_Apply u l[i] (by omega) ho.ok
    have hle := ofP_len u l[i]
    have hwt := applyR_weight u l[i]
    have e : applyR u l[i] = (applyT u l[i], 0) := by unfold applyR; rw [decide_eq_true k6]; rfl
    generalize l[i] = o at hx k4 k2 ho hof hap hle k6 k7 hwt e
    refine ⟨Int.natCast_nonneg i, _, hx, ?_⟩
    show CallThen _ _ _ _ _ _
    refine call_pure hof rfl ?_
    rintro x rfl
    refine ⟨fun g1 => go 60 ?_, fun g1 => go 60 ?_⟩
    · have g1 := ne_of' g1
      rw [decide_eq_false g1] at k4
      rw [← k4]
      exact ⟨trivial, rfl, rfl, rfl, .tup [.sl 11 [], .int .i64 i, .int .i64 (ofP (nodeAt u o.path) o).2], Wk.tup ⟨Wk.nil 11, .refl _, .refl _, trivial⟩, rfl, rfl⟩
    have g1 := eq_of' g1
    rw [decide_eq_true g1] at k4
    generalize (ofP (nodeAt u o.path) o).1 = row at hle k4
    refine ⟨⟨rfl, trivial⟩, ?_⟩
    refine ⟨rfl, rfl, ?_⟩
    refine ⟨rfl, rfl, ?_⟩
    refine ⟨Nat.le_trans (Nat.mul_le_mul_right _ (show _ ≤ 1000001 by simp only [List.length_map, List.length_cons, List.length_nil]; omega)) (by decide), ?_⟩
    show CallThen _ _ _ _ _ _
    refine call_pure hap rfl ?_
    rintro x rfl
    refine ⟨by constructor <;> omega, ?_⟩
    show Goes _ _ _ _
    refine next (i + 1, bump g, (applyR u o).1, acc ++ [row]) _ _ ⟨⟨hi, by simp only; omega, by simp; omega, by simp only [List.flatten_append, List.length_append, List.flatten_cons, List.flatten_nil, List.append_nil]; omega, by simp only [e]; exact k7, k4⟩, by simp only; omega, ⟨⟨rfl, rfl⟩, ⟨rfl, rfl⟩, ⟨rfl, rfl⟩, ⟨?_, rfl⟩, ⟨rfl, rfl⟩, ⟨rfl, rfl⟩, trivial⟩, ⟨⟨rfl, rfl⟩, ⟨rfl, rfl⟩, ⟨?_, rfl⟩, trivial⟩⟩
    · exact congrArg (V.osl (.loc 2) (bump g) 0) (by simp)
    · exact congrArg (fun z => some (HObj.vec (bump g) 1 z)) (by simp only [List.map_append]; rfl)
  · have hi : i = l.length := by have := not_lt_of hge; simp at this; omega
    subst hi
    rw [List.drop_length, ofAllL] at k4
    rw [← k4]
    show CallThen _ _ _ _ _ _
    refine call_sub [2] (w_RevRows g acc (by omega)) rfl rfl ⟨⟨rfl, rfl⟩, trivial⟩ rfl rfl rfl ?_
    rintro x T1 ⟨rfl, rfl⟩
    refine ⟨rfl, ?_⟩
    show CallThen _ _ _ _ _ _
    refine call_pure_frz ?_
    refine ⟨rfl, by simp, _, w_ConcatRows acc.reverse (by rw [flat_rev_len]; omega) (by simp; omega), rfl, ?_⟩
    rintro x rfl
    refine ⟨trivial, rfl, rfl, rfl, _, Wk.refl _, rfl, ?_⟩
    simp only [List.length_map]
    rfl
end Bow
/- W155: the law InvertOf, walked: what undoes an operation, and its rows written over. -/
namespace Bow
open Go Go.Proofs

/-- A row of one's own of so many numbers, new since the base was this. -/
def RowS (B0 B : Base) (x : V) (n : Nat) : Prop := (n = 0 ∧ x = .sl 1 []) ∨ ∃ q g ys, x = .osl (.abs q) g 0 n ∧ B0 q = none ∧ B q = some (.vec g 1 ys) ∧ ys.length = n
theorem RowS.step {B0 B B' : Base} {x : V} {n r g sz : Nat} {ys ys' : List V} (h : RowS B0 B x n) (hr : B r = some (.vec g sz ys)) (h1 : B' r = some (.vec g sz ys')) (hl : ys'.length = ys.length) (hq : ∀ q, q ≠ r → B' q = B q) : RowS B0 B' x n := by
  rcases h with h | ⟨q, g2, zs, h2, h3, h4, h5⟩
  · exact .inl h
  · refine .inr ?_
    by_cases e : q = r
    · subst e
      rw [hr] at h4
      injection h4 with h4
      injection h4 with a1 a2 a3
      subst a1 a2 a3
      exact ⟨q, g, ys', h2, h3, h1, hl.trans h5⟩
    · exact ⟨q, g2, zs, h2, h3, by rw [hq q e]; exact h4, h5⟩
structure OpS (B0 B : Base) (y : V) : Prop where
  ex : ∃ (k a i : Int) (xp xt xs : V) (b1 b2 : Bool) (s1 s2 s3 : List UInt8) (np nt : Nat), y = .agg [.int .u8 k, xp, .int .i64 a, xt, .int .u64 i, .bool b1, .str s1, .str s2, .str s3, .bool b2, xs] ∧ RowS B0 B xp np ∧ RowS B0 B xt nt ∧ np ≤ 1000000 ∧ nt ≤ 1000000
theorem OpS.step {B0 B B' : Base} {y : V} {r g sz : Nat} {ys ys' : List V} (h : OpS B0 B y) (hr : B r = some (.vec g sz ys)) (h1 : B' r = some (.vec g sz ys')) (hl : ys'.length = ys.length) (hq : ∀ q, q ≠ r → B' q = B q) : OpS B0 B' y := by
  obtain ⟨k, a, i, xp, xt, xs, b1, b2, s1, s2, s3, np, nt, e, h2, h3, h4, h5⟩ := h.ex
  exact ⟨k, a, i, xp, xt, xs, b1, b2, s1, s2, s3, np, nt, e, h2.step hr h1 hl hq, h3.step hr h1 hl hq, h4, h5⟩
theorem ext_store {B0 B B' : Base} {r : Nat} (h : Ext B0 B) (hn : B0 r = none) (hq : ∀ q, q ≠ r → B' q = B q) : Ext B0 B' := fun q o e => by
  rw [hq q (fun e2 => by rw [e2, hn] at e; cases e)]
  exact h q o e
theorem NRow.shp {B N : Base} {x : V} {xs : List V} (h : NRow N x xs) (hN : ∀ q o, N q = some o → B q = none) : RowS B (B.add N) x xs.length := by
  rcases h with ⟨h1, h2⟩ | ⟨q, g, h1, h2⟩
  · exact .inl ⟨by rw [h1]; rfl, h2⟩
  · exact .inr ⟨q, g, xs, h1, hN _ _ h2, add_new h2 (hN _ _ h2), rfl⟩
theorem OpB.shp {B N : Base} {y : V} {o : OpT} (h : OpB N y o) (hN : ∀ q o, N q = some o → B q = none) (hl : o.Lt 1000000) : OpS B (B.add N) y := by
  obtain ⟨xp, xt, xs, e, h1, h2, h3⟩ := h.ex
  exact ⟨_, _, _, xp, xt, xs, _, _, _, _, _, _, _, e, h1.shp hN, h2.shp hN, by rw [List.length_map]; exact hl.path, by rw [List.length_map]; exact hl.to⟩
theorem sameO_bareR (o : OpT) : sameO o (bareO o) = true := by
  have := sameO_refl o
  unfold sameO at this ⊢
  rw [bare_idem]
  exact this
structure InvS (B0 B : Base) (ys : List V) : Prop where
  ext : Ext B0 B
  ops : ∀ y ∈ ys, OpS B0 B y
set_option pp.maxSteps 400 in
set_option maxHeartbeats 4000000 in
set_option maxRecDepth 100000 in
theorem w_lawOf (t : Tree) (o : OpT) (hm : t.weight ≤ 300 → lightB o 200 = true → OkM o ∧ OfP t o = refOfQ t o ∧ (OfP t o).1.length ≤ 1000000 ∧ ∀ x ∈ (OfP t o).1, x.Lt 1000000) : Pure Tryz.prog 7 [nodeV t, opV o] (fun x => x = .bool true) := by
  have hw := w_works09
  refine pure_of_funN (funN_of_goes 60 Tryz.func7 rfl rfl rfl fun B => ?_) rfl
  show CallThen _ _ _ _ _ _
  refine call_pure (w_Weight t 300 (by decide)) rfl ?_
  rintro x ⟨w, rfl, _, _, hwt⟩
  refine ⟨fun g1 => go 60 ?_, fun g1 => go 60 ?_⟩
  · show CallThen _ _ _ _ _ _
    refine call_pure hw rfl ?_
    rintro x rfl
    exact ⟨trivial, rfl, Ext.refl _, rfl, leaf_b rfl⟩
  have hwt : t.weight ≤ 300 := by
    have h3 := not_lt_of g1
    have h4 := hwt (by omega)
    omega
  show CallThen _ _ _ _ _ _
  refine call_pure (w_LightX o 200 (by decide)) rfl ?_
  rintro x rfl
  refine ⟨fun g2 => go 60 ?_, fun g2 => go 60 ?_⟩
  · show CallThen _ _ _ _ _ _
    refine call_pure hw rfl ?_
    rintro x rfl
    exact ⟨trivial, rfl, Ext.refl _, rfl, leaf_b rfl⟩
  obtain ⟨ho, hE, hll, hlt⟩ := hm hwt (by simpa using g2)
  have h1 := w_OfN t o (by omega) ho.ok
  have h2 := w_refOfQ t o (by omega) ho
  rw [← hE] at h2
  generalize OfP t o = R at h1 h2 hll hlt
  have hsm := w_refSameO o (bareO o) ho.ok.lt (bare_ok ho.ok).lt
  rw [sameO_bareR] at hsm
  show CallThen _ _ _ _ _ _
  refine call_pure (w_refBare o ho.ok.lt) rfl ?_
  rintro x rfl
  show CallThen _ _ _ _ _ _
  refine call_funN h1 rfl ?_
  rintro z N ⟨zs, z1, rfl, z2⟩ _ hN
  have hN : ∀ q o, N q = some o → B q = none := hN
  show CallThen _ _ _ _ _ _
  refine call_pure h2 rfl ?_
  rintro x rfl
  refine ⟨fun g => absurd rfl (ne_of' g), fun _ => go 60 ?_⟩
  have kS : InvS B (B.add N) (zs.map Prod.fst) := ⟨Ext.add B N, fun y hy => by
    obtain ⟨z, hz, rfl⟩ := List.mem_map.1 hy
    exact (z2 z hz).shp hN (hlt _ (by rw [← z1]; exact List.mem_map.2 ⟨z, hz, rfl⟩))⟩
  have hyl : (zs.map Prod.fst).length ≤ 1000000 := by rw [← z1, List.length_map] at hll; rw [List.length_map]; exact hll
  have hfz := fz_LB (N := B.add N) (fun z hz => (z2 z hz).ext fun q o e => add_new e (hN q o e)) z1
  have hsame := w_same09 R.1 hll hlt
  generalize B.add N = B1 at kS hfz ⊢
  generalize zs.map Prod.fst = ys at kS hyl hfz ⊢
  show CallThen _ _ _ _ _ _
  refine call_flatN hsame ⟨hfz, .wk (.refl _), trivial⟩ rfl rfl rfl rfl ?_
  refine ⟨fun g => (by cases g), fun _ => go 60 ?_⟩
  clear h1 h2 hfz hsame hN z2 z1
  show Goes { P := Tryz.prog, nt := Tryz.f7.ntmps, fn := 7, ro := none, imps := [], X := XN Tryz.prog Tryz.f7.results B fun x _ => x = .bool true, B := B1, D := [] } _ _ _
  refine goes_iterB (ι := Nat) (fun i B' => i ≤ ys.length ∧ InvS B B' ys) (fun i => ys.length - i) (fun i => [(10, .int .i64 i), (6, .sl 11 ys), (5, .ptr (.loc 2) 0), (3, .ptr (.loc 1) 0), (2, .ptr (.loc 0) 0)]) (fun _ => [some (.box (nodeV t).cells), some (.box (opV o).cells), some (.box (opV (bareO o)).cells)]) 0 60 (fun _ => rfl) (fun _ => rfl) ⟨⟨Nat.zero_le _, kS⟩, ⟨⟨rfl, rfl⟩, ⟨rfl, rfl⟩, ⟨rfl, rfl⟩, ⟨rfl, rfl⟩, ⟨rfl, rfl⟩, trivial⟩, ⟨⟨rfl, rfl⟩, ⟨rfl, rfl⟩, ⟨rfl, rfl⟩, trivial⟩⟩ ?_
  rintro i Bc ⟨k1, k2⟩ next
  refine ⟨fun hlt => go 60 ?_, fun hge => go 60 ?_⟩
  · have hi : i < ys.length := by simpa using hlt
    show Goes { P := Tryz.prog, nt := Tryz.f7.ntmps, fn := 7, ro := none, imps := [], X := XN Tryz.prog Tryz.f7.results B fun x _ => x = .bool true, B := Bc, D := [] } _ _ _
    refine goes_joinB 2 (ι := Unit) (fun _ B' => InvS B B' ys) (fun _ => [(10, .int .i64 i), (6, .sl 11 ys), (5, .ptr (.loc 2) 0), (3, .ptr (.loc 1) 0), (2, .ptr (.loc 0) 0)]) (fun _ => [some (.box (nodeV t).cells), some (.box (opV o).cells), some (.box (opV (bareO o)).cells)]) (fun _ => rfl) (fun _ => rfl) (fun tail => ?_) ?_
    · refine go 60 ?_
      · show Goes { P := Tryz.prog, nt := Tryz.f7.ntmps, fn := 7, ro := none, imps := [], X := XN Tryz.prog Tryz.f7.results B fun x _ => x = .bool true, B := Bc, D := [] } _ _ _
        refine goes_iterB (ι := Nat) (fun j B' => j ≤ 1000000 ∧ InvS B B' ys) (fun j => 1000000 - j) (fun j => [(11, .int .i64 j), (10, .int .i64 i), (6, .sl 11 ys), (5, .ptr (.loc 2) 0), (3, .ptr (.loc 1) 0), (2, .ptr (.loc 0) 0)]) (fun _ => [some (.box (nodeV t).cells), some (.box (opV o).cells), some (.box (opV (bareO o)).cells)]) 0 60 (fun _ => rfl) (fun _ => rfl) ⟨⟨Nat.zero_le _, k2⟩, ⟨⟨rfl, rfl⟩, ⟨rfl, rfl⟩, ⟨rfl, rfl⟩, ⟨rfl, rfl⟩, ⟨rfl, rfl⟩, ⟨rfl, rfl⟩, trivial⟩, ⟨⟨rfl, rfl⟩, ⟨rfl, rfl⟩, ⟨rfl, rfl⟩, trivial⟩⟩ ?_
        clear k2
        rintro j Bc ⟨k3, k2⟩ next2
        obtain ⟨k, a, ii, xp, xt, xs, b1, b2, s1, s2, s3, np, nt, e, r1, r2, r3, r4⟩ := (k2.ops _ (List.getElem_mem hi)).ex
        have hx : ys[i]? = some (.agg [.int .u8 k, xp, .int .i64 a, xt, .int .u64 ii, .bool b1, .str s1, .str s2, .str s3, .bool b2, xs]) := by rw [← e]; simp [hi]
        rcases r1 with ⟨rfl, rfl⟩ | ⟨q, g, zr, rfl, q1, q2, rfl⟩
        · refine ⟨Int.natCast_nonneg i, _, hx, ?_⟩
          refine ⟨fun hlt => go 60 ?_, fun hge => ?_⟩
          · have := lt_of hlt
            simp at this
            omega
          · refine go 1 ?_
            show Goes _ _ _ _
            exact tail () Bc _ _ ⟨k2, ⟨⟨rfl, rfl⟩, ⟨rfl, rfl⟩, ⟨rfl, rfl⟩, ⟨rfl, rfl⟩, ⟨rfl, rfl⟩, trivial⟩, ⟨⟨rfl, rfl⟩, ⟨rfl, rfl⟩, ⟨rfl, rfl⟩, trivial⟩⟩
        · refine ⟨Int.natCast_nonneg i, _, hx, ?_⟩
          show Goes _ _ _ _
          refine goes_lenA 60 rfl rfl rfl rfl rfl (by simp) q2 ?_
          refine ⟨fun hlt => go 60 ?_, fun hge => ?_⟩
          · have hj : j < zr.length := by have := lt_of hlt; omega
            refine ⟨Int.natCast_nonneg i, _, hx, ?_⟩
            show Goes _ _ _ _
            refine goes_indexA 60 rfl rfl rfl rfl rfl rfl rfl rfl (by simp) q2 (Int.natCast_nonneg j) (by omega) ?_
            show Goes _ _ _ _
            refine goes_storeA 60 rfl rfl rfl rfl rfl rfl (by simp) q2 (by rw [Nat.zero_add]; exact hj) (Nat.le_refl _) fun B' xs' hx' hr hq => ?_
            refine ⟨by constructor <;> omega, ?_⟩
            show Goes _ _ _ _
            exact next2 (j + 1) B' _ _ ⟨⟨by omega, ext_store k2.ext q1 hq, fun y hy => (k2.ops y hy).step q2 hr hx' hq⟩, by omega, ⟨⟨rfl, rfl⟩, ⟨rfl, rfl⟩, ⟨rfl, rfl⟩, ⟨rfl, rfl⟩, ⟨rfl, rfl⟩, ⟨rfl, rfl⟩, trivial⟩, ⟨⟨rfl, rfl⟩, ⟨rfl, rfl⟩, ⟨rfl, rfl⟩, trivial⟩⟩
          · refine go 1 ?_
            show Goes _ _ _ _
            exact tail () Bc _ _ ⟨k2, ⟨⟨rfl, rfl⟩, ⟨rfl, rfl⟩, ⟨rfl, rfl⟩, ⟨rfl, rfl⟩, ⟨rfl, rfl⟩, trivial⟩, ⟨⟨rfl, rfl⟩, ⟨rfl, rfl⟩, ⟨rfl, rfl⟩, trivial⟩⟩
    · clear k2
      rintro _ Bc k2
      show Goes _ (.code _ :: _) _ _
      refine go 60 ?_
      · show Goes { P := Tryz.prog, nt := Tryz.f7.ntmps, fn := 7, ro := none, imps := [], X := XN Tryz.prog Tryz.f7.results B fun x _ => x = .bool true, B := Bc, D := [] } _ _ _
        refine goes_iterB (ι := Nat) (fun j B' => j ≤ 1000000 ∧ InvS B B' ys) (fun j => 1000000 - j) (fun j => [(12, .int .i64 j), (10, .int .i64 i), (6, .sl 11 ys), (5, .ptr (.loc 2) 0), (3, .ptr (.loc 1) 0), (2, .ptr (.loc 0) 0)]) (fun _ => [some (.box (nodeV t).cells), some (.box (opV o).cells), some (.box (opV (bareO o)).cells)]) 0 60 (fun _ => rfl) (fun _ => rfl) ⟨⟨Nat.zero_le _, k2⟩, ⟨⟨rfl, rfl⟩, ⟨rfl, rfl⟩, ⟨rfl, rfl⟩, ⟨rfl, rfl⟩, ⟨rfl, rfl⟩, ⟨rfl, rfl⟩, trivial⟩, ⟨⟨rfl, rfl⟩, ⟨rfl, rfl⟩, ⟨rfl, rfl⟩, trivial⟩⟩ ?_
        clear k2
        rintro j Bc ⟨k3, k2⟩ next2
        obtain ⟨k, a, ii, xp, xt, xs, b1, b2, s1, s2, s3, np, nt, e, r1, r2, r3, r4⟩ := (k2.ops _ (List.getElem_mem hi)).ex
        have hx : ys[i]? = some (.agg [.int .u8 k, xp, .int .i64 a, xt, .int .u64 ii, .bool b1, .str s1, .str s2, .str s3, .bool b2, xs]) := by rw [← e]; simp [hi]
        rcases r2 with ⟨rfl, rfl⟩ | ⟨q, g, zr, rfl, q1, q2, rfl⟩
        · refine ⟨Int.natCast_nonneg i, _, hx, ?_⟩
          refine ⟨fun hlt => go 60 ?_, fun hge => go 60 ?_⟩
          · have := lt_of hlt
            simp at this
            omega
          · refine ⟨by constructor <;> omega, ?_⟩
            show Goes _ _ _ _
            exact next (i + 1) Bc _ _ ⟨⟨hi, k2⟩, by omega, ⟨⟨rfl, rfl⟩, ⟨rfl, rfl⟩, ⟨rfl, rfl⟩, ⟨rfl, rfl⟩, ⟨rfl, rfl⟩, trivial⟩, ⟨⟨rfl, rfl⟩, ⟨rfl, rfl⟩, ⟨rfl, rfl⟩, trivial⟩⟩
        · refine ⟨Int.natCast_nonneg i, _, hx, ?_⟩
          show Goes _ _ _ _
          refine goes_lenA 60 rfl rfl rfl rfl rfl (by simp) q2 ?_
          refine ⟨fun hlt => go 60 ?_, fun hge => go 60 ?_⟩
          · have hj : j < zr.length := by have := lt_of hlt; omega
            refine ⟨Int.natCast_nonneg i, _, hx, ?_⟩
            show Goes _ _ _ _
            refine goes_indexA 60 rfl rfl rfl rfl rfl rfl rfl rfl (by simp) q2 (Int.natCast_nonneg j) (by omega) ?_
            show Goes _ _ _ _
            refine goes_storeA 60 rfl rfl rfl rfl rfl rfl (by simp) q2 (by rw [Nat.zero_add]; exact hj) (Nat.le_refl _) fun B' xs' hx' hr hq => ?_
            refine ⟨by constructor <;> omega, ?_⟩
            show Goes _ _ _ _
            exact next2 (j + 1) B' _ _ ⟨⟨by omega, ext_store k2.ext q1 hq, fun y hy => (k2.ops y hy).step q2 hr hx' hq⟩, by omega, ⟨⟨rfl, rfl⟩, ⟨rfl, rfl⟩, ⟨rfl, rfl⟩, ⟨rfl, rfl⟩, ⟨rfl, rfl⟩, ⟨rfl, rfl⟩, trivial⟩, ⟨⟨rfl, rfl⟩, ⟨rfl, rfl⟩, ⟨rfl, rfl⟩, trivial⟩⟩
          · refine ⟨by constructor <;> omega, ?_⟩
            show Goes _ _ _ _
            exact next (i + 1) Bc _ _ ⟨⟨hi, k2⟩, by omega, ⟨⟨rfl, rfl⟩, ⟨rfl, rfl⟩, ⟨rfl, rfl⟩, ⟨rfl, rfl⟩, ⟨rfl, rfl⟩, trivial⟩, ⟨⟨rfl, rfl⟩, ⟨rfl, rfl⟩, ⟨rfl, rfl⟩, trivial⟩⟩
  · show CallThen _ _ _ _ _ _
    refine call_pure hsm rfl ?_
    rintro x rfl
    refine ⟨fun _ => go 60 ?_, fun g => (by cases g)⟩
    show CallThen _ _ _ _ _ _
    refine call_pure hw rfl ?_
    rintro x rfl
    exact ⟨trivial, rfl, k2.ext, rfl, leaf_b rfl⟩
end Bow
/- W156: the laws InvertAll, InvertBack, walked. -/
namespace Bow
open Go Go.Proofs

set_option pp.maxSteps 400 in
set_option maxHeartbeats 4000000 in
set_option maxRecDepth 100000 in
theorem w_lawAll (t : Tree) (l : List OpT) (hcw : t.weight + costs l ≤ 40000) (hl : l.length ≤ 7) (hok : ∀ o ∈ l, OkM o) (hE : ofAllP t l = refOfAllP t l) (hll : (ofAllP t l).1.length ≤ 1000000) (hlt : ∀ x ∈ (ofAllP t l).1, x.Lt 1000000) : Pure Tryz.prog 9 [nodeV t, opsV l] (fun x => x = .bool true) := by
  have hw := w_works09
  refine pure_wk (pure_fn 60 Tryz.func9 rfl rfl rfl fun B => ?_)
  show CallThen _ _ _ _ _ _
  refine call_pure (w_Weight t 200 (by decide)) rfl ?_
  rintro x ⟨w, rfl, _, _, hwt⟩
  refine ⟨fun g1 => go 60 ?_, fun g1 => go 60 ?_⟩
  · show CallThen _ _ _ _ _ _
    refine call_pure hw rfl ?_
    rintro x rfl
    exact ⟨trivial, rfl, rfl, rfl, leaf_b rfl⟩
  show CallThen _ _ _ _ _ _
  refine call_pure (w_LightList l 20 60 (by decide) (by decide)) rfl ?_
  rintro x ⟨b, rfl, _⟩
  refine ⟨fun g2 => go 60 ?_, fun g2 => go 60 ?_⟩
  · show CallThen _ _ _ _ _ _
    refine call_pure hw rfl ?_
    rintro x rfl
    exact ⟨trivial, rfl, rfl, rfl, leaf_b rfl⟩
  have h1 := w_OfAll t l hcw hl hok
  have h2 := w_refOfAll t l hcw hl hok
  rw [← hE] at h2
  generalize ofAllP t l = R at h1 h2 hll hlt
  show CallThen _ _ _ _ _ _
  refine call_pure h1 rfl ?_
  rintro x rfl
  show CallThen _ _ _ _ _ _
  refine call_pure h2 rfl ?_
  rintro x rfl
  refine ⟨fun _ => go 60 ?_, fun g => absurd rfl (ne_of g)⟩
  refine ⟨fun _ => go 60 ?_, fun g => absurd rfl (ne_of g)⟩
  show CallThen _ _ _ _ _ _
  refine call_pure (w_same09 R.1 hll hlt) rfl ?_
  rintro x rfl
  refine ⟨fun _ => go 60 ?_, fun g => (by cases g)⟩
  show CallThen _ _ _ _ _ _
  refine call_pure hw rfl ?_
  rintro x rfl
  exact ⟨trivial, rfl, rfl, rfl, leaf_b rfl⟩
/-- What undoes it, behind it, makes the tree what it was. -/
structure BackM (t : Tree) (o : OpT) : Prop where
  ok : OkM o
  tw : t.weight ≤ 40000
  err : (OfP t o).2 = (applyR t o).2
  cost : (applyR t o).1.weight + costs (OfP t o).1 ≤ 400000
  len : (OfP t o).1.length ≤ 1000000
  oks : ∀ x ∈ (OfP t o).1, x.Ok
  back : (OfP t o).2 = 0 → (AllR (applyR t o).1 (OfP t o).1).2.2 = 0 ∧ (AllR (applyR t o).1 (OfP t o).1).2.1 = (OfP t o).1.length ∧ (AllR (applyR t o).1 (OfP t o).1).1.weight ≤ 1000000 ∧ sameT true (AllR (applyR t o).1 (OfP t o).1).1 t = true
set_option pp.maxSteps 400 in
set_option maxHeartbeats 4000000 in
set_option maxRecDepth 100000 in
theorem w_lawBack (t : Tree) (o : OpT) (hm : BackM t o) : Pure Tryz.prog 8 [nodeV t, opV o] (fun x => x = .bool true) := by
  have hw := w_works09
  have ho := hm.ok
  have htw := hm.tw
  have h1 := w_Of t o hm.tw ho.ok
  have h2 := w_refApply t o (by omega) ho.ok
  have he := hm.err
  have hmw := hm.cost
  have h3 := w_refApplyAll (applyR t o).1 (OfP t o).1 hm.cost hm.len hm.oks
  have hb := hm.back
  clear hm
  obtain ⟨⟨l, e⟩, hR⟩ : ∃ R, OfP t o = R := ⟨_, rfl⟩
  obtain ⟨⟨m, f⟩, hA⟩ : ∃ R, applyR t o = R := ⟨_, rfl⟩
  rw [hR, hA] at h3 hb he hmw
  rw [hR] at h1
  rw [hA] at h2
  simp only at h3 hb he hmw
  subst he
  obtain ⟨⟨back, i, g⟩, hA3⟩ : ∃ R, AllR m l = R := ⟨_, rfl⟩
  rw [hA3] at h3 hb
  simp only at hb
  clear hA3 hR hA
  refine pure_wk (pure_fn 60 Tryz.func8 rfl rfl rfl fun B => ?_)
  show CallThen _ _ _ _ _ _
  refine call_pure (w_Weight t 300 (by decide)) rfl ?_
  rintro x ⟨w, rfl, _, _, hwt⟩
  refine ⟨fun g1 => go 60 ?_, fun g1 => go 60 ?_⟩
  · show CallThen _ _ _ _ _ _
    refine call_pure hw rfl ?_
    rintro x rfl
    exact ⟨trivial, rfl, rfl, rfl, leaf_b rfl⟩
  show CallThen _ _ _ _ _ _
  refine call_pure (w_LightX o 200 (by decide)) rfl ?_
  rintro x rfl
  refine ⟨fun g2 => go 60 ?_, fun g2 => go 60 ?_⟩
  · show CallThen _ _ _ _ _ _
    refine call_pure hw rfl ?_
    rintro x rfl
    exact ⟨trivial, rfl, rfl, rfl, leaf_b rfl⟩
  show CallThen _ _ _ _ _ _
  refine call_pure h1 rfl ?_
  rintro x rfl
  show CallThen _ _ _ _ _ _
  refine call_pure h2 rfl ?_
  rintro x rfl
  refine ⟨fun g => absurd rfl (ne_of' g), fun _ => go 60 ?_⟩
  refine ⟨fun g3 => go 60 ?_, fun g3 => go 60 ?_⟩
  · show CallThen _ _ _ _ _ _
    refine call_pure hw rfl ?_
    rintro x rfl
    exact ⟨trivial, rfl, rfl, rfl, leaf_b rfl⟩
  obtain ⟨b1, b2, b4, b3⟩ := hb (eq_of' g3)
  show CallThen _ _ _ _ _ _
  refine call_pure (w_refDepth t (by omega)) rfl ?_
  rintro x rfl
  refine ⟨fun g4 => go 60 ?_, fun g4 => go 60 ?_⟩
  · show CallThen _ _ _ _ _ _
    refine call_pure hw rfl ?_
    rintro x rfl
    exact ⟨trivial, rfl, rfl, rfl, leaf_b rfl⟩
  show CallThen _ _ _ _ _ _
  refine call_pure (w_refDepth m (by omega)) rfl ?_
  rintro x rfl
  refine ⟨fun g5 => go 60 ?_, fun g5 => go 60 ?_⟩
  · show CallThen _ _ _ _ _ _
    refine call_pure hw rfl ?_
    rintro x rfl
    exact ⟨trivial, rfl, rfl, rfl, leaf_b rfl⟩
  show CallThen _ _ _ _ _ _
  refine call_pure h3 rfl ?_
  rintro x rfl
  refine ⟨fun _ => go 60 ?_, fun g => absurd b1 (ne_of g)⟩
  refine ⟨fun _ => go 60 ?_, fun g => absurd (by rw [b2]; simp) (ne_of g)⟩
  show CallThen _ _ _ _ _ _
  have hsm := w_refSameT back t b4
  rw [b3] at hsm
  refine call_pure hsm rfl ?_
  rintro x rfl
  refine ⟨fun _ => go 60 ?_, fun g => (by cases g)⟩
  show CallThen _ _ _ _ _ _
  refine call_pure hw rfl ?_
  rintro x rfl
  exact ⟨trivial, rfl, rfl, rfl, leaf_b rfl⟩
end Bow
/- W157: the laws InvertBackAll, InvertMake, walked. -/
namespace Bow
open Go Go.Proofs

/-- What undoes a list, behind it, makes the tree what it was. -/
structure BackAM (t : Tree) (l : List OpT) : Prop where
  cw : t.weight + costs l ≤ 40000
  ll : l.length ≤ 7
  oks : ∀ o ∈ l, OkM o
  err : (ofAllP t l).2.2 = (AllR t l).2.2
  cost : (AllR t l).1.weight + costs (ofAllP t l).1 ≤ 400000
  len : (ofAllP t l).1.length ≤ 1000000
  oks2 : ∀ x ∈ (ofAllP t l).1, x.Ok
  ws : ∀ i, i ≤ l.length → (AllR t (l.take i)).1.weight ≤ 1000000
  cs : ∀ i, i ≤ l.length → t.weight + costs (l.take i) ≤ 400000
  back : (AllR t l).2.2 = 0 → (AllR (AllR t l).1 (ofAllP t l).1).2.2 = 0 ∧ (AllR (AllR t l).1 (ofAllP t l).1).1.weight ≤ 1000000 ∧ sameT true (AllR (AllR t l).1 (ofAllP t l).1).1 t = true
set_option pp.maxSteps 400 in
set_option maxHeartbeats 1000000 in
set_option maxRecDepth 100000 in
theorem w_lawBackAll (t : Tree) (l : List OpT) (hm : BackAM t l) : Pure Tryz.prog 10 [nodeV t, opsV l] (fun x => x = .bool true) := by
  have hw := w_works09
  have hcw := hm.cw
  have hll := hm.ll
  have h1 := w_OfAll t l hm.cw hm.ll hm.oks
  have h2 := w_refApplyAll t l (by omega) (by omega) fun o ho => (hm.oks o ho).ok
  have hAi : ∀ i, i ≤ l.length → Pure Tryz.prog 22 [nodeV t, opsV (l.take i)] (fun x => x = AllV (AllR t (l.take i))) := fun i hi => w_refApplyAll t (l.take i) (hm.cs i hi) (by rw [List.length_take]; omega) fun o ho => (hm.oks o (List.mem_of_mem_take ho)).ok
  have hws := hm.ws
  have he := hm.err
  have h3 := w_refApplyAll (AllR t l).1 (ofAllP t l).1 hm.cost hm.len hm.oks2
  have hb := hm.back
  clear hm
  obtain ⟨⟨k, ki, e⟩, hR⟩ : ∃ R, ofAllP t l = R := ⟨_, rfl⟩
  obtain ⟨⟨m, mi, f⟩, hA⟩ : ∃ R, AllR t l = R := ⟨_, rfl⟩
  rw [hR, hA] at h3 hb he
  rw [hR] at h1
  rw [hA] at h2
  simp only at h3 hb he
  subst he
  obtain ⟨⟨back, i2, g⟩, hA3⟩ : ∃ R, AllR m k = R := ⟨_, rfl⟩
  rw [hA3] at h3 hb
  simp only at hb
  clear hA3 hR hA
  refine pure_wk (pure_fn 60 Tryz.func10 rfl rfl rfl fun B => ?_)
  show CallThen _ _ _ _ _ _
  refine call_pure (w_Weight t 200 (by decide)) rfl ?_
  rintro x ⟨w, rfl, _, _, _⟩
  refine ⟨fun g1 => go 60 ?_, fun g1 => go 60 ?_⟩
  · show CallThen _ _ _ _ _ _
    refine call_pure hw rfl ?_
    rintro x rfl
    exact ⟨trivial, rfl, rfl, rfl, leaf_b rfl⟩
  show CallThen _ _ _ _ _ _
  refine call_pure (w_LightList l 20 60 (by decide) (by decide)) rfl ?_
  rintro x ⟨b, rfl, _⟩
  refine ⟨fun g2 => go 60 ?_, fun g2 => go 60 ?_⟩
  · show CallThen _ _ _ _ _ _
    refine call_pure hw rfl ?_
    rintro x rfl
    exact ⟨trivial, rfl, rfl, rfl, leaf_b rfl⟩
  show CallThen _ _ _ _ _ _
  refine call_pure h1 rfl ?_
  rintro x rfl
  show CallThen _ _ _ _ _ _
  refine call_pure h2 rfl ?_
  rintro x rfl
  refine ⟨fun g => absurd rfl (ne_of' g), fun _ => go 60 ?_⟩
  refine ⟨fun g3 => go 60 ?_, fun g3 => go 60 ?_⟩
  · show CallThen _ _ _ _ _ _
    refine call_pure hw rfl ?_
    rintro x rfl
    exact ⟨trivial, rfl, rfl, rfl, leaf_b rfl⟩
  obtain ⟨b1, b4, b3⟩ := hb (eq_of' g3)
  clear h1 h2 hb
  show Goes { P := Tryz.prog, nt := Tryz.f10.ntmps, fn := 10, ro := none, imps := [], X := XR Tryz.prog [] Tryz.f10.results B fun x T => frz x T False fun x' _ => x'.pureB = true ∧ ∃ y, Wk x' y ∧ y.pureB = true ∧ y = .bool true, B := B, D := [] } _ _ _
  refine goes_iter (ι := Nat) (fun i => i ≤ l.length + 1) (fun i => l.length + 1 - i) (fun i => [(11, .int .i64 i), (8, .ptr (.loc 1) 0), (5, opsV k), (2, .ptr (.loc 0) 0), (1, opsV l)]) (fun _ => [some (.box (nodeV t).cells), some (.box (nodeV m).cells)]) 0 60 (fun _ => rfl) (fun _ => rfl) ⟨Nat.zero_le _, ⟨⟨rfl, rfl⟩, ⟨rfl, rfl⟩, ⟨rfl, rfl⟩, ⟨rfl, rfl⟩, ⟨rfl, rfl⟩, trivial⟩, ⟨⟨rfl, rfl⟩, ⟨rfl, rfl⟩, trivial⟩⟩ ?_
  rintro i k1 next
  refine ⟨fun hlt => go 60 ?_, fun hge => go 60 ?_⟩
  · have hi : i ≤ l.length := by have := le_of hlt; simp at this; omega
    have e1 : (((l.map opV).drop (Int.toNat 0)).take (((i : Nat) : Int).toNat - Int.toNat 0)) = (l.take i).map opV := by
      rw [List.map_take]
      simp
    have hAi := hAi i hi
    have hws := hws i hi
    unfold opsV at hAi
    rw [← e1] at hAi
    generalize AllR t (l.take i) = A at hAi hws
    show Goes _ (.code (.region _ _ true) :: _) _ _
    refine goes_drawX [] 60 ?_
    refine ⟨by decide, Int.natCast_nonneg i, by simp; omega, _, hAi, rfl, ?_⟩
    refine ⟨by kernel_rfl, ?_⟩
    refine ⟨by kernel_rfl, ?_⟩
    show CallThen _ _ _ _ _ _
    refine call_pure (w_refDepth A.1 hws) rfl ?_
    rintro x rfl
    refine ⟨fun g4 => go 60 ?_, fun g4 => go 60 ?_⟩
    · show CallThen _ _ _ _ _ _
      refine call_pure hw rfl ?_
      rintro x rfl
      exact ⟨trivial, rfl, rfl, rfl, leaf_b rfl⟩
    refine ⟨by constructor <;> omega, ?_⟩
    show Goes _ _ _ _
    exact next (i + 1) _ _ ⟨by omega, by omega, ⟨⟨rfl, rfl⟩, ⟨rfl, rfl⟩, ⟨rfl, rfl⟩, ⟨rfl, rfl⟩, ⟨rfl, rfl⟩, trivial⟩, ⟨⟨rfl, rfl⟩, ⟨rfl, rfl⟩, trivial⟩⟩
  · clear next
    show CallThen _ _ _ _ _ _
    refine call_pure h3 rfl ?_
    rintro x rfl
    refine ⟨fun _ => go 60 ?_, fun g => absurd b1 (ne_of g)⟩
    show CallThen _ _ _ _ _ _
    have hsm := w_refSameT back t b4
    rw [b3] at hsm
    refine call_pure hsm rfl ?_
    rintro x rfl
    refine ⟨fun _ => go 60 ?_, fun g => (by cases g)⟩
    show CallThen _ _ _ _ _ _
    refine call_pure hw rfl ?_
    rintro x rfl
    exact ⟨trivial, rfl, rfl, rfl, leaf_b rfl⟩

theorem w_Make (p : List Int) (at_ : Int) (t : Tree) (hw : p.length + 1 + t.weight ≤ 100000) : Pure Tryz.prog 27 [pathV p, intV at_, nodeV t] (fun x => x = opsV (makeL p at_ t)) :=
  pure_of_funNF ((w_MakeN p at_ t hw).mono fun x N h => by
    obtain ⟨zs, h1, rfl, h2⟩ := h
    exact ⟨opsV (makeL p at_ t), .inl (fz_LB h2 h1), rfl, rfl⟩) rfl
set_option pp.maxSteps 400 in
set_option maxHeartbeats 1000000 in
set_option maxRecDepth 100000 in
theorem w_lawMake (p : List Int) (at_ : Int) (id : Int) (lab : List UInt8) (attrs : AttrL) (subs : List Tree) (A : Tree × Nat × Int) (y : Tree) (hp : p.length ≤ 60) (hwx : (Tree.mk id false lab attrs [] subs).weight ≤ 300) (hll : (makeL p at_ (.mk id false lab attrs [] subs)).length ≤ 1000000) (hlt : ∀ x ∈ makeL p at_ (.mk id false lab attrs [] subs), x.Lt 1000000)
    (hc : zeroT0.weight + costs (makeL [] 0 (.mk id false lab attrs [] subs)) ≤ 400000) (hl2 : (makeL [] 0 (.mk id false lab attrs [] subs)).length ≤ 1000000) (hok : ∀ x ∈ makeL [] 0 (.mk id false lab attrs [] subs), x.Ok) (hA : AllR zeroT0 (makeL [] 0 (.mk id false lab attrs [] subs)) = A) (h0 : A.2.2 = 0) (hs : A.1.subs = [y]) (hyw : y.weight ≤ 1000000) (hsm : sameT true y (.mk id false lab attrs [] subs) = true) : Pure Tryz.prog 11 [pathV p, intV at_, nodeV (.mk id false lab attrs [] subs)] (fun x => x = .bool true) := by
  have hw := w_works09
  have h1 := w_Make p at_ (.mk id false lab attrs [] subs) (by omega)
  have h2 := w_refMake (.mk id false lab attrs [] subs) p at_ (by omega)
  have h3 := w_same09 _ hll hlt
  have h4 := w_Make [] 0 (.mk id false lab attrs [] subs) (by simp; omega)
  have h5 := w_refApplyAll zeroT0 _ hc hl2 hok
  rw [hA] at h5
  have h6 := w_refSameT y (.mk id false lab attrs [] subs) hyw
  rw [hsm] at h6
  have h7 := w_refRightT (.mk id false lab attrs [] subs) (by omega)
  have h8 := w_refDepth (.mk id false lab attrs [] subs) (by omega)
  generalize (Tree.mk id false lab attrs [] subs).depth = dep at h8
  generalize rightT (Tree.mk id false lab attrs [] subs) = rig at h7
  generalize makeL p at_ (.mk id false lab attrs [] subs) = L at h1 h2 h3
  generalize makeL [] 0 (.mk id false lab attrs [] subs) = L0 at h4 h5
  refine pure_wk (pure_fn 60 Tryz.func11 rfl rfl rfl fun B => ?_)
  show CallThen _ _ _ _ _ _
  refine call_pure (w_Weight (.mk id false lab attrs [] subs) 300 (by decide)) rfl ?_
  rintro x ⟨w, rfl, _, _, _⟩
  refine ⟨fun g1 => go 60 ?_, fun g1 => go 60 ?_⟩
  · show CallThen _ _ _ _ _ _
    refine call_pure hw rfl ?_
    rintro x rfl
    exact ⟨trivial, rfl, rfl, rfl, leaf_b rfl⟩
  refine ⟨fun g2 => absurd (lt_of g2) (by simp; omega), fun _ => go 60 ?_⟩
  show Goes _ (.code (.region _ _ true) :: _) _ _
  refine goes_drawX [] 0 ?_
  refine ⟨_, h1, rfl, _, h2, rfl, ?_⟩
  refine ⟨by kernel_rfl, ?_⟩
  show Goes { P := Tryz.prog, nt := Tryz.f11.ntmps, fn := 11, ro := none, imps := [], X := XR Tryz.prog [] Tryz.f11.results B fun x T => frz x T False fun x' _ => x'.pureB = true ∧ ∃ y, Wk x' y ∧ y.pureB = true ∧ y = .bool true, B := B, D := [] } _ _ _
  refine goes_to [(8, opsV L), (7, opsV L), (5, .ptr (.loc 0) 0)] [some (.box (nodeV (.mk id false lab attrs [] subs)).cells)] rfl (Nat.zero_le _) ⟨⟨rfl, rfl⟩, ⟨rfl, rfl⟩, ⟨rfl, rfl⟩, trivial⟩ ⟨⟨rfl, rfl⟩, trivial⟩ ?_
  refine go 60 ?_
  show CallThen _ _ _ _ _ _
  refine call_pure h3 rfl ?_
  rintro x rfl
  refine ⟨fun g => (by cases g), fun _ => ?_⟩
  · skip
    refine go 5 ?_
    refine goes_wkbox 0 (nodeV (.mk id false lab attrs [] subs)).cells rfl rfl rfl ⟨.refl _, Wk.ff, .refl _, .refl _, .refl _, .refl _, trivial⟩ ?_
    refine go 60 ?_
    show CallThen _ _ _ _ _ _
    refine call_pure h7 rfl ?_
    rintro x rfl
    refine ⟨fun g2 => go 60 ?_, fun g2 => go 60 ?_⟩
    · show CallThen _ _ _ _ _ _
      refine call_pure hw rfl ?_
      rintro x rfl
      exact ⟨trivial, rfl, rfl, rfl, leaf_b rfl⟩
    show CallThen _ _ _ _ _ _
    refine call_pure h8 rfl ?_
    rintro x rfl
    refine ⟨fun g3 => go 60 ?_, fun g3 => go 60 ?_⟩
    · show CallThen _ _ _ _ _ _
      refine call_pure hw rfl ?_
      rintro x rfl
      exact ⟨trivial, rfl, rfl, rfl, leaf_b rfl⟩
    show CallThen _ _ _ _ _ _
    refine call_wk (args' := [pathV [], intV 0, nodeV (.mk id false lab attrs [] subs)]) ⟨.inr ⟨rfl, rfl, Wk.nil 1⟩, .inl rfl, .inl rfl, trivial⟩ ?_
    refine call_pure h4 rfl ?_
    rintro x rfl
    show CallThen _ _ _ _ _ _
    refine call_wk (args' := [nodeV zeroT0, opsV L0]) ⟨.inr ⟨rfl, rfl, wk_zero (ss := []) (Wk.nil 6)⟩, .inl rfl, trivial⟩ ?_
    refine call_pure h5 rfl ?_
    rintro x rfl
    have hx : A.1.subV[Int.toNat 0]? = some (nodeV y) := by rw [subV_eq, hs]; rfl
    have hl1 : decide ((A.1.subV.length : Int) = 1) = true := by rw [subV_eq, hs]; rfl
    show Goes _ (.code (.region _ _ true) :: _) _ _
    refine goes_drawX [] 60 ?_
    refine ⟨fun _ => ?_, fun g => absurd h0 (ne_of g)⟩
    refine ⟨fun _ => ?_, fun g => absurd (hl1.symm.trans g) (by decide)⟩
    refine ⟨by decide, _, hx, ?_⟩
    refine ⟨_, h6, rfl, ?_⟩
    refine ⟨fun _ => ?_, fun g => (by cases g)⟩
    refine ⟨_, hw, rfl, ?_⟩
    refine ⟨by kernel_rfl, ?_⟩
    exact ⟨trivial, rfl, rfl, rfl, leaf_b rfl⟩
end Bow
/- W158: the grove and operations of all kinds: what undoes them; computed in plain Lean. -/
namespace Bow
open Go

theorem eqO_eq {a b : OpT} (h : eqO a b = true) : a = b := by
  simp only [eqO, Bool.and_eq_true, decide_eq_true_eq, beq_iff_eq] at h
  obtain ⟨h1, h2, h3, h4, h5, h6, h7, h8, h9, h10, h11⟩ := h
  cases a
  cases b
  simp only at h1 h2 h3 h4 h5 h6 h7 h8 h9 h10 h11
  subst h1 h2 h3 h4 h5 h6 h7 h8 h9 h10 h11
  rfl
def eqOs : List OpT → List OpT → Bool
  | [], [] => true
  | a :: l, b :: m => eqO a b && eqOs l m
  | _, _ => false
theorem eqOs_eq : ∀ {l m : List OpT}, eqOs l m = true → l = m
  | [], [], _ => rfl
  | [], _ :: _, h => by cases h
  | _ :: _, [], h => by cases h
  | a :: l, b :: m, h => by
    rw [eqOs, Bool.and_eq_true] at h
    rw [eqO_eq h.1, eqOs_eq h.2]
def midB (n : Int) : Bool := decide (-1000000000 ≤ n) && decide (n ≤ 1000000000)
theorem midB_mid {n : Int} (h : midB n = true) : Mid n := by
  simp only [midB, Bool.and_eq_true, decide_eq_true_eq] at h
  exact h
def okMB (o : OpT) : Bool := lightB o 200 && (decide (costO o ≤ 1000) && (o.path.all midB && (o.to.all midB && midB o.at_)))
theorem okMB_ok {o : OpT} (h : okMB o = true) : OkM o := by
  simp only [okMB, Bool.and_eq_true, decide_eq_true_eq, List.all_eq_true] at h
  obtain ⟨h1, h2, h3, h4, h5⟩ := h
  have hl := ((lightB_iff o 200).1 h1).1
  exact ⟨light_ok h1 (by decide), by have := hl.to; omega, by omega, fun n hn => midB_mid (h3 n hn), fun n hn => midB_mid (h4 n hn), midB_mid h5⟩
def smallB (l : List OpT) : Bool := decide (l.length ≤ 1000) && l.all fun o => lightB o 1000
theorem smallB_ok {l : List OpT} (h : smallB l = true) : l.length ≤ 1000000 ∧ ∀ o ∈ l, o.Ok := by
  simp only [smallB, Bool.and_eq_true, decide_eq_true_eq, List.all_eq_true] at h
  exact ⟨by omega, fun o ho => light_ok (h.2 o ho) (by decide)⟩
/-- What the laws ask of an operation on the grove. -/
def oneB (t : Tree) (o : OpT) : Bool :=
  okMB o && (match OfP t o, refOfQ t o with
  | (l, e), (m, f) => eqOs l m && (decide (e = f) && (smallB l && (match applyR t o with
    | (u, g) => decide (e = g) && (decide (u.weight + costs l ≤ 400000) && (!decide (e = 0) || (match AllR u l with
      | (b, i, h) => decide (h = 0) && (decide (i = l.length) && (decide (b.weight ≤ 1000000) && sameT true b t)))))))))
theorem oneB_of {t : Tree} {o : OpT} (h : oneB t o = true) : OkM o ∧ OfP t o = refOfQ t o ∧ (OfP t o).1.length ≤ 1000000 ∧ ∀ x ∈ (OfP t o).1, x.Lt 1000000 := by
  unfold oneB at h
  obtain ⟨⟨l, e⟩, hA⟩ : ∃ R, OfP t o = R := ⟨_, rfl⟩
  obtain ⟨⟨m, f⟩, hB⟩ : ∃ R, refOfQ t o = R := ⟨_, rfl⟩
  rw [hA, hB] at h ⊢
  simp only [Bool.and_eq_true, decide_eq_true_eq] at h
  obtain ⟨h1, h2, h3, h4, _⟩ := h
  have h5 := smallB_ok h4
  exact ⟨okMB_ok h1, by rw [eqOs_eq h2, h3], h5.1, fun x hx => (h5.2 x hx).lt⟩
theorem oneB_back {t : Tree} {o : OpT} (ht : t.weight ≤ 40000) (h : oneB t o = true) : BackM t o := by
  have hk := oneB_of h
  unfold oneB at h
  obtain ⟨⟨l, e⟩, hA⟩ : ∃ R, OfP t o = R := ⟨_, rfl⟩
  obtain ⟨⟨m, f⟩, hB⟩ : ∃ R, refOfQ t o = R := ⟨_, rfl⟩
  obtain ⟨⟨u, g⟩, hC⟩ : ∃ R, applyR t o = R := ⟨_, rfl⟩
  obtain ⟨⟨b, i, k⟩, hD⟩ : ∃ R, AllR u l = R := ⟨_, rfl⟩
  rw [hA, hB] at h
  simp only [hC, hD, Bool.and_eq_true, Bool.or_eq_true, Bool.not_eq_true', decide_eq_true_eq, decide_eq_false_iff_not] at h
  obtain ⟨h1, h2, h3, h4, h5, h6, h7⟩ := h
  have h8 := smallB_ok h4
  refine ⟨hk.1, ht, by rw [hA, hC]; exact h5, by rw [hA, hC]; exact h6, by rw [hA]; exact h8.1, by rw [hA]; exact h8.2, fun h0 => ?_⟩
  rw [hA, hC]
  rw [hA] at h0
  rcases h7 with h7 | h7
  · exact absurd h0 h7
  · simp only [hD]
    exact h7
def allB (t : Tree) (l : List OpT) : Bool :=
  decide (t.weight + costs l ≤ 40000) && (decide (l.length ≤ 7) && (l.all okMB && (match ofAllP t l, refOfAllP t l with
  | (k, i, e), (m, j, f) => eqOs k m && (decide (i = j) && (decide (e = f) && smallB k)))))
theorem allB_ok {t : Tree} {l : List OpT} (h : allB t l = true) : t.weight + costs l ≤ 40000 ∧ l.length ≤ 7 ∧ (∀ o ∈ l, OkM o) ∧ ofAllP t l = refOfAllP t l ∧ (ofAllP t l).1.length ≤ 1000000 ∧ ∀ x ∈ (ofAllP t l).1, x.Ok := by
  unfold allB at h
  obtain ⟨⟨k, i, e⟩, hA⟩ : ∃ R, ofAllP t l = R := ⟨_, rfl⟩
  obtain ⟨⟨m, j, f⟩, hB⟩ : ∃ R, refOfAllP t l = R := ⟨_, rfl⟩
  rw [hA, hB] at h ⊢
  simp only [Bool.and_eq_true, decide_eq_true_eq, List.all_eq_true] at h
  obtain ⟨h1, h2, h3, h4, h5, h6, h7⟩ := h
  have h8 := smallB_ok h7
  exact ⟨h1, h2, fun o ho => okMB_ok (h3 o ho), by rw [eqOs_eq h4, h5, h6], h8.1, h8.2⟩
def backAllB (t : Tree) (l : List OpT) : Bool :=
  allB t l && (match ofAllP t l, AllR t l with
  | (k, _, e), (m, _, f) => decide (e = f) && (decide (m.weight + costs k ≤ 400000) && (((List.range (l.length + 1)).all fun i => decide ((AllR t (l.take i)).1.weight ≤ 1000000) && decide (t.weight + costs (l.take i) ≤ 400000)) && (!decide (f = 0) || (match AllR m k with
    | (b, _, h) => decide (h = 0) && (decide (b.weight ≤ 1000000) && sameT true b t))))))
theorem backAllB_ok {t : Tree} {l : List OpT} (h : backAllB t l = true) : BackAM t l := by
  unfold backAllB at h
  rw [Bool.and_eq_true] at h
  obtain ⟨h0, h⟩ := h
  obtain ⟨a1, a2, a3, a4, a5, a6⟩ := allB_ok h0
  obtain ⟨⟨k, i, e⟩, hA⟩ : ∃ R, ofAllP t l = R := ⟨_, rfl⟩
  obtain ⟨⟨m, j, f⟩, hB⟩ : ∃ R, AllR t l = R := ⟨_, rfl⟩
  obtain ⟨⟨b, c, g⟩, hD⟩ : ∃ R, AllR m k = R := ⟨_, rfl⟩
  rw [hA, hB] at h
  simp only [hD, Bool.and_eq_true, Bool.or_eq_true, Bool.not_eq_true', decide_eq_true_eq, decide_eq_false_iff_not, List.all_eq_true, List.mem_range] at h
  obtain ⟨b1, b2, b3, b4⟩ := h
  refine ⟨a1, a2, a3, by rw [hA, hB]; exact b1, by rw [hA, hB]; exact b2, a5, a6, fun i hi => (b3 i (by omega)).1, fun i hi => (b3 i (by omega)).2, fun h0 => ?_⟩
  rw [hB] at h0
  rw [hA, hB]
  simp only [hD]
  rcases b4 with b4 | b4
  · exact absurd h0 b4
  · exact b4
def invOps : List OpT := manyO (pathsT groveT) 3 (pathsT groveT).length
def pick3 (l : List OpT) (i : Nat) : List OpT := (l[i]?.toList ++ l[(i * 7 + 1) % l.length]?.toList) ++ l[(i * 5 + 2) % l.length]?.toList
def pick2 (l : List OpT) (i : Nat) : List OpT := l[i]?.toList ++ l[(i * 7 + 1) % l.length]?.toList
def invRow (l : List OpT) (i : Nat) : Bool := !decide (i % 9 = 0) || (allB groveT (pick3 l i) && backAllB groveT (pick2 l i))
set_option maxRecDepth 1000000 in
theorem inv_len : invOps.length = 328 := by decide +kernel
set_option maxRecDepth 1000000 in
theorem inv_one : invOps.all (oneB groveT) = true := by decide +kernel
set_option maxRecDepth 1000000 in
theorem inv_rows : (List.range 37).all (fun k => invRow invOps (9 * k)) = true := by decide +kernel
theorem inv_row {i : Nat} (h : i < invOps.length) (h9 : i % 9 = 0) : allB groveT (pick3 invOps i) = true ∧ backAllB groveT (pick2 invOps i) = true := by
  have hl := inv_len
  have h1 := List.all_eq_true.1 inv_rows (i / 9) (by simp; omega)
  rw [show 9 * (i / 9) = i by omega] at h1
  unfold invRow at h1
  rw [decide_eq_true h9] at h1
  simpa using h1
theorem inv_empty : allB (.mk 0 true [] [] [] []) [] = true := by decide +kernel
theorem inv_zero : oneB groveT (noOp 0) = true := by decide +kernel
def grM : Tree × Nat × Int := AllR zeroT0 (makeL [] 0 groveT)
theorem inv_mk : decide (groveT.weight ≤ 300) && (smallB (makeL [1, 2] 3 groveT) && (smallB (makeL [] 0 groveT) && (decide (zeroT0.weight + costs (makeL [] 0 groveT) ≤ 400000) && (decide (grM.2.2 = 0) && (match grM.1.subs with
  | [y] => decide (y.weight ≤ 1000000) && sameT true y groveT
  | _ => false))))) = true := by decide +kernel
end Bow
/- W88: bowerkit's Many, with any number of gaps. -/
namespace Bow
open Go Go.Proofs

theorem many_headT {top : Nat} {ps : List (List Int)} {i : Nat} {p : List Int} {xs : List V} (h : WkE 11 xs ((manyO ps top i).map opV)) : WkE 11 (xs ++ [.agg [.int .u8 2, pathV p, .int .i64 0, .nilsl, .int .u64 0, .ff, .str [], .str [], .str [], .ff, .nilsl], .agg [.int .u8 5, pathV p, .int .i64 0, .nilsl, .int .u64 0, .ff, .str [113], .str [], .str [], .ff, .nilsl],
    .agg [.int .u8 4, pathV p, .int .i64 0, .nilsl, .int .u64 0, .ff, .str [], .str [107], .str [57], .ff, .nilsl], .agg [.int .u8 4, pathV p, .int .i64 0, .nilsl, .int .u64 0, .ff, .str [], .str [107], .str [], .tt, .nilsl],
    .agg [.int .u8 6, pathV p, .int .i64 0, .nilsl, .int .u64 0, .ff, .str [], .str [], .str [], .ff, .sl 3 [.agg [.int .i64 1, .int .i64 1, .str [33]]]]]) ((manyO ps top i ++ (headO p ++ gapsO ps i p 0)).map opV) := by
  rw [gapsO, List.append_nil, List.map_append]
  exact wkE_app h (wk_head p)
theorem many_putT {top : Nat} {ps : List (List Int)} {i n : Nat} {p : List Int} {ys : List V} (h : WkE 11 ys ((manyO ps top i ++ (headO p ++ gapsO ps i p n)).map opV)) :
    WkE 11 (ys ++ [.agg [.int .u8 1, pathV p, .int .i64 n, .nilsl, .int .u64 (IntKind.u64.wrap (100 + 10 * (i : Int) + (n : Int))), .ff, .str [110], .str [], .str [], .ff, .nilsl]]) ((manyO ps top i ++ (headO p ++ (gapsO ps i p n ++ (putO i p n :: (ps.take 0).map (movO p n))))).map opV) := by
  have e : (manyO ps top i ++ (headO p ++ (gapsO ps i p n ++ (putO i p n :: (ps.take 0).map (movO p n))))).map opV = (manyO ps top i ++ (headO p ++ gapsO ps i p n)).map opV ++ [putO i p n].map opV := by simp
  rw [e]
  exact wkE_app h (wkO (Wk.nil 1) Wk.ff Wk.ff (Wk.nil 3))
theorem many_movT {top : Nat} {ps : List (List Int)} {i n k : Nat} {p : List Int} {us : List V} (h : WkE 11 us ((manyO ps top i ++ (headO p ++ (gapsO ps i p n ++ (putO i p n :: (ps.take k).map (movO p n))))).map opV)) (hk : k < ps.length) :
    WkE 11 (us ++ [.agg [.int .u8 3, pathV ps[k], .int .i64 n, pathV p, .int .u64 0, .ff, .str [], .str [], .str [], .ff, .nilsl]]) ((manyO ps top i ++ (headO p ++ (gapsO ps i p n ++ (putO i p n :: (ps.take (k + 1)).map (movO p n))))).map opV) := by
  have e : (manyO ps top i ++ (headO p ++ (gapsO ps i p n ++ (putO i p n :: (ps.take (k + 1)).map (movO p n))))).map opV = (manyO ps top i ++ (headO p ++ (gapsO ps i p n ++ (putO i p n :: (ps.take k).map (movO p n))))).map opV ++ [movO p n ps[k]].map opV := by
    rw [List.take_succ_eq_append_getElem hk, List.map_append]
    simp only [List.map_append, List.map_cons, List.map_nil, List.append_assoc, List.cons_append]
  rw [e]
  exact wkE_app h (wkO (.refl _) Wk.ff Wk.ff (Wk.nil 3))
set_option maxHeartbeats 4000000 in
set_option maxRecDepth 100000 in
theorem w_ManyT (ps : List (List Int)) (top : Nat) (hps : ps.length ≤ 100) (htop : top ≤ 3) : Pure Tryz.prog 6 [pathsV ps, .int .i64 top] (fun x => x = opsV (manyO ps top ps.length)) := by
  refine pure_wk (pure_fn 60 Tryz.func6 rfl rfl rfl fun B => ?_)
  show Goes _ _ _ _
  refine goes_own 5 11 rfl ?_
  refine goes_iter (ι := Nat × Nat × List V) (fun i => i.1 ≤ ps.length ∧ WkE 11 i.2.2 ((manyO ps top i.1).map opV)) (fun i => ps.length - i.1) (fun i => [(6, .int .i64 i.1), (5, .osl (.loc 0) i.2.1 0 i.2.2.length), (1, .int .i64 top), (0, pathsV ps)]) (fun i => [some (.vec i.2.1 11 i.2.2)]) (0, 0, []) 60 (fun _ => rfl) (fun _ => rfl) ⟨⟨Nat.zero_le _, trivial⟩, ⟨⟨rfl, rfl⟩, ⟨rfl, rfl⟩, ⟨rfl, rfl⟩, ⟨rfl, rfl⟩, trivial⟩, ⟨⟨rfl, rfl⟩, trivial⟩⟩ ?_
  rintro ⟨i, g, xs⟩ ⟨k1, k2⟩ next
  simp only at k1 k2
  have hlen : xs.length ≤ 40900 := by
    have h1 := k2.len
    rw [List.length_map, many_len] at h1
    have : i * (5 + (top + 1) * (1 + ps.length)) ≤ 100 * 409 := Nat.mul_le_mul (by omega) (by have := Nat.mul_le_mul (show top + 1 ≤ 4 by omega) (show 1 + ps.length ≤ 101 by omega); omega)
    omega
  refine ⟨fun hlt => go 60 ?_, fun hge => go 60 ?_⟩
  · have hi : i < ps.length := by simpa using hlt
    have hx : (ps.map pathV)[((i : Nat) : Int).toNat]? = some (pathV ps[i]) := by simp [hi]
    have hp : ps.getD i [] = ps[i] := by simp [hi]
    have hm : manyO ps top (i + 1) = manyO ps top i ++ (headO ps[i] ++ gapsO ps i ps[i] (top + 1)) := by rw [manyO, hp]
    generalize ps[i] = p at hx hm
    refine ⟨Int.natCast_nonneg i, _, hx, ⟨rfl, trivial⟩, rfl, rfl, ⟨rfl, rfl, rfl, rfl, rfl, trivial⟩, rfl, rfl, rfl, rfl, room_of2 (by simp only [List.length_cons, List.length_nil]; omega) (by decide), ?_⟩
    show Goes _ _ _ _
    refine goes_iter (ι := Nat × Nat × List V) (fun n => n.1 ≤ top + 1 ∧ WkE 11 n.2.2 ((manyO ps top i ++ (headO p ++ gapsO ps i p n.1)).map opV)) (fun n => top + 1 - n.1) (fun n => [(8, .int .i64 n.1), (7, pathV p), (6, .int .i64 i), (5, .osl (.loc 0) n.2.1 0 n.2.2.length), (1, .int .i64 top), (0, pathsV ps)]) (fun n => [some (.vec n.2.1 11 n.2.2)]) (0, bump g, _) 60 (fun _ => rfl) (fun _ => rfl)
      ⟨⟨Nat.zero_le _, many_headT k2⟩, ⟨⟨rfl, rfl⟩, ⟨rfl, rfl⟩, ⟨rfl, rfl⟩, ⟨(many_osl ..), rfl⟩, ⟨rfl, rfl⟩, ⟨rfl, rfl⟩, trivial⟩, ⟨⟨rfl, rfl⟩, trivial⟩⟩ ?_
    rintro ⟨n, g2, ys⟩ ⟨j1, j2⟩ next2
    simp only at j1 j2
    have hl2 : ys.length ≤ 50000 := by
      have h1 := j2.len
      rw [List.length_map, List.length_append, List.length_append, many_len, gaps_len] at h1
      have h2 : i * (5 + (top + 1) * (1 + ps.length)) ≤ 100 * 409 := Nat.mul_le_mul (by omega) (by have := Nat.mul_le_mul (show top + 1 ≤ 4 by omega) (show 1 + ps.length ≤ 101 by omega); omega)
      have h3 : n * (1 + ps.length) ≤ 4 * 101 := Nat.mul_le_mul (show n ≤ 4 by omega) (by omega)
      have h4 : (headO p).length = 5 := rfl
      omega
    refine ⟨fun hlt => go 60 ?_, fun hge => go 60 ?_⟩
    · have hn : n ≤ top := by have := of_decide_eq_true hlt; omega
      refine ⟨by constructor <;> omega, by constructor <;> omega, by constructor <;> omega, ⟨rfl, trivial⟩, rfl, rfl, rfl, rfl, room_of2 (by simp only [List.length_cons, List.length_nil]; omega) (by decide), ?_⟩
      show Goes _ _ _ _
      refine goes_iter (ι := Nat × Nat × List V) (fun k => k.1 ≤ ps.length ∧ WkE 11 k.2.2 ((manyO ps top i ++ (headO p ++ (gapsO ps i p n ++ (putO i p n :: (ps.take k.1).map (movO p n))))).map opV)) (fun k => ps.length - k.1) (fun k => [(9, .int .i64 k.1), (8, .int .i64 n), (7, pathV p), (6, .int .i64 i), (5, .osl (.loc 0) k.2.1 0 k.2.2.length), (1, .int .i64 top), (0, pathsV ps)]) (fun k => [some (.vec k.2.1 11 k.2.2)]) (0, bump g2, _) 60 (fun _ => rfl) (fun _ => rfl)
        ⟨⟨Nat.zero_le _, many_putT j2⟩, ⟨⟨rfl, rfl⟩, ⟨rfl, rfl⟩, ⟨rfl, rfl⟩, ⟨rfl, rfl⟩, ⟨(many_osl ..), rfl⟩, ⟨rfl, rfl⟩, ⟨rfl, rfl⟩, trivial⟩, ⟨⟨rfl, rfl⟩, trivial⟩⟩ ?_
      rintro ⟨k, g3, us⟩ ⟨m1, m2⟩ next3
      simp only at m1 m2
      have hl3 : us.length ≤ 60000 := by
        have h1 := m2.len
        rw [List.length_map, List.length_append, List.length_append, List.length_append, many_len, gaps_len, List.length_cons, List.length_map, List.length_take] at h1
        have h2 : i * (5 + (top + 1) * (1 + ps.length)) ≤ 100 * 409 := Nat.mul_le_mul (by omega) (by have := Nat.mul_le_mul (show top + 1 ≤ 4 by omega) (show 1 + ps.length ≤ 101 by omega); omega)
        have h3 : n * (1 + ps.length) ≤ 4 * 101 := Nat.mul_le_mul (show n ≤ 4 by omega) (by omega)
        have h4 : (headO p).length = 5 := rfl
        omega
      refine ⟨fun hlt => go 60 ?_, fun hge => go 60 ?_⟩
      · have hk : k < ps.length := by simpa using hlt
        have hy : (ps.map pathV)[((k : Nat) : Int).toNat]? = some (pathV ps[k]) := by simp [hk]
        have m3 := many_movT m2 hk
        refine ⟨Int.natCast_nonneg k, _, hy, ⟨rfl, trivial⟩, rfl, rfl, rfl, rfl, room_of2 (by simp only [List.length_cons, List.length_nil]; omega) (by decide), ?_⟩
        refine ⟨by constructor <;> omega, ?_⟩
        show Goes _ _ _ _
        exact next3 (k + 1, bump g3, _) _ _ ⟨⟨hk, m3⟩, by simp only; omega, ⟨⟨rfl, rfl⟩, ⟨rfl, rfl⟩, ⟨rfl, rfl⟩, ⟨rfl, rfl⟩, ⟨(many_osl ..), rfl⟩, ⟨rfl, rfl⟩, ⟨rfl, rfl⟩, trivial⟩, ⟨⟨rfl, rfl⟩, trivial⟩⟩
      · have hk : k = ps.length := by have : ps.length ≤ k := by simpa using hge
                                      omega
        have m3 : WkE 11 us ((manyO ps top i ++ (headO p ++ gapsO ps i p (n + 1))).map opV) := by
          rw [hk, List.take_length] at m2
          rw [gapsO]
          exact m2
        refine ⟨by constructor <;> omega, ?_⟩
        show Goes _ _ _ _
        exact next2 (n + 1, g3, us) _ _ ⟨⟨by simp only; omega, m3⟩, by simp only; omega, ⟨⟨rfl, rfl⟩, ⟨rfl, rfl⟩, ⟨rfl, rfl⟩, ⟨rfl, rfl⟩, ⟨rfl, rfl⟩, ⟨rfl, rfl⟩, trivial⟩, ⟨⟨rfl, rfl⟩, trivial⟩⟩
    · have hn : n = top + 1 := by have := of_decide_eq_false hge; omega
      have m3 : WkE 11 ys ((manyO ps top (i + 1)).map opV) := by rw [hm, ← hn]; exact j2
      refine ⟨by constructor <;> omega, ?_⟩
      show Goes _ _ _ _
      exact next (i + 1, g2, ys) _ _ ⟨⟨hi, m3⟩, by simp only; omega, ⟨⟨rfl, rfl⟩, ⟨rfl, rfl⟩, ⟨rfl, rfl⟩, ⟨rfl, rfl⟩, trivial⟩, ⟨⟨rfl, rfl⟩, trivial⟩⟩
  · have hi : i = ps.length := by have : ps.length ≤ i := by simpa using hge
                                  omega
    subst hi
    exact ⟨trivial, rfl, rfl, rfl, rfl, rfl, opsV (manyO ps top ps.length), Wk.sl k2, rfl, rfl⟩

end Bow
/- W159: the law InvertKnown, walked. -/
namespace Bow
open Go Go.Proofs

theorem at_modI {l : List OpT} {n : Nat} {j : Int} (hj : j = (n : Int)) (h : n % l.length < l.length) : 0 ≤ j.tmod ((l.map opV).length : Int) ∧ (l.map opV)[(j.tmod ((l.map opV).length : Int)).toNat]? = some (opV (l[n % l.length]'h)) := by
  subst hj
  have e : ((n : Nat) : Int).tmod ((l.map opV).length : Int) = ((n % l.length : Nat) : Int) := by rw [List.length_map]; rfl
  rw [e]
  exact ⟨Int.natCast_nonneg _, by rw [show (((n % l.length : Nat) : Int)).toNat = n % l.length from rfl, List.getElem?_map, List.getElem?_eq_getElem h]; rfl⟩
theorem grove_make (p : List Int) (at_ : Int) (hp : p.length ≤ 60) (hs : smallB (makeL p at_ groveT) = true) : Pure Tryz.prog 11 [pathV p, intV at_, nodeV groveT] (fun x => x = .bool true) := by
  have h := inv_mk
  simp only [Bool.and_eq_true, decide_eq_true_eq] at h
  obtain ⟨h1, _, h3, h4, h5, h6⟩ := h
  have h2 := smallB_ok hs
  have h3 := smallB_ok h3
  cases hq : grM.1.subs with
  | nil => rw [hq] at h6; cases h6
  | cons y l => cases l with
    | cons z l => rw [hq] at h6; cases h6
    | nil =>
      rw [hq] at h6
      simp only [Bool.and_eq_true, decide_eq_true_eq] at h6
      exact w_lawMake p at_ 1 [114] [] _ grM y hp h1 h2.1 (fun x hx => (h2.2 x hx).lt) h4 h3.1 h3.2 rfl h5 hq h6.1 h6.2
set_option pp.maxSteps 400 in
set_option maxHeartbeats 1000000 in
set_option maxRecDepth 100000 in
theorem w_InvertKnown : Pure Tryz.prog 3 [] (fun x => x = .bool true) := by
  have hw := w_works09
  have cP := w_Paths groveT (by decide)
  have cM := w_ManyT (pathsT groveT) 3 (by decide) (by decide)
  have e0 : invOps = manyO (pathsT groveT) 3 (pathsT groveT).length := rfl
  rw [← e0] at cM
  have hln := inv_len
  have hone : ∀ o ∈ invOps, oneB groveT o = true := List.all_eq_true.1 inv_one
  have hrow : ∀ i, i < invOps.length → i % 9 = 0 → allB groveT (pick3 invOps i) = true ∧ backAllB groveT (pick2 invOps i) = true := fun i h h9 => inv_row h h9
  have cof : ∀ o, oneB groveT o = true → Pure Tryz.prog 7 [nodeV groveT, opV o] (fun x => x = .bool true) := fun o ho => w_lawOf groveT o fun _ _ => oneB_of ho
  have cback : ∀ o, oneB groveT o = true → Pure Tryz.prog 8 [nodeV groveT, opV o] (fun x => x = .bool true) := fun o ho => w_lawBack groveT o (oneB_back (by decide) ho)
  have call_ : ∀ t l, allB t l = true → Pure Tryz.prog 9 [nodeV t, opsV l] (fun x => x = .bool true) := fun t l h => by
    obtain ⟨h1, h2, h3, h4, h5, h6⟩ := allB_ok h
    exact w_lawAll t l h1 h2 h3 h4 h5 fun x hx => (h6 x hx).lt
  have cback2 : ∀ l, backAllB groveT l = true → Pure Tryz.prog 10 [nodeV groveT, opsV l] (fun x => x = .bool true) := fun l h => w_lawBackAll groveT l (backAllB_ok h)
  clear e0
  generalize invOps = all at cM hln hone hrow
  have m1 := grove_make [1, 2] 3 (by decide) (by decide +kernel)
  have m2 := grove_make [] 0 (by decide) (by decide +kernel)
  have m3 := call_ _ _ inv_empty
  have m4 := cof _ inv_zero
  have cG := w_Grove
  generalize groveT = gT at cG cP cM hone hrow cof cback cback2 m1 m2 m4
  refine pure_wk (pure_fn 60 Tryz.func3 rfl rfl rfl fun B => ?_)
  show CallThen _ _ _ _ _ _
  refine call_pure cG rfl ?_
  rintro x rfl
  show CallThen _ _ _ _ _ _
  refine call_pure cP rfl ?_
  rintro x rfl
  show CallThen _ _ _ _ _ _
  refine call_pure cM rfl ?_
  rintro x rfl
  show Goes { P := Tryz.prog, nt := Tryz.f3.ntmps, fn := 3, ro := none, imps := [], X := XR Tryz.prog [] Tryz.f3.results B fun x T => frz x T False fun x' _ => x'.pureB = true ∧ ∃ y, Wk x' y ∧ y.pureB = true ∧ y = .bool true, B := B, D := [] } _ _ _
  refine goes_iter (ι := Nat) (fun i => i ≤ all.length) (fun i => all.length - i) (fun i => [(4, .int .i64 i), (3, opsV all), (1, .ptr (.loc 0) 0)]) (fun _ => [some (.box (nodeV gT).cells)]) 0 60 (fun _ => rfl) (fun _ => rfl) ⟨Nat.zero_le _, ⟨⟨rfl, rfl⟩, ⟨rfl, rfl⟩, ⟨rfl, rfl⟩, trivial⟩, ⟨⟨rfl, rfl⟩, trivial⟩⟩ ?_
  rintro i k1 next
  refine ⟨fun hlt => go 60 ?_, fun hge => go 60 ?_⟩
  · have hi : i < all.length := by simpa using hlt
    have hp : 0 < all.length := by omega
    have hx : (all.map opV)[((i : Nat) : Int).toNat]? = some (opV all[i]) := by simp [hi]
    have hb := Nat.mod_lt (i * 7 + 1) hp
    have hc := Nat.mod_lt (i * 5 + 2) hp
    have h3 : i % 9 = 0 → Pure Tryz.prog 9 [nodeV gT, opsV [all[i], all[(i * 7 + 1) % all.length], all[(i * 5 + 2) % all.length]]] (fun x => x = .bool true) := fun h9 => by
      have h := (hrow i hi h9).1
      have e : pick3 all i = [all[i], all[(i * 7 + 1) % all.length], all[(i * 5 + 2) % all.length]] := by
        unfold pick3
        rw [List.getElem?_eq_getElem hi, List.getElem?_eq_getElem hb, List.getElem?_eq_getElem hc]
        rfl
      rw [e] at h
      exact call_ _ _ h
    have h4 : i % 9 = 0 → Pure Tryz.prog 10 [nodeV gT, opsV [all[i], all[(i * 7 + 1) % all.length]]] (fun x => x = .bool true) := fun h9 => by
      have h := (hrow i hi h9).2
      have e : pick2 all i = [all[i], all[(i * 7 + 1) % all.length]] := by
        unfold pick2
        rw [List.getElem?_eq_getElem hi, List.getElem?_eq_getElem hb]
        rfl
      rw [e] at h
      exact cback2 _ h
    have hy := at_modI (l := all) (n := i * 7 + 1) (j := (i : Int) * 7 + 1) (by omega) hb
    have hz := at_modI (l := all) (n := i * 5 + 2) (j := (i : Int) * 5 + 2) (by omega) hc
    have h1 := cof _ (hone _ (List.getElem_mem hi))
    have h2 := cback _ (hone _ (List.getElem_mem hi))
    have hnz : (((all.map opV).length : Nat) : Int) ≠ 0 := by rw [List.length_map]; omega
    generalize all[i] = oa at hx h1 h2 h3 h4
    generalize all[(i * 7 + 1) % all.length] = ob at hy h3 h4
    generalize all[(i * 5 + 2) % all.length] = oc at hz h3
    show Goes _ (.code (.region _ _ true) :: _) _ _
    refine goes_drawG [] [23, 32, 36, 63] [some (.vec 0 0 []), some (.vec 0 0 [])] 60 (by kernel_rfl) ?_
    refine ⟨Int.natCast_nonneg i, _, hx, _, h1, rfl, ?_⟩
    refine ⟨fun g => (by cases g), fun _ => ?_⟩
    refine ⟨Int.natCast_nonneg i, _, hx, _, h2, rfl, ?_⟩
    refine ⟨fun g => (by cases g), fun _ => ?_⟩
    refine ⟨by decide, ?_⟩
    refine ⟨fun g9 => ?_, fun g9 => ?_⟩
    · have h9 : i % 9 = 0 := by
        have e : ((i : Nat) : Int).tmod 9 = ((i % 9 : Nat) : Int) := rfl
        have := eq_of g9
        rw [e] at this
        omega
      have h3 := h3 h9
      have h4 := h4 h9
      refine ⟨Int.natCast_nonneg i, _, hx, by constructor <;> omega, by constructor <;> omega, hnz, hy.1, _, hy.2, by constructor <;> omega, by constructor <;> omega, hnz, hz.1, _, hz.2, ?_⟩
      refine ⟨rfl, ?_⟩
      refine ⟨⟨rfl, rfl, rfl, trivial⟩, ?_⟩
      refine ⟨rfl, rfl, rfl, _, h3, rfl, ?_⟩
      refine ⟨fun g => (by cases g), fun _ => ?_⟩
      refine ⟨Int.natCast_nonneg i, _, hx, by constructor <;> omega, by constructor <;> omega, hnz, hy.1, _, hy.2, ?_⟩
      refine ⟨rfl, ⟨rfl, rfl, trivial⟩, ?_⟩
      refine ⟨rfl, rfl, rfl, _, h4, rfl, ?_⟩
      refine ⟨by kernel_rfl, ?_⟩
      refine ⟨fun g => (by cases g), fun _ => go 60 ?_⟩
      refine ⟨by constructor <;> omega, ?_⟩
      show Goes _ _ _ _
      exact next (i + 1) _ _ ⟨hi, by omega, ⟨⟨rfl, rfl⟩, ⟨rfl, rfl⟩, ⟨rfl, rfl⟩, trivial⟩, ⟨⟨rfl, rfl⟩, trivial⟩⟩
    · refine ⟨by kernel_rfl, ?_⟩
      refine ⟨by constructor <;> omega, ?_⟩
      show Goes _ _ _ _
      exact next (i + 1) _ _ ⟨hi, by omega, ⟨⟨rfl, rfl⟩, ⟨rfl, rfl⟩, ⟨rfl, rfl⟩, trivial⟩, ⟨⟨rfl, rfl⟩, trivial⟩⟩
  · clear next
    refine ⟨⟨rfl, rfl, trivial⟩, ?_⟩
    show CallThen _ _ _ _ _ _
    refine call_pure_frz ?_
    refine ⟨rfl, rfl, _, m1, rfl, ?_⟩
    rintro x rfl
    refine ⟨fun _ => go 60 ?_, fun g => (by cases g)⟩
    show CallThen _ _ _ _ _ _
    refine call_wk (args' := [pathV [], intV 0, nodeV gT]) ⟨.inr ⟨rfl, rfl, Wk.nil 1⟩, .inl rfl, .inl rfl, trivial⟩ ?_
    refine call_pure m2 rfl ?_
    rintro x rfl
    refine ⟨fun _ => go 60 ?_, fun g => (by cases g)⟩
    show CallThen _ _ _ _ _ _
    refine call_wk (args' := [nodeV (.mk 0 true [] [] [] []), opsV []]) ⟨.inr ⟨rfl, rfl, Wk.agg ⟨.refl _, Wk.tt, .refl _, Wk.nil 2, .refl _, Wk.nil 6, trivial⟩⟩, .inr ⟨rfl, rfl, Wk.nil 11⟩, trivial⟩ ?_
    refine call_pure m3 rfl ?_
    rintro x rfl
    refine ⟨fun _ => go 60 ?_, fun g => (by cases g)⟩
    show CallThen _ _ _ _ _ _
    refine call_wk (args' := [nodeV gT, opV (noOp 0)]) ⟨.inl rfl, .inr ⟨rfl, rfl, wk_zeroOp⟩, trivial⟩ ?_
    refine call_pure m4 rfl ?_
    rintro x rfl
    refine ⟨fun _ => go 60 ?_, fun g => (by cases g)⟩
    show CallThen _ _ _ _ _ _
    refine call_pure hw rfl ?_
    rintro x rfl
    exact ⟨trivial, rfl, rfl, rfl, leaf_b rfl⟩
end Bow
/- TD1: what is read as data at the program's types. -/
namespace Bow
open Go Go.Proofs

end Bow
/- TD2: operations that are read as data. -/
namespace Bow
open Go Go.Proofs

end Bow
