/- The library, part 6: W38, W39, SP14, W40, TD1, TD2. -/
import Derived.Test.YtcggkpkcmbanmaaMe
import Derived.Test.YtcggkpkcmbanmaaMc
import Derived.Test.YtcggkpkcmbanmaaMd
import Derived.Test.YtcggkpkcmbanmaaRows
import Derived.ChangeShapes
/- W38: the reference's Apply. -/
namespace Bow
open Go Go.Proofs

set_option maxRecDepth 100000 in
theorem w_refApply_bad (t : Tree) (o : OpT) (ht : t.weight ≤ 1000000) (ho : o.Ok) (h : ValidE t o ≠ 0) : Pure Try.prog 30 [nodeV t, opV o] (fun x => x = ApplyV (zeroT [], ValidE t o)) := by
  refine pure_wk (pure_fn 300 Try.func30 rfl rfl rfl fun B => ?_)
  show CallThen _ _ _ _ _ _
  refine call_pure (w_refValid t o ht ho) rfl ?_
  rintro x rfl
  refine ⟨fun g1 => go 300 ?_, fun g1 => absurd (eq_of' g1) h⟩
  exact ⟨trivial, rfl, rfl, rfl, ApplyV (zeroT [], ValidE t o), Wk.tup ⟨wk_zero (ss := []) (Wk.nil 6), .refl _, trivial⟩, rfl, rfl⟩

set_option maxHeartbeats 1000000 in
set_option maxRecDepth 100000 in
theorem w_refApply_ok (t : Tree) (o : OpT) (ht : t.weight ≤ 400000) (ho : o.Ok) (h : ValidE t o = 0) : Pure Try.prog 30 [nodeV t, opV o] (fun x => x = ApplyV (applyT t o, 0)) := by
  obtain ⟨hr, hf, _⟩ := valid_right h
  have hra : t.rightA = true := by
    unfold rightT at hr
    rw [Bool.and_eq_true] at hr
    exact hr.2
  have hp := ho.lt.path
  have hpi := may_step (formed_path hf)
  refine pure_fn 300 Try.func30 rfl rfl rfl fun B => ?_
  show CallThen _ _ _ _ _ _
  refine call_pure (w_refValid t o (by omega) ho) rfl ?_
  rintro x rfl
  refine ⟨fun g1 => absurd h (ne_of' g1), fun g1 => go 300 ?_⟩
  show CallThen _ _ _ _ _ _
  refine call_pure (w_refAt t o.path hp) rfl ?_
  rintro _ rfl
  cases good_of h with
  | ins y hk hy hl h0 h1 h2 =>
    have e : applyT t o = changeT (insT o.at_ (freshT o)) t o.path := by unfold applyT; rw [hk]; rfl
    have hyw := atT_weight hy
    rw [hy]
    refine ⟨fun g1 => go 300 ?_, fun g1 => absurd hk (ne_of g1)⟩
    show Goes _ _ _ _
    have hput := pure_args (args := [nodeV y, .int .i64 o.at_, .agg [.int .u64 o.id, .bool o.leaf, .str o.label, .nilsl, .str [], .nilsl]]) (w_refputs y (freshT o) o.at_ (by omega) h0 h1) ⟨.refl _, .refl _, wk_fresh o, trivial⟩ rfl rfl
    refine goes_draw 300 ⟨_, hput, rfl, _, w_refchange t (insT o.at_ (freshT o) y) y o.path hp (by omega) hy, rfl, ?_⟩
    refine ⟨by kernel_rfl, ?_⟩
    refine ⟨trivial, rfl, rfl, rfl, ?_⟩
    rw [change_const (F := insT o.at_ (freshT o)) hy, e]
    rfl
  | del x hk hne hx =>
    have e : applyT t o = withoutT t o.path := by unfold applyT; rw [hk]; rfl
    rw [hx]
    refine ⟨fun g1 => absurd (hk.symm.trans (eq_of g1)) (by decide), fun g1 => go 300 ?_⟩
    refine ⟨fun g1 => go 300 ?_, fun g1 => absurd hk (ne_of g1)⟩
    show CallThen _ _ _ _ _ _
    refine call_pure (w_refWithout t x o.path hp hne (by omega) hx) rfl ?_
    rintro z rfl
    exact ⟨trivial, rfl, rfl, rfl, by rw [e]; rfl⟩
  | mov x z hk hne hx hw hz hl h0 h1 =>
    have e : applyT t o = moveT x t o := by unfold applyT; rw [hk, hx]; rfl
    rw [hx]
    refine ⟨fun g1 => absurd (hk.symm.trans (eq_of g1)) (by decide), fun g1 => go 300 ?_⟩
    refine ⟨fun g1 => absurd (hk.symm.trans (eq_of g1)) (by decide), fun g1 => go 300 ?_⟩
    refine ⟨fun g1 => go 300 ?_, fun g1 => absurd hk (ne_of g1)⟩
    show CallThen _ _ _ _ _ _
    refine call_pure (w_refmove t x z o ht ho (fun i hi => by have := hpi i hi; constructor <;> omega) hne hx hw hz h0 h1) rfl ?_
    rintro r rfl
    exact ⟨trivial, rfl, rfl, rfl, by rw [e]; rfl⟩
  | att y hk hy h1 h2 =>
    have e : applyT t o = changeT (setAT o) t o.path := by unfold applyT; rw [hk]; rfl
    have hyw := atT_weight hy
    have ea : y.withAttrs (refA o o.gone y.attrs) = setAT o y := by rw [attr_law o (right_attrs (right_at hra hy))]; rfl
    rw [hy]
    refine ⟨fun g1 => absurd (hk.symm.trans (eq_of g1)) (by decide), fun g1 => go 300 ?_⟩
    refine ⟨fun g1 => absurd (hk.symm.trans (eq_of g1)) (by decide), fun g1 => go 300 ?_⟩
    refine ⟨fun g1 => absurd (hk.symm.trans (eq_of g1)) (by decide), fun g1 => go 300 ?_⟩
    refine ⟨fun g1 => go 300 ?_, fun g1 => absurd hk (ne_of g1)⟩
    show Goes _ _ _ _
    have hat := w_refattr y o (by omega)
    rw [ea] at hat
    refine goes_draw 300 ⟨_, hat, rfl, _, w_refchange t (setAT o y) y o.path hp (by omega) hy, rfl, ?_⟩
    refine ⟨by kernel_rfl, ?_⟩
    refine ⟨trivial, rfl, rfl, rfl, ?_⟩
    rw [change_const (F := setAT o) hy, e]
    rfl
  | lab y hk hy h2 =>
    have e : applyT t o = changeT (relabelT o.label) t o.path := by unfold applyT; rw [hk]; rfl
    rw [hy]
    refine ⟨fun g1 => absurd (hk.symm.trans (eq_of g1)) (by decide), fun g1 => go 300 ?_⟩
    refine ⟨fun g1 => absurd (hk.symm.trans (eq_of g1)) (by decide), fun g1 => go 300 ?_⟩
    refine ⟨fun g1 => absurd (hk.symm.trans (eq_of g1)) (by decide), fun g1 => go 300 ?_⟩
    refine ⟨fun g1 => absurd (hk.symm.trans (eq_of g1)) (by decide), fun g1 => go 300 ?_⟩
    refine ⟨fun g1 => go 300 ?_, fun g1 => absurd hk (ne_of g1)⟩
    show CallThen _ _ _ _ _ _
    cases y with
    | mk i lf b a c ss =>
    refine call_pure (w_refchange t (relabelT o.label (.mk i lf b a c ss)) (.mk i lf b a c ss) o.path hp (by omega) hy) rfl ?_
    rintro r rfl
    refine ⟨trivial, rfl, rfl, rfl, ?_⟩
    rw [change_const (F := relabelT o.label) hy, e]
    rfl
  | edt y hk hy hl he =>
    have e : applyT t o = changeT (retextT o.pieces) t o.path := by unfold applyT; rw [hk]; rfl
    have hyw := atT_weight hy
    have htw := text_le_weight y
    rw [hy]
    refine ⟨fun g1 => absurd (hk.symm.trans (eq_of g1)) (by decide), fun g1 => go 300 ?_⟩
    refine ⟨fun g1 => absurd (hk.symm.trans (eq_of g1)) (by decide), fun g1 => go 300 ?_⟩
    refine ⟨fun g1 => absurd (hk.symm.trans (eq_of g1)) (by decide), fun g1 => go 300 ?_⟩
    refine ⟨fun g1 => absurd (hk.symm.trans (eq_of g1)) (by decide), fun g1 => go 300 ?_⟩
    refine ⟨fun g1 => absurd (hk.symm.trans (eq_of g1)) (by decide), fun g1 => go 300 ?_⟩
    show CallThen _ _ _ _ _ _
    refine call_pure (w_refEdit y.text o.pieces (by omega) ho.lt.pieces ho.each) rfl ?_
    rintro r rfl
    show CallThen _ _ _ _ _ _
    cases y with
    | mk i lf b a c ss =>
    refine call_pure (w_refchange t (retextT o.pieces (.mk i lf b a c ss)) (.mk i lf b a c ss) o.path hp (by omega) hy) rfl ?_
    rintro r rfl
    refine ⟨trivial, rfl, rfl, rfl, ?_⟩
    rw [change_const (F := retextT o.pieces) hy, e]
    rfl

theorem w_refApply (t : Tree) (o : OpT) (ht : t.weight ≤ 400000) (ho : o.Ok) : Pure Try.prog 30 [nodeV t, opV o] (fun x => x = ApplyV (applyR t o)) := by
  by_cases h : ValidE t o = 0
  · have e : applyR t o = (applyT t o, 0) := by unfold applyR; rw [decide_eq_true h]; rfl
    rw [e]
    exact w_refApply_ok t o ht ho h
  · have e : applyR t o = (zeroT [], ValidE t o) := by unfold applyR; rw [decide_eq_false h]; rfl
    rw [e]
    exact w_refApply_bad t o (by omega) ho h
end Bow
/- W39: the reference's Same, IDs. -/
namespace Bow
open Go Go.Proofs

theorem attrs_take {α : Type} {xs ys : List α} {i : Nat} (h1 : i < xs.length) (h2 : i < ys.length) : (xs.drop i = ys.drop i) = (xs[i] = ys[i] ∧ xs.drop (i + 1) = ys.drop (i + 1)) := by
  rw [List.drop_eq_getElem_cons h1, List.drop_eq_getElem_cons h2, List.cons.injEq]

set_option maxRecDepth 100000 in
theorem w_refSameAttrs (xs ys : AttrL) (hl : xs.length ≤ 1000000) : Pure Try.prog 72 [.sl 2 (xs.map attrV), .sl 2 (ys.map attrV)] (fun x => x = .bool (decide (xs = ys))) := by
  refine pure_wk (pure_fn 300 Try.func72 rfl rfl rfl fun B => ?_)
  refine ⟨fun g1 => go 300 ?_, fun g1 => go 300 ?_⟩
  · have g1 := ne_of' g1
    exact ⟨trivial, rfl, rfl, rfl, leaf_ff (decide_eq_false fun e => g1 (by rw [e]))⟩
  have g1 : xs.length = ys.length := by have := eq_of' g1; simp at this; omega
  show Goes _ _ _ _
  refine goes_iter (ι := Nat) (fun i => i ≤ xs.length ∧ (xs.drop i = ys.drop i ↔ xs = ys)) (fun i => xs.length - i) (fun i => [(5, .int .i64 i), (0, .sl 2 (xs.map attrV)), (1, .sl 2 (ys.map attrV))]) (fun _ => []) 0 300 (fun _ => rfl) (fun _ => rfl) ⟨⟨Nat.zero_le _, by simp⟩, ⟨⟨rfl, rfl⟩, ⟨rfl, rfl⟩, ⟨rfl, rfl⟩, trivial⟩, trivial⟩ ?_
  rintro i ⟨k1, k2⟩ next
  refine ⟨fun hlt => go 300 ?_, fun hge => go 300 ?_⟩
  · have hi : i < xs.length := by simpa using hlt
    have hi' : i < ys.length := by omega
    have hx : (xs.map attrV)[i]? = some (attrV xs[i]) := by simp [hi]
    have hy : (ys.map attrV)[i]? = some (attrV ys[i]) := by simp [hi']
    rw [attrs_take hi hi'] at k2
    show Goes _ _ _ _
    refine goes_draw 300 ⟨Int.natCast_nonneg i, _, hx, Int.natCast_nonneg i, _, hy, ?_⟩
    refine ⟨by kernel_rfl, ?_⟩
    refine ⟨by kernel_rfl, ?_⟩
    refine ⟨fun g2 => go 300 ?_, fun g2 => go 300 ?_⟩
    · refine ⟨trivial, rfl, rfl, rfl, leaf_ff (decide_eq_false fun e => ?_)⟩
      have := (k2.2 e).1
      rw [this] at g2
      simp at g2
    · refine ⟨by constructor <;> omega, ?_⟩
      have he : xs[i] = ys[i] := by
        simp at g2
        exact Prod.ext g2.1 g2.2
      exact next (i + 1) _ _ ⟨⟨hi, by rw [← k2]; exact ⟨fun h => ⟨he, h⟩, fun h => h.2⟩⟩, by omega, ⟨⟨rfl, rfl⟩, ⟨rfl, rfl⟩, ⟨rfl, rfl⟩, trivial⟩, trivial⟩
  · have hi : i = xs.length := by have : xs.length ≤ i := by simpa using hge
                                  omega
    subst hi
    refine ⟨trivial, rfl, rfl, rfl, leaf_tt (decide_eq_true (k2.1 ?_))⟩
    rw [List.drop_eq_nil_of_le (Nat.le_refl _), List.drop_eq_nil_of_le (by omega)]

set_option maxHeartbeats 1000000 in
set_option maxRecDepth 100000 in
theorem w_refSameT (t : Tree) : ∀ u : Tree, t.weight ≤ 1000000 → Pure Try.prog 31 [nodeV t, nodeV u] (fun x => x = .bool (sameT true t u)) := by
  induction t using Tree.ind with
  | _ t ih =>
  intro u ht
  have hsl := subs_le_weight t
  have hal := attrs_le_weight t
  have hA := w_refSameAttrs t.attrs u.attrs (by omega)
  have e := sameT_eq true t u
  refine pure_wk (pure_fn 300 Try.func31 rfl rfl rfl fun B => ?_)
  repeat' first
    | (refine ⟨fun _ => go 300 ?_, fun _ => go 300 ?_⟩)
    | (show CallThen _ _ _ _ _ _; refine call_pure hA rfl ?_; rintro z rfl)
    | (refine ⟨trivial, rfl, rfl, rfl, leaf_ff ?_⟩)
    | fail
  case h.refine_2.refine_2.refine_2.refine_2.refine_2.refine_2 g1 g2 g3 g4 g5 g6 =>
    have hlen : t.subs.length = u.subs.length := by have := eq_of' g6; rw [subV_len, subV_len] at this; omega
    have e' : sameT true t u = sameTs true t.subs u.subs := by
      rw [e]
      have g1 := eq_of' g1
      simp at g2 g3 g4 g5
      simp [g1, g2, g3, g4, g5]
    show Goes _ _ _ _
    refine goes_iter (ι := Nat) (fun i => i ≤ t.subs.length ∧ sameTs true (t.subs.drop i) (u.subs.drop i) = sameTs true t.subs u.subs) (fun i => t.subs.length - i) (fun i => [(5, .int .i64 i), (2, .ptr (.loc 0) 0), (3, .ptr (.loc 1) 0)]) (fun _ => [some (.box (nodeV t).cells), some (.box (nodeV u).cells)]) 0 300 (fun _ => rfl) (fun _ => rfl) ⟨⟨Nat.zero_le _, rfl⟩, ⟨⟨rfl, rfl⟩, ⟨rfl, rfl⟩, ⟨rfl, rfl⟩, trivial⟩, ⟨⟨rfl, rfl⟩, ⟨rfl, rfl⟩, trivial⟩⟩ ?_
    rintro i ⟨k1, k2⟩ next
    refine ⟨fun hlt => go 300 ?_, fun hge => go 300 ?_⟩
    · have hi : i < t.subs.length := by simpa [subV_eq] using hlt
      have hi' : i < u.subs.length := by omega
      have hx : t.subV[i]? = some (nodeV t.subs[i]) := by simp [subV_eq, hi]
      have hy : u.subV[i]? = some (nodeV u.subs[i]) := by simp [subV_eq, hi']
      have hws := weight_sub (List.getElem_mem hi)
      rw [sameTs_at hi hi'] at k2
      show Goes _ _ _ _
      refine goes_draw 300 ⟨Int.natCast_nonneg i, _, hx, Int.natCast_nonneg i, _, hy, _, ih _ (List.getElem_mem hi) u.subs[i] (by omega), rfl, ?_⟩
      refine ⟨by kernel_rfl, ?_⟩
      refine ⟨fun g => go 300 ?_, fun g => go 300 ?_⟩
      · have g : sameT true t.subs[i] u.subs[i] = false := by simpa using g
        exact ⟨trivial, rfl, rfl, rfl, leaf_ff (by rw [e', ← k2, g]; rfl)⟩
      · have g : sameT true t.subs[i] u.subs[i] = true := by simpa using g
        rw [g, Bool.true_and] at k2
        refine ⟨by constructor <;> omega, ?_⟩
        exact next (i + 1) _ _ ⟨⟨hi, k2⟩, by omega, ⟨⟨rfl, rfl⟩, ⟨rfl, rfl⟩, ⟨rfl, rfl⟩, trivial⟩, ⟨⟨rfl, rfl⟩, ⟨rfl, rfl⟩, trivial⟩⟩
    · have hi : t.subs.length ≤ i := by simpa [subV_eq] using hge
      rw [List.drop_eq_nil_of_le hi, List.drop_eq_nil_of_le (by omega), sameTs] at k2
      exact ⟨trivial, rfl, rfl, rfl, leaf_tt (by rw [e', ← k2])⟩
  case h.refine_2.refine_2.refine_2.refine_2.refine_2.refine_1 g1 g2 g3 g4 g5 g6 =>
    have g6 := ne_of' g6
    rw [subV_len, subV_len] at g6
    cases h : sameT true t u with
    | false => rfl
    | true =>
      rw [e] at h
      simp only [Bool.and_eq_true] at h
      exact absurd (congrArg Nat.cast (sameTs_len h.2.2.2.2.2)) g6
  all_goals (rw [e]; simp_all)

mutual
def idsT : Tree → List Int
  | .mk i _ _ _ _ ss => i :: idsTs ss
def idsTs : List Tree → List Int
  | [] => []
  | s :: ss => idsT s ++ idsTs ss
end
theorem idsT_eq (t : Tree) : idsT t = t.id :: idsTs t.subs := by cases t; rw [idsT]; rfl
mutual
theorem idsT_len : ∀ t : Tree, (idsT t).length = t.size
  | .mk i l a b c ss => by rw [idsT, Tree.size, List.length_cons, idsTs_len ss]; omega
theorem idsTs_len : ∀ ss : List Tree, (idsTs ss).length = sizes ss
  | [] => rfl
  | s :: ss => by rw [idsTs, sizes, List.length_append, idsT_len s, idsTs_len ss]
end
theorem idsTs_drop {ss : List Tree} {i : Nat} (h : i < ss.length) : idsTs (ss.drop i) = idsT ss[i] ++ idsTs (ss.drop (i + 1)) := by
  rw [List.drop_eq_getElem_cons h, idsTs]
def idV (i : Int) : V := .int .u64 i
def idsV (l : List Int) : V := .sl 1 (l.map idV)
set_option maxRecDepth 100000 in
theorem w_refIDs (t : Tree) : t.weight ≤ 1000000 → Pure Try.prog 27 [nodeV t] (fun x => x = idsV (idsT t)) := by
  induction t using Tree.ind with
  | _ t ih =>
  intro ht
  have hsl := subs_le_weight t
  have hsz := size_le_weight t
  have hil := idsT_len t
  refine pure_fn 300 Try.func27 rfl rfl rfl fun B => ?_
  refine ⟨⟨rfl, trivial⟩, ?_⟩
  show Goes _ _ _ _
  refine goes_iter (ι := Nat × Nat × Nat × List V) (fun i => i.1 ≤ t.subs.length ∧ ∃ acc : List Int, i.2.2.2 = acc.map idV ∧ i.2.2.1 = acc.length ∧ acc ++ idsTs (t.subs.drop i.1) = idsT t) (fun i => t.subs.length - i.1)
    (fun i => [(4, .int .i64 i.1), (3, .osl (.loc 1) i.2.1 0 i.2.2.1), (1, .ptr (.loc 0) 0)]) (fun i => [some (.box (nodeV t).cells), some (.vec i.2.1 1 i.2.2.2)]) (0, 0, 1, [idV t.id]) 300 (fun _ => rfl) (fun _ => rfl) ⟨⟨Nat.zero_le _, [t.id], rfl, rfl, by rw [idsT_eq]; rfl⟩, ⟨⟨rfl, rfl⟩, ⟨rfl, rfl⟩, ⟨rfl, rfl⟩, trivial⟩, ⟨⟨rfl, rfl⟩, ⟨rfl, rfl⟩, trivial⟩⟩ ?_
  rintro ⟨i, g, n, xs⟩ ⟨k1, acc, rfl, rfl, k2⟩ next
  simp only at k1 k2
  refine ⟨fun hlt => go 300 ?_, fun hge => go 300 ?_⟩
  · have hi : i < t.subs.length := by simpa [subV_eq] using hlt
    have hx : t.subV[i]? = some (nodeV t.subs[i]) := by simp [subV_eq, hi]
    have hws := weight_sub (List.getElem_mem hi)
    rw [idsTs_drop hi] at k2
    have hlen := congrArg List.length k2
    simp only [List.length_append] at hlen
    refine ⟨Int.natCast_nonneg i, _, hx, ?_⟩
    show CallThen _ _ _ _ _ _
    refine call_pure (ih _ (List.getElem_mem hi) (by omega)) rfl ?_
    rintro x rfl
    refine ⟨rfl, by simp, room_of (by simp; omega) (by decide), ?_⟩
    refine ⟨by constructor <;> omega, ?_⟩
    show Goes _ _ _ _
    refine next (i + 1, bump g, _, _) _ _ ⟨⟨hi, acc ++ idsT t.subs[i], ?_, ?_, ?_⟩, ?_, ⟨⟨rfl, rfl⟩, ⟨rfl, rfl⟩, ⟨rfl, rfl⟩, trivial⟩, ⟨⟨rfl, rfl⟩, ⟨rfl, rfl⟩, trivial⟩⟩
    · simp
    · simp
    · simpa using k2
    · simp only; omega
  · have hi : t.subs.length ≤ i := by simpa [subV_eq] using hge
    rw [List.drop_eq_nil_of_le hi, idsTs, List.append_nil] at k2
    subst k2
    exact ⟨trivial, rfl, rfl, rfl, by simp, rfl, rfl⟩
end Bow
/- SP14: how heavy a tree becomes, in plain Lean. -/
namespace Bow
open Go

theorem weights_set_eq {s u : Tree} : ∀ {l : List Tree} {i : Nat}, l[i]? = some s → weights (l.set i u) + s.weight = weights l + u.weight
  | [], i, h => by simp at h
  | x :: l, 0, h => by
    simp at h
    subst h
    rw [List.set_cons_zero, weights, weights]
    omega
  | x :: l, i + 1, h => by
    simp at h
    have := weights_set_eq (u := u) (l := l) h
    rw [List.set_cons_succ, weights, weights]
    omega
theorem change_weight_eq {F : Tree → Tree} {y : Tree} : ∀ {p : List Int} {t : Tree}, atT t p = some y → (changeT F t p).weight + y.weight = t.weight + (F y).weight
  | [], t, h => by
    rw [atT] at h
    injection h with h
    subst h
    rw [changeT]
    omega
  | i :: p, t, h => by
    rw [atT] at h
    cases hs : subT t i with
    | none => rw [hs] at h; cases h
    | some s =>
      rw [hs] at h
      have ih := change_weight_eq (F := F) (p := p) h
      rw [changeT, hs]
      simp only
      have h1 := weights_set_eq (u := changeT F s p) (subT_some hs).2.1
      have h2 := withSubs_weight t (t.subs.set i.toNat (changeT F s p))
      omega
theorem del_weight_eq {y x : Tree} {i : Int} (h : y.subs[i.toNat]? = some x) : (delT i y).weight + x.weight = y.weight := by
  have h1 := withSubs_weight y (y.subs.take i.toNat ++ y.subs.drop (i.toNat + 1))
  have h2 : weights (y.subs.take i.toNat ++ y.subs.drop (i.toNat + 1)) + x.weight = weights y.subs := by
    have hl := lt_of_get h
    conv => rhs; rw [← List.take_append_drop i.toNat y.subs]
    rw [weights_append, weights_append, List.drop_eq_getElem_cons hl, weights]
    have : y.subs[i.toNat] = x := by rw [List.getElem?_eq_getElem hl] at h; injection h
    rw [this]
    omega
  unfold delT
  omega
theorem without_weight {t x : Tree} {p : List Int} (hne : p ≠ []) (hx : atT t p = some x) : (withoutT t p).weight + x.weight = t.weight := by
  obtain ⟨y, y1, y2, y3, y4⟩ := at_parent hne hx
  rw [lastP_eq hne] at y4
  have h1 := change_weight_eq (F := delT (lastP p)) y1
  have h2 := del_weight_eq y4
  unfold withoutT
  omega
def costO (o : OpT) : Nat := 2 + o.label.length + o.key.length + o.value.length + putsLen o.pieces
theorem attrLen_append : ∀ a b : AttrL, attrLen (a ++ b) = attrLen a + attrLen b
  | [], b => by simp [attrLen]
  | x :: a, b => by
    have := attrLen_append a b
    rw [List.cons_append, attrLen_cons, attrLen_cons]
    omega
theorem setA_weight (o : OpT) (y : Tree) : (setAT o y).weight ≤ y.weight + (1 + o.key.length + o.value.length) := by
  have h1 : (setA o y.attrs).length + attrLen (setA o y.attrs) ≤ y.attrs.length + attrLen y.attrs + (1 + o.key.length + o.value.length) := by
    unfold setA
    rw [attrLen_append, attrLen_append]
    have e : attrLen y.attrs = attrLen (y.attrs.take (posK o.key y.attrs)) + attrLen (y.attrs.drop (posK o.key y.attrs)) := by rw [← attrLen_append, List.take_append_drop]
    have e2 : attrLen (y.attrs.drop (posK o.key y.attrs + (bif hasK o.key y.attrs then 1 else 0))) ≤ attrLen (y.attrs.drop (posK o.key y.attrs)) := by
      rw [← List.drop_drop]
      cases hasK o.key y.attrs with
      | false => simp
      | true =>
        cases y.attrs.drop (posK o.key y.attrs) with
        | nil => simp
        | cons a l => rw [attrLen_cons]; simp only [cond_true, List.drop_succ_cons, List.drop_zero]; omega
    have e3 : (midA o).length + attrLen (midA o) ≤ 1 + o.key.length + o.value.length := by
      unfold midA
      cases o.gone <;> simp [attrLen]
      omega
    simp only [List.length_append, List.length_take, List.length_drop]
    omega
  have w1 := weight_eq y
  have w2 := weight_eq (setAT o y)
  have : (setAT o y).label = y.label ∧ (setAT o y).text = y.text ∧ (setAT o y).attrs = setA o y.attrs ∧ (setAT o y).subs = y.subs := by cases y; exact ⟨rfl, rfl, rfl, rfl⟩
  obtain ⟨q1, q2, q3, q4⟩ := this
  rw [q1, q2, q3, q4] at w2
  omega
theorem relabel_weight (s : List UInt8) (y : Tree) : (relabelT s y).weight ≤ y.weight + s.length := by
  have w1 := weight_eq y
  have w2 := weight_eq (relabelT s y)
  have : (relabelT s y).label = s ∧ (relabelT s y).text = y.text ∧ (relabelT s y).attrs = y.attrs ∧ (relabelT s y).subs = y.subs := by cases y; exact ⟨rfl, rfl, rfl, rfl⟩
  obtain ⟨q1, q2, q3, q4⟩ := this
  rw [q1, q2, q3, q4] at w2
  omega
theorem applyE_length (t : List UInt8) (l : List PieceT) : (applyE t l).1.length ≤ t.length + putsLen l := by
  unfold applyE
  cases hr : rightP l with
  | false => simp
  | true =>
    obtain ⟨r1, r2, r3⟩ := rightP_ok hr
    by_cases h : (t.length : Int) < extentP l
    · rw [decide_eq_true h]; simp
    · rw [decide_eq_false h]
      exact editP_len r2 (by omega)
theorem retext_weight (l : List PieceT) (y : Tree) : (retextT l y).weight ≤ y.weight + putsLen l := by
  have w1 := weight_eq y
  have w2 := weight_eq (retextT l y)
  have : (retextT l y).label = y.label ∧ (retextT l y).text = (applyE y.text l).1 ∧ (retextT l y).attrs = y.attrs ∧ (retextT l y).subs = y.subs := by cases y; exact ⟨rfl, rfl, rfl, rfl⟩
  obtain ⟨q1, q2, q3, q4⟩ := this
  rw [q1, q2, q3, q4] at w2
  have := applyE_length y.text l
  omega
theorem fresh_weight (o : OpT) : (freshT o).weight = 1 + o.label.length := by
  have := weight_eq (freshT o)
  have e : (freshT o).label = o.label ∧ (freshT o).text = [] ∧ (freshT o).attrs = [] ∧ (freshT o).subs = [] := ⟨rfl, rfl, rfl, rfl⟩
  obtain ⟨q1, q2, q3, q4⟩ := e
  rw [q1, q2, q3, q4] at this
  simp [attrLen, weights] at this
  omega
theorem applyT_weight {t : Tree} {o : OpT} (h : ValidE t o = 0) : (applyT t o).weight ≤ t.weight + costO o := by
  unfold costO
  cases good_of h with
  | ins y hk hy hl h0 h1 h2 =>
    have e : applyT t o = changeT (insT o.at_ (freshT o)) t o.path := by unfold applyT; rw [hk]; rfl
    have := change_weight_eq (F := insT o.at_ (freshT o)) hy
    have := ins_weight o.at_ (freshT o) y
    have := fresh_weight o
    rw [e]
    omega
  | del x hk hne hx =>
    have e : applyT t o = withoutT t o.path := by unfold applyT; rw [hk]; rfl
    have := without_weight hne hx
    rw [e]
    omega
  | mov x z hk hne hx hw hz hl h0 h1 =>
    have e : applyT t o = moveT x t o := by unfold applyT; rw [hk, hx]; rfl
    have := without_weight hne hx
    have := change_weight_add (F := insT (landT o.path.dropLast (lastP o.path) o.to o.at_).2 x) (n := x.weight) (ins_weight _ x) (landT o.path.dropLast (lastP o.path) o.to o.at_).1 (withoutT t o.path)
    rw [e, moveT_eq]
    omega
  | att y hk hy h1 h2 =>
    have e : applyT t o = changeT (setAT o) t o.path := by unfold applyT; rw [hk]; rfl
    have := change_weight_eq (F := setAT o) hy
    have := setA_weight o y
    rw [e]
    omega
  | lab y hk hy h2 =>
    have e : applyT t o = changeT (relabelT o.label) t o.path := by unfold applyT; rw [hk]; rfl
    have := change_weight_eq (F := relabelT o.label) hy
    have := relabel_weight o.label y
    rw [e]
    omega
  | edt y hk hy hl he =>
    have e : applyT t o = changeT (retextT o.pieces) t o.path := by unfold applyT; rw [hk]; rfl
    have := change_weight_eq (F := retextT o.pieces) hy
    have := retext_weight o.pieces y
    rw [e]
    omega
theorem applyR_weight (t : Tree) (o : OpT) : (applyR t o).1.weight ≤ t.weight + costO o := by
  unfold applyR
  by_cases h : ValidE t o = 0
  · rw [decide_eq_true h]
    exact applyT_weight h
  · rw [decide_eq_false h]
    have e : (Tree.mk 0 false [] [] [] []).weight = 1 := by
      have := weight_eq (Tree.mk 0 false [] [] [] [])
      simp [attrLen, weights, Tree.label, Tree.text, Tree.attrs, Tree.subs] at this
      exact this
    show (Tree.mk 0 false [] [] [] []).weight ≤ _
    rw [e]
    unfold costO
    omega
end Bow
/- W40: the law's function TreeopsApply. -/
namespace Bow
open Go Go.Proofs

theorem applyR_size (t : Tree) : (nodeV t).cells.length = 6 := by cases t; rfl

set_option maxHeartbeats 1000000 in
set_option maxRecDepth 100000 in
theorem w_TreeopsApply (t : Tree) (o : OpT) : Pure Try.prog 7 [nodeV t, opV o] (fun x => x = .bool true) := by
  refine pure_wk (pure_fn 300 Try.func7 rfl rfl rfl fun B => ?_)
  show CallThen _ _ _ _ _ _
  refine call_pure (w_Weight t 600 (by decide)) rfl ?_
  rintro x ⟨w, rfl, w1, w2, w3⟩
  refine ⟨fun g => go 300 ?_, fun g => go 300 ?_⟩
  · show CallThen _ _ _ _ _ _
    refine call_pure w_works08 rfl ?_
    rintro x rfl
    exact ⟨trivial, rfl, rfl, rfl, leaf_b rfl⟩
  have g : (w : Int) ≤ 600 := not_lt_of g
  have hw : t.weight ≤ 600 := by have := w3 (by omega); omega
  have hw' : t.weight ≤ 1000000 := by omega
  show CallThen _ _ _ _ _ _
  refine call_pure (w_LightX o 500 (by decide)) rfl ?_
  rintro x rfl
  refine ⟨fun g => go 300 ?_, fun g => go 300 ?_⟩
  · show CallThen _ _ _ _ _ _
    refine call_pure w_works08 rfl ?_
    rintro x rfl
    exact ⟨trivial, rfl, rfl, rfl, leaf_b rfl⟩
  have ok : o.Ok := light_ok (by simpa using g) (by decide)
  have hlt := (lightB_iff o 500).1 (by simpa using g)
  have hrw : (applyR t o).1.weight ≤ 1000000 := by
    have := applyR_weight t o
    have := hlt.1.label
    have := hlt.1.key
    have := hlt.1.value
    have := hlt.2
    unfold costO at *
    omega
  show CallThen _ _ _ _ _ _
  refine call_pure (w_refIDs t hw') rfl ?_
  rintro x rfl
  show CallThen _ _ _ _ _ _
  refine call_pure (w_refLong t hw') rfl ?_
  rintro x rfl
  show CallThen _ _ _ _ _ _
  refine call_pure (w_Apply t o (by omega) ok) rfl ?_
  rintro x rfl
  show CallThen _ _ _ _ _ _
  refine call_pure (w_refApply t o (by omega) ok) rfl ?_
  rintro x rfl
  show CallThen _ _ _ _ _ _
  refine call_pure (w_refIDs t hw') rfl ?_
  rintro x rfl
  refine ⟨fun g => absurd rfl (ne_of' g), fun _ => go 300 ?_⟩
  show CallThen _ _ _ _ _ _
  refine call_pure (w_refSameT (applyR t o).1 (applyR t o).1 hrw) rfl ?_
  rintro x rfl
  refine ⟨fun g => absurd g (by rw [sameT_refl]; decide), fun _ => go 300 ?_⟩
  refine ⟨fun g => absurd rfl (ne_of' g), fun _ => go 300 ?_⟩
  show CallThen _ _ _ _ _ _
  refine call_pure (w_refLong t hw') rfl ?_
  rintro x rfl
  refine ⟨fun g => absurd rfl (ne_of' g), fun _ => go 300 ?_⟩
  show Goes _ _ _ _
  refine goes_iter (ι := Nat) (fun i => i ≤ (idsT t).length) (fun i => (idsT t).length - i) (fun i => [(12, .int .i64 i), (5, idsV (idsT t)), (11, idsV (idsT t))]) (fun _ => []) 0 300 (fun _ => rfl) (fun _ => rfl) ⟨Nat.zero_le _, ⟨⟨rfl, rfl⟩, ⟨rfl, rfl⟩, ⟨rfl, rfl⟩, trivial⟩, trivial⟩ ?_
  rintro i k1 next
  refine ⟨fun hlt => go 300 ?_, fun hge => go 300 ?_⟩
  · have hi : i < (idsT t).length := by simpa using hlt
    have hx : ((idsT t).map idV)[i]? = some (idV (idsT t)[i]) := by simp [hi]
    have hsz := size_le_weight t
    have hil := idsT_len t
    show Goes _ _ _ _
    refine goes_draw 300 ⟨Int.natCast_nonneg i, _, hx, Int.natCast_nonneg i, _, hx, ?_⟩
    refine ⟨by kernel_rfl, ?_⟩
    refine ⟨fun g => absurd rfl (ne_of' g), fun _ => go 300 ?_⟩
    refine ⟨by constructor <;> omega, ?_⟩
    exact next (i + 1) _ _ ⟨hi, by omega, ⟨⟨rfl, rfl⟩, ⟨rfl, rfl⟩, ⟨rfl, rfl⟩, trivial⟩, trivial⟩
  · show CallThen _ _ _ _ _ _
    refine call_pure w_works08 rfl ?_
    rintro x rfl
    exact ⟨trivial, rfl, rfl, rfl, leaf_b rfl⟩
end Bow
/- TD1: what is read as data at the program's types. -/
namespace Bow
open Go Go.Proofs

theorem take1 {vs : List V} {c : V} (h : vs.take 1 = [c]) : ∃ r, vs = c :: r ∧ vs.drop 1 = r := by
  cases vs with
  | nil => simp at h
  | cons x r => simp at h; subst h; exact ⟨r, rfl, rfl⟩

theorem map_exists {α β : Type} {f : α → V} {g : β → V} : ∀ {xs : List α}, (∀ x ∈ xs, ∃ y, f x = g y) → ∃ ys : List β, xs.map f = ys.map g
  | [], _ => ⟨[], rfl⟩
  | x :: xs, h => by
    obtain ⟨y, hy⟩ := h x List.mem_cons_self
    obtain ⟨ys, hys⟩ := map_exists (xs := xs) fun z hz => h z (List.mem_cons_of_mem _ hz)
    exact ⟨y :: ys, by simp [hy, hys]⟩

theorem vt_str {n : Nat} {vs : List V} (h : VT Try.prog n 9 vs) : ∃ s, vs = [.str s] := by
  cases n with
  | zero => exact h.elim
  | succ n =>
    obtain ⟨s, e, _⟩ : ∃ s : List UInt8, vs = [.str s] ∧ s.length ≤ maxLen := h
    exact ⟨s, e⟩
theorem vt_bool {n : Nat} {vs : List V} (h : VT Try.prog n 4 vs) : ∃ b, vs = [.bool b] := by
  cases n with
  | zero => exact h.elim
  | succ n => exact h
theorem vt_int {n : Nat} {vs : List V} (h : VT Try.prog n 3 vs) : ∃ i, vs = [.int .i64 i] ∧ (Lit.int .i64 i).wf = true := by
  cases n with
  | zero => exact h.elim
  | succ n => exact h
theorem vt_u64 {n : Nat} {vs : List V} (h : VT Try.prog n 22 vs) : ∃ i, vs = [.int .u64 i] := by
  cases n with
  | zero => exact h.elim
  | succ n =>
    obtain ⟨s, e, _⟩ : ∃ s : Int, vs = [.int .u64 s] ∧ (Lit.int .u64 s).wf = true := h
    exact ⟨s, e⟩
theorem vt_u8 {n : Nat} {vs : List V} (h : VT Try.prog n 5 vs) : ∃ i, vs = [.int .u8 i] := by
  cases n with
  | zero => exact h.elim
  | succ n =>
    obtain ⟨s, e, _⟩ : ∃ s : Int, vs = [.int .u8 s] ∧ (Lit.int .u8 s).wf = true := h
    exact ⟨s, e⟩
set_option maxRecDepth 100000 in
theorem vt_attr {n : Nat} {vs : List V} (h : VT Try.prog n 67 vs) : ∃ a, vs = (attrV a).cells := by
  cases n with
  | zero => exact h.elim
  | succ n =>
    obtain ⟨h0, h1, h2⟩ : VT Try.prog n 9 (vs.take 1) ∧ VT Try.prog n 9 ((vs.drop 1).take 1) ∧ (vs.drop 1).drop 1 = [] := h
    obtain ⟨a, e0⟩ := vt_str h0
    obtain ⟨b, e1⟩ := vt_str h1
    obtain ⟨r, rfl, d0⟩ := take1 e0
    rw [d0] at e1 h2
    obtain ⟨r1, rfl, d1⟩ := take1 e1
    rw [d1] at h2
    subst h2
    exact ⟨(a, b), rfl⟩
set_option maxRecDepth 100000 in
theorem vt_attrs {n : Nat} {vs : List V} (h : VT Try.prog n 23 vs) : ∃ l : List (List UInt8 × List UInt8), vs = [.sl 2 (l.map attrV)] := by
  cases n with
  | zero => exact h.elim
  | succ n =>
    obtain ⟨xs, e, _, hx⟩ : ∃ xs : List (List V), vs = [.sl 2 (xs.map (mkX Try.prog 67))] ∧ xs.length ≤ maxLen ∧ ∀ x ∈ xs, VT Try.prog n 67 x := h
    obtain ⟨l, hl⟩ := map_exists (f := mkX Try.prog 67) (g := attrV) (xs := xs) fun x hm => by
      obtain ⟨a, rfl⟩ := vt_attr (hx x hm)
      exact ⟨a, rfl⟩
    exact ⟨l, by rw [e, hl]⟩

set_option maxRecDepth 100000 in
theorem vt_node : ∀ (n : Nat) (vs : List V), VT Try.prog n 26 vs → ∃ t : Tree, vs = (nodeV t).cells := by
  intro n
  induction n using Nat.strongRecOn with
  | _ n ih =>
    intro vs h
    cases n with
    | zero => exact h.elim
    | succ n =>
      obtain ⟨h0, h1, h2, h3, h4, h5, h6⟩ : VT Try.prog n 22 (vs.take 1) ∧ VT Try.prog n 4 ((vs.drop 1).take 1) ∧ VT Try.prog n 9 (((vs.drop 1).drop 1).take 1) ∧ VT Try.prog n 23 ((((vs.drop 1).drop 1).drop 1).take 1) ∧
        VT Try.prog n 9 (((((vs.drop 1).drop 1).drop 1).drop 1).take 1) ∧ VT Try.prog n 24 ((((((vs.drop 1).drop 1).drop 1).drop 1).drop 1).take 1) ∧ (((((vs.drop 1).drop 1).drop 1).drop 1).drop 1).drop 1 = [] := h
      obtain ⟨i, e0⟩ := vt_u64 h0
      obtain ⟨l, e1⟩ := vt_bool h1
      obtain ⟨s, e2⟩ := vt_str h2
      obtain ⟨a, e3⟩ := vt_attrs h3
      obtain ⟨x, e4⟩ := vt_str h4
      obtain ⟨r, rfl, d0⟩ := take1 e0
      rw [d0] at e1 e2 e3 e4 h5 h6
      obtain ⟨r, rfl, d0⟩ := take1 e1
      rw [d0] at e2 e3 e4 h5 h6
      obtain ⟨r, rfl, d0⟩ := take1 e2
      rw [d0] at e3 e4 h5 h6
      obtain ⟨r, rfl, d0⟩ := take1 e3
      rw [d0] at e4 h5 h6
      obtain ⟨r, rfl, d0⟩ := take1 e4
      rw [d0] at h5 h6
      cases n with
      | zero => exact h5.elim
      | succ n =>
        obtain ⟨xs, e5, _, hx⟩ : ∃ xs : List (List V), r.take 1 = [.sl 6 (xs.map (mkX Try.prog 26))] ∧ xs.length ≤ maxLen ∧ ∀ x ∈ xs, VT Try.prog n 26 x := h5
        obtain ⟨ts, hts⟩ := map_exists (f := mkX Try.prog 26) (g := nodeV) (xs := xs) fun x hm => by
          obtain ⟨t, rfl⟩ := ih n (by omega) x (hx x hm)
          exact ⟨t, rfl⟩
        obtain ⟨r, rfl, d0⟩ := take1 e5
        rw [d0] at h6
        subst h6
        refine ⟨.mk i l s a x ts, ?_⟩
        rw [hts]
        simp only [nodeV, Tree.id, Tree.leaf, Tree.label, Tree.attrs, Tree.text, subV_eq, Tree.subs, V.cells]

theorem rep_of_cells {w : World} {vs : List V} {cs : Array Value} (h : RowRep w β0 [] vs cs.toList) : Rep w β0 [] (.agg vs) (.agg cs) :=
  .agg vs cs (by simpa using h.1) fun j c v hj hv => h.2 j c v hj (by simpa using hv)

set_option maxRecDepth 100000 in
/-- A node that is handed over. -/
theorem node_arg {H : Type} {enc : TypeId × Value → H} {w : World} {r : Reach} {base b0 : Nat} {sp : Nat → Bool} {held : Bool} {v : Value} {d : DataW H} {p : List MemPlace} (ho : Value.okWide Try.prog w r b0 26 v) (h : DataW.Trod enc Try.prog w base sp held 26 v d p) :
    ∃ t : Tree, Rep w β0 [] (nodeV t) v := by
  obtain ⟨fuel, hf⟩ := h
  obtain ⟨cs, rfl, _, _⟩ : ∃ cs, v = .agg cs ∧ cs.size = Try.prog.cellsOf 26 ∧ Row.okWide Try.prog w r b0 26 cs := ho
  obtain ⟨vs, h1, _, h3⟩ := read_data (G := [26, 24, 23, 67, 9, 22, 4]) (by kernel_rfl) fuel _ _ _ (by kernel_rfl) hf
  obtain ⟨t, rfl⟩ := vt_node _ _ h3
  exact ⟨t, rep_of_cells h1⟩
end Bow
/- TD2: operations that are read as data. -/
namespace Bow
open Go Go.Proofs

set_option maxRecDepth 100000 in
theorem vt_path {n : Nat} {vs : List V} (h : VT Try.prog n 37 vs) : ∃ l : List Int, vs = [pathV l] ∧ l.length ≤ maxLen ∧ ∀ i ∈ l, (Lit.int .i64 i).wf = true := by
  cases n with
  | zero => exact h.elim
  | succ n =>
    obtain ⟨xs, e, hl, hx⟩ : ∃ xs : List (List V), vs = [.sl 1 (xs.map (mkX Try.prog 3))] ∧ xs.length ≤ maxLen ∧ ∀ x ∈ xs, VT Try.prog n 3 x := h
    have key : ∀ xs : List (List V), (∀ x ∈ xs, VT Try.prog n 3 x) → ∃ l : List Int, xs.map (mkX Try.prog 3) = l.map intV ∧ ∀ i ∈ l, (Lit.int .i64 i).wf = true := by
      intro xs
      induction xs with
      | nil => intro _; exact ⟨[], rfl, by simp⟩
      | cons x xs ih =>
        intro hx
        obtain ⟨i, rfl, hw⟩ := vt_int (hx x List.mem_cons_self)
        obtain ⟨l, e, hl⟩ := ih fun z hz => hx z (List.mem_cons_of_mem _ hz)
        refine ⟨i :: l, by simp only [List.map_cons, e]; rfl, fun j hj => ?_⟩
        rcases List.mem_cons.1 hj with rfl | hj
        · exact hw
        · exact hl j hj
    obtain ⟨l, e1, e2⟩ := key xs hx
    refine ⟨l, by rw [e, e1]; rfl, ?_, e2⟩
    have := congrArg List.length e1
    simp at this
    omega
set_option maxRecDepth 100000 in
theorem vt_piece {n : Nat} {vs : List V} (h : VT Try.prog n 63 vs) : ∃ p, vs = (pieceV p).cells := by
  cases n with
  | zero => exact h.elim
  | succ n =>
    obtain ⟨h0, h1, h2, h3⟩ : VT Try.prog n 3 (vs.take 1) ∧ VT Try.prog n 3 ((vs.drop 1).take 1) ∧ VT Try.prog n 9 (((vs.drop 1).drop 1).take 1) ∧ ((vs.drop 1).drop 1).drop 1 = [] := h
    obtain ⟨a, e0, _⟩ := vt_int h0
    obtain ⟨b, e1, _⟩ := vt_int h1
    obtain ⟨s, e2⟩ := vt_str h2
    obtain ⟨r, rfl, d0⟩ := take1 e0
    rw [d0] at e1 e2 h3
    obtain ⟨r1, rfl, d1⟩ := take1 e1
    rw [d1] at e2 h3
    obtain ⟨r2, rfl, d2⟩ := take1 e2
    rw [d2] at h3
    subst h3
    exact ⟨⟨a, b, s⟩, rfl⟩
set_option maxRecDepth 100000 in
theorem vt_pieces {n : Nat} {vs : List V} (h : VT Try.prog n 38 vs) : ∃ l : List PieceT, vs = [piecesV l] := by
  cases n with
  | zero => exact h.elim
  | succ n =>
    obtain ⟨xs, e, _, hx⟩ : ∃ xs : List (List V), vs = [.sl 3 (xs.map (mkX Try.prog 63))] ∧ xs.length ≤ maxLen ∧ ∀ x ∈ xs, VT Try.prog n 63 x := h
    obtain ⟨l, hl⟩ := map_exists (f := mkX Try.prog 63) (g := pieceV) (xs := xs) fun x hm => by
      obtain ⟨a, rfl⟩ := vt_piece (hx x hm)
      exact ⟨a, rfl⟩
    exact ⟨l, by rw [e, hl]; rfl⟩

set_option maxRecDepth 100000 in
theorem vt_op {n : Nat} {vs : List V} (h : VT Try.prog n 40 vs) : ∃ o, vs = (opV o).cells := by
  cases n with
  | zero => exact h.elim
  | succ n =>
    obtain ⟨h0, h⟩ : VT Try.prog n 5 (vs.take 1) ∧ _ := h
    obtain ⟨a0, e0⟩ := vt_u8 h0
    obtain ⟨r, rfl, d0⟩ := take1 e0
    obtain ⟨h1, h⟩ : VT Try.prog n 37 (r.take 1) ∧ _ := h
    obtain ⟨a1, e1, _⟩ := vt_path h1
    obtain ⟨r, rfl, d0⟩ := take1 e1
    obtain ⟨h2, h⟩ : VT Try.prog n 3 (r.take 1) ∧ _ := h
    obtain ⟨a2, e2, _⟩ := vt_int h2
    obtain ⟨r, rfl, d0⟩ := take1 e2
    obtain ⟨h3, h⟩ : VT Try.prog n 37 (r.take 1) ∧ _ := h
    obtain ⟨a3, e3, _⟩ := vt_path h3
    obtain ⟨r, rfl, d0⟩ := take1 e3
    obtain ⟨h4, h⟩ : VT Try.prog n 22 (r.take 1) ∧ _ := h
    obtain ⟨a4, e4⟩ := vt_u64 h4
    obtain ⟨r, rfl, d0⟩ := take1 e4
    obtain ⟨h5, h⟩ : VT Try.prog n 4 (r.take 1) ∧ _ := h
    obtain ⟨a5, e5⟩ := vt_bool h5
    obtain ⟨r, rfl, d0⟩ := take1 e5
    obtain ⟨h6, h⟩ : VT Try.prog n 9 (r.take 1) ∧ _ := h
    obtain ⟨a6, e6⟩ := vt_str h6
    obtain ⟨r, rfl, d0⟩ := take1 e6
    obtain ⟨h7, h⟩ : VT Try.prog n 9 (r.take 1) ∧ _ := h
    obtain ⟨a7, e7⟩ := vt_str h7
    obtain ⟨r, rfl, d0⟩ := take1 e7
    obtain ⟨h8, h⟩ : VT Try.prog n 9 (r.take 1) ∧ _ := h
    obtain ⟨a8, e8⟩ := vt_str h8
    obtain ⟨r, rfl, d0⟩ := take1 e8
    obtain ⟨h9, h⟩ : VT Try.prog n 4 (r.take 1) ∧ _ := h
    obtain ⟨a9, e9⟩ := vt_bool h9
    obtain ⟨r, rfl, d0⟩ := take1 e9
    obtain ⟨h10, h⟩ : VT Try.prog n 38 (r.take 1) ∧ _ := h
    obtain ⟨a10, e10⟩ := vt_pieces h10
    obtain ⟨r, rfl, d0⟩ := take1 e10
    have h : r = [] := h
    subst h
    exact ⟨⟨a0, a1, a2, a3, a4, a5, a6, a7, a8, a9, a10⟩, rfl⟩
set_option maxRecDepth 100000 in
theorem vt_ops {n : Nat} {vs : List V} (h : VT Try.prog n 33 vs) : ∃ l : List OpT, vs = [.sl 11 (l.map opV)] ∧ l.length ≤ maxLen := by
  cases n with
  | zero => exact h.elim
  | succ n =>
    obtain ⟨xs, e, hl, hx⟩ : ∃ xs : List (List V), vs = [.sl 11 (xs.map (mkX Try.prog 40))] ∧ xs.length ≤ maxLen ∧ ∀ x ∈ xs, VT Try.prog n 40 x := h
    obtain ⟨l, e1⟩ := map_exists (f := mkX Try.prog 40) (g := opV) (xs := xs) fun x hm => by
      obtain ⟨a, rfl⟩ := vt_op (hx x hm)
      exact ⟨a, rfl⟩
    refine ⟨l, by rw [e, e1], ?_⟩
    have := congrArg List.length e1
    simp at this
    omega

set_option maxRecDepth 100000 in
/-- An operation that is handed over. -/
theorem op_arg {H : Type} {enc : TypeId × Value → H} {w : World} {r : Reach} {base b0 : Nat} {sp : Nat → Bool} {held : Bool} {v : Value} {d : DataW H} {p : List MemPlace} (ho : Value.okWide Try.prog w r b0 40 v) (h : DataW.Trod enc Try.prog w base sp held 40 v d p) :
    ∃ o : OpT, Rep w β0 [] (opV o) v := by
  obtain ⟨fuel, hf⟩ := h
  obtain ⟨cs, rfl, _, _⟩ : ∃ cs, v = .agg cs ∧ cs.size = Try.prog.cellsOf 40 ∧ Row.okWide Try.prog w r b0 40 cs := ho
  obtain ⟨vs, h1, _, h3⟩ := read_data (G := [40, 37, 38, 63, 3, 9, 22, 5, 4]) (by kernel_rfl) fuel _ _ _ (by kernel_rfl) hf
  obtain ⟨t, rfl⟩ := vt_op h3
  exact ⟨t, rep_of_cells h1⟩
set_option maxRecDepth 100000 in
/-- A list of operations that is handed over. -/
theorem ops_arg {H : Type} {enc : TypeId × Value → H} {w : World} {r : Reach} {base b0 : Nat} {sp : Nat → Bool} {held : Bool} {v : Value} {d : DataW H} {p : List MemPlace} (ho : Value.okWide Try.prog w r b0 33 v) (h : DataW.Trod enc Try.prog w base sp held 33 v d p) :
    ∃ l : List OpT, Rep w β0 [] (.sl 11 (l.map opV)) v ∧ l.length ≤ maxLen := by
  obtain ⟨a, len, cap, rfl⟩ := WideShapes.okWide_slice Try.underlying33 ho
  obtain ⟨fuel, hf⟩ := h
  obtain ⟨vs, h1, _, h3⟩ := read_data (G := [33, 40, 37, 38, 63, 3, 9, 22, 5, 4]) (by kernel_rfl) fuel _ _ _ (by kernel_rfl) hf
  obtain ⟨l, rfl, hl⟩ := vt_ops h3
  exact ⟨l, h1.2 0 _ _ rfl rfl, hl⟩
set_option maxRecDepth 100000 in
/-- A path that is handed over. -/
theorem path_arg {H : Type} {enc : TypeId × Value → H} {w : World} {r : Reach} {base b0 : Nat} {sp : Nat → Bool} {held : Bool} {v : Value} {d : DataW H} {p : List MemPlace} (ho : Value.okWide Try.prog w r b0 37 v) (h : DataW.Trod enc Try.prog w base sp held 37 v d p) :
    ∃ l : List Int, Rep w β0 [] (pathV l) v ∧ l.length ≤ maxLen ∧ ∀ i ∈ l, (Lit.int .i64 i).wf = true := by
  obtain ⟨a, len, cap, rfl⟩ := WideShapes.okWide_slice Try.underlying37 ho
  obtain ⟨fuel, hf⟩ := h
  obtain ⟨vs, h1, _, h3⟩ := read_data (G := [37, 3]) (by kernel_rfl) fuel _ _ _ (by kernel_rfl) hf
  obtain ⟨l, rfl, hl⟩ := vt_path h3
  exact ⟨l, h1.2 0 _ _ rfl rfl, hl⟩
end Bow
