/- The library, part 8: W72, AE47, W79, W28, W29, W30, W40, W41, W42, W43, SP18, W44, SP34, W86, W95, SP66, W99, W100, W101, W102, W103, W96, SP38, W97, W104, SP35, SP67, W105, W88, SP32, W73, W75, SP33, W80, W89, W91, W106, TD1, TD2. -/
import Derived.Test.YthaigpiepfdaeaaGreatMg
import Derived.Test.YthaigpiepfdaeaaGreatMe
import Derived.Test.YthaigpiepfdaeaaGreatMf
import Derived.Test.YthaigpiepfdaeaaGreatMd
import Derived.Test.YthaigpiepfdaeaaGreatRows
import Derived.ChangeShapes
/- W72: the document's Behind and Both (chapter 12); the law SquareBehind, walked. -/
namespace Bow
open Go Go.Proofs

theorem row_ok' {b a : OpT} {prior : Bool} (ha : a.Ok) (hb : b.Ok) (sa : soundO a = true) (sb : soundO b = true) (hto : a.to.length ≤ 1000 ∧ b.to.length ≤ 1000) : ∀ o ∈ rowO b a prior, o.Ok := by
  have fa : formedB a = true := by unfold soundO at sa; rw [Bool.and_eq_true] at sa; exact sa.1
  have fb : formedB b = true := by unfold soundO at sb; rw [Bool.and_eq_true] at sb; exact sb.1
  have pa := may_len (formed_path fa)
  have pb := may_len (formed_path fb)
  exact row_ok (prior := prior) ha hb (by omega) (by omega) hto.1 hto.2
/-- What behind hands to Behind. -/
def rowX (b a : OpT) (prior : Bool) : List OpT × Int := bif bothEdit b a then ([editO b a prior], (transP b.pieces a.pieces prior).2.2) else (rowO b a prior, 0)
theorem w_behind12X (b a : OpT) (prior : Bool) (ha : a.Ok) (hb : b.Ok) (sa : soundO a = true) (sb : soundO b = true) :
    Pure Tryz.prog 183 [opV b, opV a, .bool prior] (fun x => x = BehV (rowX b a prior)) := by
  unfold rowX
  cases he : bothEdit b a with
  | false => exact w_behind12 b a prior ha hb sa sb he
  | true => exact w_behind12E b a prior ha hb sa sb he
theorem rowX_len (b a : OpT) (prior : Bool) : (rowX b a prior).1.length ≤ 2 := by
  unfold rowX
  cases bothEdit b a with
  | false => exact row_len b a prior
  | true => exact Nat.le_succ _
theorem behX_rowX {b a : OpT} {prior : Bool} (sa : soundO a = true) (sb : soundO b = true) : behindX b a prior = bif !decide ((rowX b a prior).2 = 0) then ([], 3) else bif (rowX b a prior).1.all formedB then (bareL (rowX b a prior).1, 0) else ([], 3) := by
  unfold behindX rowX
  cases bothEdit b a with
  | false =>
    unfold behindO
    rw [sa, sb]
    rfl
  | true =>
    simp only [cond_true]
    unfold behindE
    rw [sa, sb]
    simp only [Bool.not_true, Bool.or_self, cond_false]
    cases decide ((transP b.pieces a.pieces prior).2.2 = 0) with
    | false => rfl
    | true =>
      simp only [Bool.true_and, Bool.not_true, cond_false, List.all_cons, List.all_nil, Bool.and_true]
      rfl
set_option pp.maxSteps 300 in
set_option maxHeartbeats 4000000 in
set_option maxRecDepth 100000 in
theorem w_refBehind (b a : OpT) (prior : Bool) (ha : a.Ok) (hb : b.Ok) (hto : a.to.length ≤ 1000 ∧ b.to.length ≤ 1000) :
    Pure Tryz.prog 143 [opV b, opV a, .bool prior] (fun x => x = BehV (behindX b a prior)) := by
  obtain ⟨R, hR⟩ : ∃ R, behindX b a prior = R := ⟨_, rfl⟩
  rw [hR]
  refine pure_wk (pure_fn 300 Tryz.func143 rfl rfl rfl fun B => ?_)
  show CallThen _ _ _ _ _ _
  refine call_pure (w_Sound12 a ha) rfl ?_
  rintro x rfl
  refine ⟨fun g1 => go 300 ?_, fun g1 => go 300 ?_⟩
  · have g1 : soundO a = false := by simpa using g1
    exact ⟨trivial, rfl, rfl, rfl, behZ' (by rw [← hR, behX_bad (by rw [g1]; rfl)])⟩
  have sa : soundO a = true := by simpa using g1
  show CallThen _ _ _ _ _ _
  refine call_pure (w_Sound12 b hb) rfl ?_
  rintro x rfl
  refine ⟨fun g2 => go 300 ?_, fun g2 => go 300 ?_⟩
  · have g2 : soundO b = false := by simpa using g2
    exact ⟨trivial, rfl, rfl, rfl, behZ' (by rw [← hR, behX_bad (by rw [g2]; simp)])⟩
  have sb : soundO b = true := by simpa using g2
  have hcall := w_behind12X b a prior ha hb sa sb
  have hlen := rowX_len b a prior
  rw [behX_rowX sa sb] at hR
  have hok : ∀ o ∈ (rowX b a prior).1, o.Lt 1000000 ∧ ∀ p ∈ o.pieces, p.put.length ≤ 1000000000 := by
    unfold rowX
    cases bothEdit b a with
    | false => intro o ho; have := row_ok' (prior := prior) ha hb sa sb hto o ho; exact ⟨this.lt, this.each⟩
    | true =>
      intro o ho
      simp only [cond_true, List.mem_singleton] at ho
      subst ho
      exact edit_lt hb
  obtain ⟨⟨l, e⟩, hl⟩ : ∃ r, rowX b a prior = r := ⟨_, rfl⟩
  rw [hl] at hcall hlen hok hR
  simp only at hlen hok hR
  show CallThen _ _ _ _ _ _
  refine call_pure hcall rfl ?_
  rintro x rfl
  refine ⟨fun g3 => go 300 ?_, fun g3 => go 300 ?_⟩
  · have g3 := ne_of' g3
    rw [decide_eq_false g3] at hR
    exact ⟨trivial, rfl, rfl, rfl, behZ' hR.symm⟩
  have g3 := eq_of' g3
  rw [decide_eq_true g3] at hR
  simp only [Bool.not_true, cond_false] at hR
  show Goes _ _ _ _
  refine goes_own 10 11 rfl ?_
  refine goes_iter (ι := Nat × Nat) (fun i => i.1 ≤ l.length ∧ (l.take i.1).all formedB = true) (fun i => l.length - i.1) (fun i => [(11, .int .i64 i.1), (10, .osl (.loc 2) i.2 0 i.1), (8, opsV l)]) (fun i => [some (.box (opV b).cells), some (.box (opV a).cells), some (.vec i.2 11 ((bareL (l.take i.1)).map opV))]) (0, 0) 300 (fun _ => rfl) (fun _ => rfl) ⟨⟨Nat.zero_le _, by simp⟩, ⟨⟨rfl, rfl⟩, ⟨rfl, rfl⟩, ⟨rfl, rfl⟩, trivial⟩, ⟨⟨rfl, rfl⟩, ⟨rfl, rfl⟩, ⟨rfl, rfl⟩, trivial⟩⟩ ?_
  rintro ⟨i, g⟩ ⟨k1, k2⟩ next
  simp only at k1 k2
  have hbl : (bareL (l.take i)).length = i := by simp [bareL]; omega
  refine ⟨fun hlt => go 300 ?_, fun hge => go 300 ?_⟩
  · have hi : i < l.length := by simpa using hlt
    obtain ⟨h1, h2⟩ := hok _ (List.getElem_mem hi)
    refine ⟨Int.natCast_nonneg i, _, op_at hi, ?_⟩
    show CallThen _ _ _ _ _ _
    refine call_pure (w_refFormed l[i] h1 h2) rfl ?_
    rintro x rfl
    refine ⟨fun g4 => go 300 ?_, fun g4 => go 300 ?_⟩
    · have g4 : formedB l[i] = false := by simpa using g4
      have e : l.all formedB = false := List.all_eq_false.2 ⟨l[i], List.getElem_mem hi, by simpa using g4⟩
      rw [e] at hR
      exact ⟨trivial, rfl, rfl, rfl, behZ' hR.symm⟩
    have g4 : formedB l[i] = true := by simpa using g4
    refine ⟨Int.natCast_nonneg i, _, op_at hi, ?_⟩
    show CallThen _ _ _ _ _ _
    refine call_pure (w_refBare l[i] h1) rfl ?_
    rintro x rfl
    refine ⟨⟨rfl, trivial⟩, rfl, rfl, rfl, (by rw [List.length_map]; exact hbl.symm), Nat.le_trans (Nat.mul_le_mul_right _ (show _ ≤ 1000001 by rw [List.length_map, hbl]; simp only [List.length_cons, List.length_nil]; omega)) (by decide), ?_⟩
    refine ⟨by constructor <;> omega, ?_⟩
    show Goes _ _ _ _
    have e : (bareL (l.take (i + 1))).map opV = (bareL (l.take i)).map opV ++ [opV (bareO l[i])] := by
      rw [List.take_succ_eq_append_getElem hi]
      simp only [bareL, List.map_append, List.map_cons, List.map_nil]
    refine next (i + 1, bump g) _ _ ⟨⟨hi, ?_⟩, by simp only; omega, ⟨⟨rfl, rfl⟩, ⟨?_, rfl⟩, ⟨rfl, rfl⟩, trivial⟩, ⟨⟨rfl, rfl⟩, ⟨rfl, rfl⟩, ⟨?_, rfl⟩, trivial⟩⟩
    · simp only
      rw [List.take_succ_eq_append_getElem hi, List.all_append, k2]
      simp [g4]
    · simp only [lk]
      exact congrArg (V.osl _ _ _) (by rw [List.length_map, hbl]; rfl)
    · exact congrArg (fun z => some (HObj.vec (bump g) 11 z)) e.symm
  · have hi : i = l.length := by have : l.length ≤ i := by simpa using hge
                                 omega
    subst hi
    rw [List.take_length] at k2
    rw [k2] at hR
    refine ⟨trivial, rfl, rfl, rfl, by simp [bareL], rfl, BehV R, ?_, rfl, rfl⟩
    rw [← hR]
    show Wk (.tup [.sl 11 ((bareL (l.take l.length)).map opV), .int .i64 0]) _
    rw [List.take_length]
    exact .refl _
set_option maxRecDepth 100000 in
theorem w_refBoth (a b : OpT) (prior : Bool) (ha : a.Ok) (hb : b.Ok) (hto : a.to.length ≤ 1000 ∧ b.to.length ≤ 1000) :
    Pure Tryz.prog 97 [opV a, opV b, .bool prior] (fun x => x = BothV (bothX a b prior)) := by
  refine pure_wk (pure_fn 300 Tryz.func97 rfl rfl rfl fun B => ?_)
  show CallThen _ _ _ _ _ _
  refine call_pure (w_refBehind a b prior hb ha ⟨hto.2, hto.1⟩) rfl ?_
  rintro x rfl
  show CallThen _ _ _ _ _ _
  refine call_pure (w_refBehind b a (!prior) ha hb hto) rfl ?_
  rintro x rfl
  refine ⟨fun g1 => go 300 ?_, fun g1 => go 300 ?_⟩
  · have g1 : (behindX a b prior).2 ≠ 0 := ne_of' g1
    have e : bothX a b prior = ([], [], (behindX a b prior).2) := by unfold bothX; rw [decide_eq_false g1]; rfl
    rw [e]
    exact ⟨trivial, rfl, rfl, rfl, bothZ _⟩
  have g1 : (behindX a b prior).2 = 0 := eq_of' g1
  refine ⟨fun g2 => go 300 ?_, fun g2 => go 300 ?_⟩
  · have g2 : (behindX b a (!prior)).2 ≠ 0 := ne_of' g2
    have e : bothX a b prior = ([], [], (behindX b a (!prior)).2) := by unfold bothX; rw [decide_eq_true g1, decide_eq_false g2]; rfl
    rw [e]
    exact ⟨trivial, rfl, rfl, rfl, bothZ _⟩
  have g2 : (behindX b a (!prior)).2 = 0 := eq_of' g2
  have e : bothX a b prior = ((behindX a b prior).1, (behindX b a (!prior)).1, 0) := by unfold bothX; rw [decide_eq_true g1, decide_eq_true g2]; rfl
  rw [e]
  exact ⟨trivial, rfl, rfl, rfl, BothV _, Wk.refl _, rfl, rfl⟩
end Bow
/- AE47: a function whose named memory nobody looks at any more. -/
namespace Bow
open Go

end Bow
/- W79: the law SquareBoth, walked. -/
namespace Bow
open Go Go.Proofs

end Bow
/- W28: the chapter's examples. -/
namespace Bow
open Go Go.Proofs

end Bow
/- W29: the chapter's examples, all. -/
namespace Bow
open Go Go.Proofs

end Bow
/- W30: the laws' functions: TreeopsFormed, TreeopsValid. -/
namespace Bow
open Go Go.Proofs

end Bow
/- W40: the law's function TreeopsApply. -/
namespace Bow
open Go Go.Proofs

end Bow
/- W41: the program's IDs; count. -/
namespace Bow
open Go Go.Proofs

end Bow
/- W42: the law's function TreeopsRight. -/
namespace Bow
open Go Go.Proofs

end Bow
/- W43: the law's function TreeopsAll. -/
namespace Bow
open Go Go.Proofs

end Bow
/- SP18: the paths of a tree's nodes; a move to a gap beside itself; in plain Lean. -/
namespace Bow
open Go

mutual
def pathsT : Tree → List (List Int)
  | .mk _ _ _ _ _ ss => [] :: pathsTs 0 ss
def pathsTs : Nat → List Tree → List (List Int)
  | _, [] => []
  | i, s :: ss => (pathsT s).map (fun p => (i : Int) :: p) ++ pathsTs (i + 1) ss
end
theorem pathsT_eq (t : Tree) : pathsT t = [] :: pathsTs 0 t.subs := by cases t; rw [pathsT]; rfl
mutual
theorem pathsT_len : ∀ t : Tree, (pathsT t).length = t.size
  | .mk i l a b c ss => by rw [pathsT, Tree.size, List.length_cons, pathsTs_len 0 ss]; omega
theorem pathsTs_len : ∀ (i : Nat) (ss : List Tree), (pathsTs i ss).length = sizes ss
  | _, [] => by rw [pathsTs]; rfl
  | i, s :: ss => by rw [pathsTs, sizes, List.length_append, List.length_map, pathsT_len s, pathsTs_len (i + 1) ss]
end
theorem mem_pathsTs {q : List Int} : ∀ {ss : List Tree} {i : Nat}, q ∈ pathsTs i ss → ∃ (k : Nat) (s : Tree) (p : List Int), ss[k]? = some s ∧ q = ((i + k : Nat) : Int) :: p ∧ p ∈ pathsT s
  | [], i, h => by rw [pathsTs] at h; cases h
  | s :: ss, i, h => by
    rw [pathsTs] at h
    rcases List.mem_append.1 h with h | h
    · obtain ⟨p, hp, rfl⟩ := List.mem_map.1 h
      exact ⟨0, s, p, rfl, rfl, hp⟩
    · obtain ⟨k, s', p, h1, h2, h3⟩ := mem_pathsTs h
      exact ⟨k + 1, s', p, h1, by rw [h2]; congr 2; omega, h3⟩
theorem paths_deep {t : Tree} : ∀ {p : List Int}, p ∈ pathsT t → p.length < t.size := by
  induction t using Tree.ind with
  | _ t ih =>
  intro p h
  have hs : 0 < t.size := by cases t; rw [Tree.size]; omega
  rw [pathsT_eq] at h
  rcases List.mem_cons.1 h with rfl | h
  · exact hs
  · obtain ⟨k, s, q, h1, rfl, h3⟩ := mem_pathsTs h
    have hm := List.mem_of_getElem? h1
    have := ih s hm h3
    have := Tree.size_sub hm
    simp only [List.length_cons]
    omega
theorem pathsTs_drop : ∀ {ss : List Tree} {i k : Nat} (h : k < ss.length), pathsTs (i + k) (ss.drop k) = (pathsT ss[k]).map (fun p => ((i + k : Nat) : Int) :: p) ++ pathsTs (i + (k + 1)) (ss.drop (k + 1)) := by
  intro ss i k h
  rw [List.drop_eq_getElem_cons h, pathsTs]
  rfl

end Bow
/- W44: the paths of all nodes. -/
namespace Bow
open Go Go.Proofs

def pathsV (l : List (List Int)) : V := .sl 1 (l.map pathV)
theorem okE_path (p : List Int) : okE 1 (pathV p) := ⟨rfl, rfl⟩
theorem wkE_paths : ∀ l : List (List Int), WkE 1 (l.map pathV) (l.map pathV)
  | [] => trivial
  | p :: l => ⟨⟨⟨.refl _, trivial⟩, okE_path p⟩, wkE_paths l⟩

set_option maxHeartbeats 1000000 in
set_option maxRecDepth 100000 in
theorem w_Paths (t : Tree) : t.weight ≤ 100000 → Pure Tryz.prog 10 [nodeV t] (fun x => x = pathsV (pathsT t)) := by
  induction t using Tree.ind with
  | _ t ih =>
  intro ht
  have hsl := subs_le_weight t
  have hsz := size_le_weight t
  have hpl := pathsT_len t
  refine pure_wk (pure_fn 300 Tryz.func10 rfl rfl rfl fun B => ?_)
  refine ⟨⟨rfl, trivial⟩, ?_⟩
  show Goes _ _ _ _
  refine goes_iter (ι := Nat × Nat × Nat × List V) (fun i => i.1 ≤ t.subs.length ∧ ∃ acc : List (List Int), i.2.2.2 = .nilsl :: acc.map pathV ∧ i.2.2.1 = acc.length + 1 ∧ acc ++ pathsTs i.1 (t.subs.drop i.1) = pathsTs 0 t.subs) (fun i => t.subs.length - i.1)
    (fun i => [(4, .int .i64 i.1), (3, .osl (.loc 1) i.2.1 0 i.2.2.1), (1, .ptr (.loc 0) 0)]) (fun i => [some (.box (nodeV t).cells), some (.vec i.2.1 1 i.2.2.2)]) (0, 0, 1, [.nilsl]) 300 (fun _ => rfl) (fun _ => rfl) ⟨⟨Nat.zero_le _, [], rfl, rfl, rfl⟩, ⟨⟨rfl, rfl⟩, ⟨rfl, rfl⟩, ⟨rfl, rfl⟩, trivial⟩, ⟨⟨rfl, rfl⟩, ⟨rfl, rfl⟩, trivial⟩⟩ ?_
  rintro ⟨i, g, n, xs⟩ ⟨k1, acc, rfl, rfl, k2⟩ next
  simp only at k1 k2
  refine ⟨fun hlt => go 300 ?_, fun hge => go 300 ?_⟩
  · have hi : i < t.subs.length := by simpa [subV_eq] using hlt
    have hx : t.subV[i]? = some (nodeV t.subs[i]) := by simp [subV_eq, hi]
    have hws := weight_sub (List.getElem_mem hi)
    have hsw := size_le_weight t.subs[i]
    have hd := pathsTs_drop (ss := t.subs) (i := 0) hi
    simp only [Nat.zero_add] at hd
    rw [hd] at k2
    have hlen := congrArg List.length k2
    simp only [List.length_append, List.length_map] at hlen
    have hpl' := pathsTs_len 0 t.subs
    have hts := pathsT_eq t
    have hpi := pathsT_len t.subs[i]
    have hle : (pathsTs 0 t.subs).length ≤ 100000 := by
      rw [hts] at hpl
      simp at hpl
      omega
    refine ⟨Int.natCast_nonneg i, _, hx, ?_⟩
    show CallThen _ _ _ _ _ _
    refine call_pure (ih _ (List.getElem_mem hi) (by omega)) rfl ?_
    rintro x rfl
    show Goes _ _ _ _
    refine goes_while (ι := Nat × Nat × Nat × List V) (κ := Nat × Nat × List V) (fun k => k.1 ≤ (pathsT t.subs[i]).length ∧ ∃ acc' : List (List Int), k.2.2.2 = .nilsl :: acc'.map pathV ∧ k.2.2.1 = acc'.length + 1 ∧ acc' ++ (((pathsT t.subs[i]).drop k.1).map (fun p => (i : Int) :: p) ++ pathsTs (i + 1) (t.subs.drop (i + 1))) = pathsTs 0 t.subs) (fun k => (pathsT t.subs[i]).length - k.1)
      (fun k => [(6, .int .i64 k.1), (5, pathsV (pathsT t.subs[i])), (4, .int .i64 i), (3, .osl (.loc 1) k.2.1 0 k.2.2.1), (1, .ptr (.loc 0) 0)]) (fun k => [some (.box (nodeV t).cells), some (.vec k.2.1 1 k.2.2.2)]) (0, g, acc.length + 1, .nilsl :: acc.map pathV)
      (fun k => ∃ acc' : List (List Int), k.2.2 = .nilsl :: acc'.map pathV ∧ k.2.1 = acc'.length + 1 ∧ acc' ++ pathsTs (i + 1) (t.subs.drop (i + 1)) = pathsTs 0 t.subs)
      (fun k => [(4, .int .i64 i), (3, .osl (.loc 1) k.1 0 k.2.1), (1, .ptr (.loc 0) 0)]) (fun k => [some (.box (nodeV t).cells), some (.vec k.1 1 k.2.2)]) 300 (fun _ => rfl) (fun _ => rfl) (fun _ => rfl) (fun _ => rfl)
      ⟨⟨Nat.zero_le _, acc, rfl, rfl, k2⟩, ⟨⟨rfl, rfl⟩, ⟨rfl, rfl⟩, ⟨rfl, rfl⟩, ⟨rfl, rfl⟩, ⟨rfl, rfl⟩, trivial⟩, ⟨⟨rfl, rfl⟩, ⟨rfl, rfl⟩, trivial⟩⟩ ?_ ?_
    · rintro ⟨g', n', xs'⟩ ⟨acc', rfl, rfl, q⟩
      refine ⟨by constructor <;> omega, ?_⟩
      show Goes _ _ _ _
      exact next (i + 1, g', _, _) _ _ ⟨⟨hi, acc', rfl, rfl, q⟩, by simp only; omega, ⟨⟨rfl, rfl⟩, ⟨rfl, rfl⟩, ⟨rfl, rfl⟩, trivial⟩, ⟨⟨rfl, rfl⟩, ⟨rfl, rfl⟩, trivial⟩⟩
    · rintro ⟨k, g', n', xs'⟩ ⟨j1, acc', rfl, rfl, j2⟩ next2 post
      simp only at j1 j2
      refine ⟨fun hlt => go 300 ?_, fun hge => go 300 ?_⟩
      · have hk : k < (pathsT t.subs[i]).length := by simpa using hlt
        have hy : ((pathsT t.subs[i]).map pathV)[k]? = some (pathV (pathsT t.subs[i])[k]) := by simp [hk]
        have hdp := paths_deep (List.getElem_mem hk)
        rw [List.drop_eq_getElem_cons hk] at j2
        have hlen2 := congrArg List.length j2
        simp only [List.length_append, List.length_map, List.length_cons] at hlen2
        refine ⟨⟨rfl, trivial⟩, ?_⟩
        refine ⟨Int.natCast_nonneg k, _, hy, ?_⟩
        refine ⟨rfl, rfl, room_of (by simp; omega) (by decide), ?_⟩
        refine ⟨rfl, by simp; omega, ⟨rfl, trivial⟩, rfl, rfl, rfl, by simp, room_of (by simp; omega) (by decide), ?_⟩
        refine ⟨by constructor <;> omega, ?_⟩
        show Goes _ _ _ _
        refine next2 (k + 1, bump g', _, _) _ _ ⟨⟨hk, acc' ++ [(i : Int) :: (pathsT t.subs[i])[k]], ?_, ?_, ?_⟩, ?_, ⟨⟨rfl, rfl⟩, ⟨rfl, rfl⟩, ⟨rfl, rfl⟩, ⟨rfl, rfl⟩, ⟨rfl, rfl⟩, trivial⟩, ⟨⟨rfl, rfl⟩, ⟨rfl, rfl⟩, trivial⟩⟩
        · simp [pathV, intV]
          rfl
        · simp
        · rw [List.map_cons] at j2
          rw [← j2]
          simp only [List.append_assoc, List.cons_append, List.nil_append]
        · simp only; omega
      · have hk : k = (pathsT t.subs[i]).length := by have : (pathsT t.subs[i]).length ≤ k := by simpa using hge
                                                      omega
        subst hk
        rw [List.drop_length] at j2
        exact post (g', _, _) _ _ _ rfl ⟨⟨acc', rfl, rfl, j2⟩, ⟨⟨rfl, rfl⟩, ⟨rfl, rfl⟩, ⟨rfl, rfl⟩, trivial⟩, ⟨⟨rfl, rfl⟩, ⟨rfl, rfl⟩, trivial⟩⟩
  · have hi : t.subs.length ≤ i := by simpa [subV_eq] using hge
    rw [List.drop_eq_nil_of_le hi, pathsTs, List.append_nil] at k2
    subst k2
    refine ⟨trivial, rfl, rfl, rfl, by simp, rfl, pathsV (pathsT t), ?_, rfl, rfl⟩
    rw [pathsT_eq]
    exact Wk.sl ⟨⟨⟨Wk.nil 1, trivial⟩, okE_path []⟩, wkE_paths _⟩
end Bow
/- SP34: the grove, and all pairs of operations of all kinds on it: both ways round end in the same tree; computed in plain Lean. -/
namespace Bow
open Go

def groveT : Tree := .mk 1 false [114] [] [] [
  .mk 2 false [97] [([107], [49])] [] [.mk 3 true [120] [] [104, 105] [], .mk 4 false [99] [] [] []],
  .mk 5 true [98] [] [98, 101, 101] [],
  .mk 6 false [100] [] [] [.mk 7 false [101] [] [] [.mk 8 false [102] [] [] []]]]
def headO (p : List Int) : List OpT := [{ noOp 2 with path := p }, { noOp 5 with path := p, label := [113] }, { noOp 4 with path := p, key := [107], value := [57] }, { noOp 4 with path := p, key := [107], gone := true }, { noOp 6 with path := p, pieces := [⟨1, 1, [33]⟩] }]
def putO (i : Nat) (p : List Int) (k : Nat) : OpT := { noOp 1 with path := p, at_ := k, id := IntKind.u64.wrap (100 + 10 * (i : Int) + (k : Int)), label := [110] }
def movO (p : List Int) (k : Nat) (q : List Int) : OpT := { noOp 3 with path := q, to := p, at_ := k }
/-- .. at the gaps below n. -/
def gapsO (ps : List (List Int)) (i : Nat) (p : List Int) : Nat → List OpT
  | 0 => []
  | n + 1 => gapsO ps i p n ++ (putO i p n :: ps.map (movO p n))
def manyO (ps : List (List Int)) (top : Nat) : Nat → List OpT
  | 0 => []
  | i + 1 => manyO ps top i ++ (headO (ps.getD i []) ++ gapsO ps i (ps.getD i []) (top + 1))

def smallO (o : OpT) : Bool := decide (o.path.length ≤ 100) && (decide (o.to.length ≤ 100) && (decide (o.label.length ≤ 100) && (decide (o.key.length ≤ 100) && (decide (o.value.length ≤ 100) && (decide (o.pieces.length ≤ 100) && decide (putsLen o.pieces ≤ 1000))))))
end Bow
/- W86: bowerkit's Grove and Many; bowerlaw12.closes. -/
namespace Bow
open Go Go.Proofs

theorem wkE_app {sz : Nat} : ∀ {xs ys us vs : List V}, WkE sz xs ys → WkE sz us vs → WkE sz (xs ++ us) (ys ++ vs)
  | [], [], _, _, _, h => h
  | _ :: _, _ :: _, _, _, h, k => ⟨h.1, wkE_app h.2 k⟩
  | [], _ :: _, _, _, h, _ => h.elim
  | _ :: _, [], _, _, h, _ => h.elim
theorem wkL_mk {b : Bool} {i : Int} {label text : List UInt8} {ats ks leaf : V} {al : List (List UInt8 × List UInt8)} {ss : List Tree} (hl : Wk leaf (.bool b)) (ha : Wk ats (.sl 2 (al.map attrV))) (hk : Wk ks (.sl 6 (ss.map nodeV))) :
    WkL [.int .u64 i, leaf, .str label, ats, .str text, ks] (nodeV (.mk i b label al text ss)).cells := by
  refine ⟨.refl _, hl, .refl _, ha, .refl _, ?_, trivial⟩
  rw [subV_eq]
  exact hk
theorem wk_grove : Wk (.agg [.int .u64 1, .ff, .str [114], .nilsl, .str [], .sl 6 [
    .agg [.int .u64 2, .ff, .str [97], .sl 2 [.agg [.str [107], .str [49]]], .str [], .sl 6 [.agg [.int .u64 3, .tt, .str [120], .nilsl, .str [104, 105], .nilsl], .agg [.int .u64 4, .ff, .str [99], .nilsl, .str [], .nilsl]]],
    .agg [.int .u64 5, .tt, .str [98], .nilsl, .str [98, 101, 101], .nilsl],
    .agg [.int .u64 6, .ff, .str [100], .nilsl, .str [], .sl 6 [.agg [.int .u64 7, .ff, .str [101], .nilsl, .str [], .sl 6 [.agg [.int .u64 8, .ff, .str [102], .nilsl, .str [], .nilsl]]]]]]]) (nodeV groveT) := by
  refine Wk.agg (wkL_mk Wk.ff (Wk.nil 2) (Wk.sl ⟨⟨?_, okE_node _⟩, ⟨?_, okE_node _⟩, ⟨?_, okE_node _⟩, trivial⟩))
  · exact wkL_mk Wk.ff (.refl _) (Wk.sl ⟨⟨wkL_mk Wk.tt (Wk.nil 2) (Wk.nil 6), okE_node _⟩, ⟨wkL_mk Wk.ff (Wk.nil 2) (Wk.nil 6), okE_node _⟩, trivial⟩)
  · exact wkL_mk Wk.tt (Wk.nil 2) (Wk.nil 6)
  · exact wkL_mk Wk.ff (Wk.nil 2) (Wk.sl ⟨⟨wkL_mk Wk.ff (Wk.nil 2) (Wk.sl ⟨⟨wkL_mk Wk.ff (Wk.nil 2) (Wk.nil 6), okE_node _⟩, trivial⟩), okE_node _⟩, trivial⟩)

set_option maxRecDepth 100000 in
theorem w_Grove : Pure Tryz.prog 9 [] (fun x => x = nodeV groveT) := by
  refine pure_wk (pure_fn 60 Tryz.func9 rfl rfl rfl fun B => ?_)
  refine ⟨⟨rfl, trivial⟩, ⟨rfl, rfl, trivial⟩, ⟨rfl, trivial⟩, rfl, rfl, ⟨rfl, trivial⟩, rfl, rfl, rfl, rfl, rfl, rfl, ⟨rfl, rfl, rfl, trivial⟩, ?_⟩
  exact ⟨trivial, rfl, rfl, rfl, rfl, rfl, nodeV groveT, wk_grove, rfl, rfl⟩

theorem gaps_len (ps : List (List Int)) (i : Nat) (p : List Int) : ∀ n, (gapsO ps i p n).length = n * (1 + ps.length)
  | 0 => by simp [gapsO]
  | n + 1 => by
    rw [gapsO, List.length_append, gaps_len ps i p n]
    simp only [List.length_cons, List.length_map, Nat.add_mul]
    omega
theorem many_len (ps : List (List Int)) (top : Nat) : ∀ i, (manyO ps top i).length = i * (5 + (top + 1) * (1 + ps.length))
  | 0 => by simp [manyO]
  | i + 1 => by
    rw [manyO, List.length_append, many_len ps top i, List.length_append, gaps_len, Nat.add_mul i 1]
    simp [headO]
theorem wkO {k at_ id : Int} {p : List Int} {t l e s : V} {to : List Int} {label key value : List UInt8} {leaf gone : Bool} {pc : List PieceT} (ht : Wk t (pathV to)) (hl : Wk l (.bool leaf)) (he : Wk e (.bool gone)) (hs : Wk s (piecesV pc)) :
    WkE 11 [.agg [.int .u8 k, pathV p, .int .i64 at_, t, .int .u64 id, l, .str label, .str key, .str value, e, s]] ([⟨k, p, at_, to, id, leaf, label, key, value, gone, pc⟩].map opV) :=
  ⟨⟨⟨.refl _, .refl _, .refl _, ht, .refl _, hl, .refl _, .refl _, .refl _, he, hs, trivial⟩, rfl, rfl⟩, trivial⟩
theorem wk_head (p : List Int) : WkE 11 [.agg [.int .u8 2, pathV p, .int .i64 0, .nilsl, .int .u64 0, .ff, .str [], .str [], .str [], .ff, .nilsl], .agg [.int .u8 5, pathV p, .int .i64 0, .nilsl, .int .u64 0, .ff, .str [113], .str [], .str [], .ff, .nilsl],
    .agg [.int .u8 4, pathV p, .int .i64 0, .nilsl, .int .u64 0, .ff, .str [], .str [107], .str [57], .ff, .nilsl], .agg [.int .u8 4, pathV p, .int .i64 0, .nilsl, .int .u64 0, .ff, .str [], .str [107], .str [], .tt, .nilsl],
    .agg [.int .u8 6, pathV p, .int .i64 0, .nilsl, .int .u64 0, .ff, .str [], .str [], .str [], .ff, .sl 3 [.agg [.int .i64 1, .int .i64 1, .str [33]]]]] ((headO p).map opV) :=
  wkE_app (wkO (Wk.nil 1) Wk.ff Wk.ff (Wk.nil 3)) (wkE_app (wkO (Wk.nil 1) Wk.ff Wk.ff (Wk.nil 3)) (wkE_app (wkO (Wk.nil 1) Wk.ff Wk.ff (Wk.nil 3)) (wkE_app (wkO (Wk.nil 1) Wk.ff Wk.tt (Wk.nil 3)) (wkO (Wk.nil 1) Wk.ff Wk.ff (.refl _)))))
theorem room_of2 {n m b : Nat} (h : n + m ≤ 1000000) (hb : b ≤ 10000) : room (n + m) b := Nat.le_trans (Nat.mul_le_mul h hb) (by decide)

theorem many_osl {g : Nat} {xs ys : List V} : V.osl (.loc 0) g 0 (xs.length + ys.length) = V.osl (.loc 0) g 0 (xs ++ ys).length := by rw [List.length_append]
theorem small_ok {o : OpT} (h : smallO o = true) : o.Ok := by
  unfold smallO at h
  simp only [Bool.and_eq_true, decide_eq_true_eq] at h
  obtain ⟨h1, h2, h3, h4, h5, h6, h7⟩ := h
  exact ⟨⟨by omega, by omega, by omega, by omega, by omega, by omega⟩, by omega⟩
theorem small_to {o : OpT} (h : smallO o = true) : o.to.length ≤ 100 := by
  unfold smallO at h
  simp only [Bool.and_eq_true, decide_eq_true_eq] at h
  exact h.2.1
theorem ok_all {l : List OpT} (h : l.all smallO = true) : ∀ o ∈ l, o.Ok := fun o ho => small_ok (List.all_eq_true.1 h o ho)

end Bow
/- W95: effects.Corner; what stands of deletes and labels; the chapter's examples; the law EffectsFind. -/
namespace Bow
open Go Go.Proofs

def cornerV (r : Tree × Int) : V := .tup [nodeV r.1, .int .i64 r.2]
set_option maxHeartbeats 4000000 in
set_option maxRecDepth 100000 in
theorem w_Corner (t : Tree) (a b : OpT) (prior : Bool) (ht : t.weight ≤ 100000) (ha : a.Ok) (hb : b.Ok) (hto : a.to.length ≤ 1000 ∧ b.to.length ≤ 1000) (hc : (applyR t a).1.weight + costs (bothX a b prior).2.1 ≤ 400000) (hl : (bothX a b prior).2.1.length ≤ 1000000) (hok : ∀ o ∈ (bothX a b prior).2.1, o.Ok) :
    Pure Tryz.prog 38 [nodeV t, opV a, opV b, .bool prior] (fun x => x = cornerV (cornerT t a b prior)) := by
  have c1 := w_Apply t a (by omega) ha
  have c2 := w_Valid t b (by omega) hb
  have c3 := w_BothX a b prior ha hb hto
  have c4 := w_ApplyAll (applyR t a).1 (bothX a b prior).2.1 hc hl hok
  unfold cornerT
  generalize applyR t a = m at c1 c4 hc
  generalize bothX a b prior = r at c3 c4 hc hl hok
  generalize ValidE t b = v at c2
  obtain ⟨m1, m2⟩ := m
  obtain ⟨r1, r2, r3⟩ := r
  simp only at c4
  obtain ⟨u, hu⟩ : ∃ u, AllR m1 r2 = u := ⟨_, rfl⟩
  rw [hu] at c4
  obtain ⟨u1, u2, u3⟩ := u
  clear hc hl hok
  simp only
  refine pure_wk (pure_fn 60 Tryz.func38 rfl rfl rfl fun B => ?_)
  show CallThen _ _ _ _ _ _
  refine call_pure c1 rfl ?_
  rintro z rfl
  refine ⟨fun q => go 60 ?_, fun q => go 60 ?_⟩
  · have q : m2 = 0 := of_decide_eq_true q
    rw [if_neg (show ¬ m2 ≠ 0 from fun h => h q)]
    show CallThen _ _ _ _ _ _
    refine call_pure c2 rfl ?_
    rintro z rfl
    refine ⟨fun q1 => go 60 ?_, fun q1 => go 60 ?_⟩
    · have q1 : v ≠ 0 := ne_of' q1
      rw [if_pos q1]
      refine ⟨trivial, rfl, rfl, rfl, cornerV (zeroT0, v), ?_, rfl, rfl⟩
      exact Wk.tup ⟨wk_zeroC, .refl _, trivial⟩
    have q1 : v = 0 := eq_of' q1
    rw [if_neg (show ¬ v ≠ 0 from fun h => h q1)]
    show CallThen _ _ _ _ _ _
    refine call_pure c3 rfl ?_
    rintro z rfl
    refine ⟨fun q2 => go 60 ?_, fun q2 => go 60 ?_⟩
    · have q2 : r3 ≠ 0 := ne_of' q2
      rw [if_pos q2]
      refine ⟨trivial, rfl, rfl, rfl, cornerV (zeroT0, r3), ?_, rfl, rfl⟩
      exact Wk.tup ⟨wk_zeroC, .refl _, trivial⟩
    have q2 : r3 = 0 := eq_of' q2
    rw [if_neg (show ¬ r3 ≠ 0 from fun h => h q2)]
    show CallThen _ _ _ _ _ _
    refine call_pure c4 rfl ?_
    rintro z rfl
    exact ⟨trivial, rfl, rfl, rfl, cornerV (u1, u3), .refl _, rfl, by rw [hu]⟩
  · have q : m2 ≠ 0 := of_decide_eq_false q
    rw [if_pos q]
    refine ⟨fun _ => go 60 ?_, fun q1 => absurd (eq_of' q1) q⟩
    refine ⟨trivial, rfl, rfl, rfl, cornerV (zeroT0, m2), ?_, rfl, rfl⟩
    exact Wk.tup ⟨wk_zeroC, .refl _, trivial⟩

set_option maxRecDepth 100000 in
theorem w_cut (b : Bes) (q : List Int) (hp : b.p.path.length ≤ 1000000) : Pure Tryz.prog 209 [besV b, pathV q] (fun x => x = .bool (cutB b.p q)) := by
  have c1 := w_pathWithin b.p.path q hp
  refine pure_wk (pure_fn 60 Tryz.func209 rfl rfl rfl fun B => ?_)
  refine ⟨fun g => go 60 ?_, fun g => go 60 ?_⟩
  · show CallThen _ _ _ _ _ _
    refine call_pure c1 rfl ?_
    rintro z rfl
    refine ⟨trivial, rfl, rfl, rfl, leaf_b ?_⟩
    unfold cutB
    rw [g]
    rfl
  · refine ⟨trivial, rfl, rfl, rfl, leaf_ff ?_⟩
    unfold cutB
    rw [g]
    rfl
set_option maxRecDepth 100000 in
theorem w_lost (b : Bes) (hp : b.p.path.length ≤ 1000000) : Pure Tryz.prog 210 [besV b] (fun x => x = .bool (lostB b)) := by
  have c1 := w_pathSame b.p.path b.o.path hp
  refine pure_wk (pure_fn 60 Tryz.func210 rfl rfl rfl fun B => ?_)
  refine ⟨fun g => go 60 ?_, fun g => go 60 ?_⟩
  · refine ⟨fun g2 => go 60 ?_, fun g2 => go 60 ?_⟩
    · show CallThen _ _ _ _ _ _
      refine call_pure c1 rfl ?_
      rintro z rfl
      refine ⟨trivial, rfl, rfl, rfl, leaf_b ?_⟩
      unfold lostB
      rw [g, g2]
      rfl
    · refine ⟨trivial, rfl, rfl, rfl, leaf_ff ?_⟩
      unfold lostB
      rw [g, g2]
      rfl
  · refine ⟨trivial, rfl, rfl, rfl, leaf_ff ?_⟩
    unfold lostB
    rw [g]
    rfl

theorem rfold_any {α : Type} (f : α → Bool) : ∀ l : List α, rfold (fun (_ : Unit) a => ((), if f a = true then some Code.ret else none)) () l = ((), if l.all (fun a => !f a) = true then none else some .ret)
  | [] => rfl
  | a :: l => by
    rw [rfold, List.all_cons]
    cases h : f a with
    | true => rfl
    | false => exact rfold_any f l

set_option maxHeartbeats 2000000 in
set_option maxRecDepth 100000 in
theorem w_besDrop (b : Bes) (h1 : b.x.size ≤ 1000000000) (h2 : b.c.size ≤ 1000000000) : Pure Tryz.prog 176 [besV b] (fun x => x = .bool (dropB b)) := by
  refine pure_wk (pure_fn 60 Tryz.func176 rfl rfl rfl fun B => ?_)
  show CallThen _ _ _ _ _ _
  refine call_pure (w_kin b.x 0) rfl ?_
  rintro x rfl
  show Goes _ _ _ _
  refine goes_rangeM 60 2 (fun _ : Unit => [some (.box (besV b).cells), some (.box [.ff])]) (fun _ a => ((), if (findR b.c a.1.id).2.2 = true then some .ret else none)) kinV (fun _ _ => True) () (b.x.kin 0) rfl rfl rfl (w_kin1 b.x 0 h1) rfl (fun _ => rfl) (fun _ => rfl) (fun _ => rfl) rfl (fun _ => rfl) (fun _ _ h => by cases h) (fun _ => rfl) rfl trivial ?_ ?_
  · rintro ⟨⟩ a asg -
    have cf := w_Find b.c a.1.id h2
    generalize findR b.c a.1.id = r at cf ⊢
    obtain ⟨r1, r2, r3⟩ := r
    refine ⟨fun _ => trivial, fun imps B r l h1 h2 => ?_⟩
    cases r3
    · show Goes _ _ _ _
      refine goes_beginRound 60 rfl h2 rfl ?_
      show CallThen _ _ _ _ _ _
      refine call_pure cf rfl ?_
      rintro z rfl
      refine ⟨fun q => (by cases q), fun _ => go 60 ?_⟩
      exact ⟨rfl, rfl, trivial, ⟨⟨rfl, rfl⟩, ⟨rfl, rfl⟩, ⟨rfl, rfl⟩, ⟨rfl, rfl⟩, trivial⟩⟩
    · show Goes _ _ _ _
      refine goes_beginRound 60 rfl h2 rfl ?_
      show CallThen _ _ _ _ _ _
      refine call_pure cf rfl ?_
      rintro z rfl
      refine ⟨fun _ => go 60 ?_, fun q => (by cases q)⟩
      exact ⟨rfl, rfl, trivial, ⟨⟨rfl, rfl⟩, ⟨rfl, rfl⟩, ⟨rfl, rfl⟩, ⟨rfl, rfl⟩, trivial⟩⟩
  · rw [rfold_any]
    have hd : dropB b = (b.x.kin 0).all fun y => !(findR b.c y.1.id).2.2 := rfl
    rw [← hd]
    cases dropB b
    · exact ⟨trivial, rfl, rfl, rfl, leaf_ff rfl⟩
    · exact ⟨trivial, rfl, rfl, rfl, leaf_tt rfl⟩

set_option maxHeartbeats 2000000 in
set_option maxRecDepth 100000 in
theorem w_setL (b : Bes) (hk : b.o.kind = 5) (hp : b.p.path.length ≤ 1000000) (h2 : b.c.size ≤ 1000000000) : Pure Tryz.prog 179 [besV b] (fun x => x = .bool (labelB b)) := by
  have c1 := w_cut b b.o.path hp
  have c2 := w_lost b hp
  have c3 := w_Find b.c b.x.id h2
  have n4 : decide (b.o.kind = 4) = false := decide_eq_false (by rw [hk]; decide)
  unfold labelB
  generalize findR b.c b.x.id = r at c3
  obtain ⟨r1, r2, r3⟩ := r
  generalize cutB b.p b.o.path = g1 at c1
  generalize lostB b = g2 at c2
  refine pure_wk (pure_fn 60 Tryz.func179 rfl rfl rfl fun B => ?_)
  show CallThen _ _ _ _ _ _
  refine call_pure c1 rfl ?_
  rintro z rfl
  cases g1
  case true =>
    refine ⟨fun _ => go 60 ?_, fun q => (by cases q)⟩
    exact ⟨trivial, rfl, rfl, rfl, leaf_tt rfl⟩
  refine ⟨fun q => (by cases q), fun _ => go 60 ?_⟩
  show CallThen _ _ _ _ _ _
  refine call_pure c2 rfl ?_
  rintro z rfl
  cases g2
  case true =>
    refine ⟨fun _ => go 60 ?_, fun q => (by cases q)⟩
    refine ⟨fun _ => go 60 ?_, fun q => absurd q (by rw [n4]; decide)⟩
    exact ⟨trivial, rfl, rfl, rfl, leaf_tt rfl⟩
  refine ⟨fun q => (by cases q), fun _ => go 60 ?_⟩
  show CallThen _ _ _ _ _ _
  refine call_pure c3 rfl ?_
  rintro z rfl
  cases r3
  · refine ⟨fun _ => go 60 ?_, fun q => (by cases q)⟩
    refine ⟨fun q => (by cases q), fun _ => go 60 ?_⟩
    exact ⟨trivial, rfl, rfl, rfl, leaf_ff rfl⟩
  · refine ⟨fun q => (by cases q), fun _ => go 60 ?_⟩
    refine ⟨fun _ => go 60 ?_, fun q => absurd q (by rw [n4]; decide)⟩
    refine ⟨fun _ => go 60 ?_, fun q => (by cases q)⟩
    exact ⟨trivial, rfl, rfl, rfl, leaf_b rfl⟩

def wrongB (b : Bes) : Int := bif decide (b.o.kind = 2) then (bif dropB b then 0 else 3) else (bif labelB b then 0 else 5)
set_option maxRecDepth 100000 in
theorem w_wrong (b : Bes) (hk : b.o.kind = 2 ∨ b.o.kind = 5) (hp : b.p.path.length ≤ 1000000) (h1 : b.x.size ≤ 1000000000) (h2 : b.c.size ≤ 1000000000) : Pure Tryz.prog 141 [besV b] (fun x => x = .int .u8 (wrongB b)) := by
  have c1 := w_besDrop b h1 h2
  refine pure_fn 60 Tryz.func141 rfl rfl rfl fun B => ?_
  unfold wrongB
  rcases hk with hk | hk
  · rw [decide_eq_true hk]
    generalize dropB b = d at c1
    refine ⟨fun q => absurd (of_decide_eq_true q) (by rw [hk]; decide), fun _ => go 60 ?_⟩
    refine ⟨fun _ => go 60 ?_, fun q => absurd hk (of_decide_eq_false q)⟩
    show CallThen _ _ _ _ _ _
    refine call_pure c1 rfl ?_
    rintro z rfl
    cases d
    · refine ⟨fun q => (by cases q), fun _ => go 60 ?_⟩
      exact ⟨trivial, rfl, rfl, rfl, rfl⟩
    · refine ⟨fun _ => go 60 ?_, fun q => (by cases q)⟩
      exact ⟨trivial, rfl, rfl, rfl, rfl⟩
  · have c2 := w_setL b hk hp h2
    rw [decide_eq_false (p := b.o.kind = 2) (by rw [hk]; decide)]
    generalize labelB b = d at c2
    refine ⟨fun q => absurd (of_decide_eq_true q) (by rw [hk]; decide), fun _ => go 60 ?_⟩
    refine ⟨fun q => absurd (of_decide_eq_true q) (by rw [hk]; decide), fun _ => go 60 ?_⟩
    refine ⟨fun q => absurd (of_decide_eq_true q) (by rw [hk]; decide), fun _ => go 60 ?_⟩
    refine ⟨fun q => absurd (of_decide_eq_true q) (by rw [hk]; decide), fun _ => go 60 ?_⟩
    show CallThen _ _ _ _ _ _
    refine call_pure c2 rfl ?_
    rintro z rfl
    cases d
    · refine ⟨fun q => (by cases q), fun _ => go 60 ?_⟩
      exact ⟨trivial, rfl, rfl, rfl, rfl⟩
    · refine ⟨fun _ => go 60 ?_, fun q => (by cases q)⟩
      exact ⟨trivial, rfl, rfl, rfl, rfl⟩

/-! ### What stands -/
def nodeAt (t : Tree) (p : List Int) : Tree := (atT t p).getD zeroT0
theorem w_AtB (t : Tree) (p : List Int) (hp : p.length ≤ 1000000) : Pure Tryz.prog 54 [nodeV t, pathV p] (fun x => x = .tup [nodeV (nodeAt t p), .bool (atT t p).isSome]) := by
  refine pure_wk ((w_At t p hp).mono fun x hx => ⟨_, ?_, ?_, rfl⟩)
  · rw [hx]
    unfold nodeAt
    cases atT t p with
    | none => exact Wk.tup ⟨.refl _, Wk.ff, trivial⟩
    | some s => exact Wk.tup ⟨.refl _, Wk.tt, trivial⟩
  · rfl
def standsT (n c : Tree) (a b : OpT) (prior : Bool) : Int :=
  bif decide (ValidE n a = 0) && decide (ValidE n b = 0) then
    (bif decide (wrongB ⟨n, c, a, b, prior, nodeAt n a.path⟩ = 0) then wrongB ⟨n, c, b, a, !prior, nodeAt n b.path⟩ else wrongB ⟨n, c, a, b, prior, nodeAt n a.path⟩)
  else 1
theorem nodeAt_size (t : Tree) (p : List Int) : (nodeAt t p).size ≤ t.size := by
  unfold nodeAt
  cases h : atT t p with
  | none => exact size_pos t
  | some s => exact atT_size h
set_option maxHeartbeats 2000000 in
set_option maxRecDepth 100000 in
theorem w_Stands (n c : Tree) (a b : OpT) (prior : Bool) (hn : n.weight ≤ 1000000) (hs : n.size ≤ 1000000000) (hc : c.size ≤ 1000000000) (ha : a.Ok) (hb : b.Ok) (ka : a.kind = 2 ∨ a.kind = 5) (kb : b.kind = 2 ∨ b.kind = 5) :
    Pure Tryz.prog 95 [nodeV n, nodeV c, opV a, opV b, .bool prior] (fun x => x = .int .u8 (standsT n c a b prior)) := by
  have c1 := w_Valid n a hn ha
  have c2 := w_Valid n b hn hb
  have c3 := w_AtB n a.path ha.lt.path
  have c4 := w_AtB n b.path hb.lt.path
  have hx := nodeAt_size n a.path
  have hy := nodeAt_size n b.path
  have c5 := w_wrong ⟨n, c, a, b, prior, nodeAt n a.path⟩ ka hb.lt.path (by simp only; omega) hc
  have c6 := w_wrong ⟨n, c, b, a, !prior, nodeAt n b.path⟩ kb ha.lt.path (by simp only; omega) hc
  unfold standsT
  generalize nodeAt n a.path = X at c3 c5 ⊢
  generalize nodeAt n b.path = Y at c4 c6 ⊢
  generalize ValidE n a = va at c1
  generalize ValidE n b = vb at c2
  generalize wrongB ⟨n, c, a, b, prior, X⟩ = w1 at c5
  generalize wrongB ⟨n, c, b, a, !prior, Y⟩ = w2 at c6
  clear hx hy
  obtain ⟨R, hR⟩ : ∃ R : Int, (bif decide (va = 0) && decide (vb = 0) then (bif decide (w1 = 0) then w2 else w1) else 1) = R := ⟨_, rfl⟩
  rw [hR]
  refine pure_wk (pure_fn 60 Tryz.func95 rfl rfl rfl fun B => ?_)
  show CallThen _ _ _ _ _ _
  refine call_pure c1 rfl ?_
  rintro z rfl
  refine ⟨fun q => go 60 ?_, fun q1 => go 60 ?_⟩
  · exact ⟨trivial, rfl, rfl, rfl, _, .refl _, rfl, congrArg (V.int .u8) (by rw [← hR, decide_eq_false (ne_of' q)]; rfl)⟩
  show CallThen _ _ _ _ _ _
  refine call_pure c2 rfl ?_
  rintro z rfl
  refine ⟨fun q => go 60 ?_, fun q2 => go 60 ?_⟩
  · exact ⟨trivial, rfl, rfl, rfl, _, .refl _, rfl, congrArg (V.int .u8) (by rw [← hR, decide_eq_false (ne_of' q), Bool.and_false]; rfl)⟩
  show CallThen _ _ _ _ _ _
  refine call_pure c3 rfl ?_
  rintro z rfl
  show CallThen _ _ _ _ _ _
  refine call_pure c4 rfl ?_
  rintro z rfl
  show CallThen _ _ _ _ _ _
  refine call_pure c5 rfl ?_
  rintro z rfl
  refine ⟨fun q => go 60 ?_, fun q3 => go 60 ?_⟩
  · exact ⟨trivial, rfl, rfl, rfl, _, .refl _, rfl, congrArg (V.int .u8) (by rw [← hR, decide_eq_true (eq_of' q1), decide_eq_true (eq_of' q2), decide_eq_false (ne_of' q)]; rfl)⟩
  show CallThen _ _ _ _ _ _
  refine call_pure c6 rfl ?_
  rintro z rfl
  exact ⟨trivial, rfl, rfl, rfl, _, .refl _, rfl, congrArg (V.int .u8) (by rw [← hR, decide_eq_true (eq_of' q1), decide_eq_true (eq_of' q2), decide_eq_true (eq_of' q3)]; rfl)⟩
end Bow
/- SP66: whether both sides' effects stand, of operations of all kinds, in plain Lean. -/
namespace Bow
open Go

/-- An attribute's value. -/
def attrP (l : AttrL) (key : List UInt8) : List UInt8 × Bool := match l.find? fun a => decide (a.1 = key) with
  | some a => (a.2, true)
  | none => ([], false)
def ixA (key : List UInt8) : Nat → AttrL → Int
  | _, [] => -1
  | i, a :: l => bif decide (a.1 = key) then i else ixA key (i + 1) l
theorem ixA_spec (key : List UInt8) : ∀ (l : AttrL) (k : Nat), (ixA key k l = -1 ∧ attrP l key = ([], false)) ∨ ∃ (i : Nat) (a : List UInt8 × List UInt8), ixA key k l = ((k + i : Nat) : Int) ∧ l[i]? = some a ∧ attrP l key = (a.2, true)
  | [], _ => .inl ⟨rfl, rfl⟩
  | a :: l, k => by
    rw [ixA]
    have e : attrP (a :: l) key = bif decide (a.1 = key) then (a.2, true) else attrP l key := by
      unfold attrP
      rw [List.find?_cons]
      cases decide (a.1 = key) <;> rfl
    rw [e]
    cases decide (a.1 = key) with
    | true => exact .inr ⟨0, a, rfl, rfl, rfl⟩
    | false =>
      rcases ixA_spec key l (k + 1) with ⟨h1, h2⟩ | ⟨i, b, h1, h2, h3⟩
      · exact .inl ⟨h1, h2⟩
      · exact .inr ⟨i + 1, b, by rw [cond_false, h1]; omega, by simpa using h2, h3⟩
def nodeAtP (t : Tree) (p : List Int) : Tree := (atT t p).getD zeroT0
/-- A node of an identity, if it is a child of one of another identity. -/
def underB (c : Tree) (id up : Int) : Tree × Bool := ((findR c id).1, (findR c id).2.2 && (!decide (c.id = id) && decide ((findR c id).2.1 = up)))
def insertB (b : Bes) : Bool := cutB b.p b.o.path || ((underB b.c b.o.id b.x.id).2 && (decide ((underB b.c b.o.id b.x.id).1.leaf = b.o.leaf) && decide ((underB b.c b.o.id b.x.id).1.label = b.o.label)))
def ringB (b : Bes) : Bool := !b.prior && (decide (b.p.kind = 3) && (within b.o.path b.p.to && within b.p.path b.o.to))
def moveB (b : Bes) : Bool := cutB b.p b.o.path || (cutB b.p b.o.to || (lostB b || (ringB b || (underB b.c b.x.id (nodeAtP b.n b.o.to).id).2)))
def setB (b : Bes) : Bool :=
  (cutB b.p b.o.path || (lostB b && (!decide (b.o.kind = 4) || decide (b.p.key = b.o.key)))) ||
  (bif !(findR b.c b.x.id).2.2 || !decide (b.o.kind = 4) then (findR b.c b.x.id).2.2 && decide ((findR b.c b.x.id).1.label = b.o.label)
  else bif b.o.gone then !(attrP (findR b.c b.x.id).1.attrs b.o.key).2 else (attrP (findR b.c b.x.id).1.attrs b.o.key).2 && decide ((attrP (findR b.c b.x.id).1.attrs b.o.key).1 = b.o.value))
def wantB (b : Bes) : List UInt8 :=
  bif decide (b.p.kind = 6) && decide (b.p.path = b.o.path) then (applyE (applyE b.x.text b.o.pieces).1 (transP b.o.pieces b.p.pieces b.prior).2.1).1 else (applyE b.x.text b.o.pieces).1
def editB (b : Bes) : Bool := cutB b.p b.o.path || ((findR b.c b.x.id).2.2 && decide ((findR b.c b.x.id).1.text = wantB b))
def wrongP (b : Bes) : Int :=
  bif decide (b.o.kind = 1) then (bif insertB b then 0 else 2) else bif decide (b.o.kind = 2) then (bif dropB b then 0 else 3) else bif decide (b.o.kind = 3) then (bif moveB b then 0 else 4)
  else bif decide (b.o.kind = 6) then (bif editB b then 0 else 6) else (bif setB b then 0 else 5)
def standsP (n c : Tree) (a b : OpT) (prior : Bool) : Int :=
  bif decide (ValidE n a = 0) && decide (ValidE n b = 0) then
    (bif decide (wrongP ⟨n, c, a, b, prior, nodeAtP n a.path⟩ = 0) then wrongP ⟨n, c, b, a, !prior, nodeAtP n b.path⟩ else wrongP ⟨n, c, a, b, prior, nodeAtP n a.path⟩)
  else 1
end Bow
/- W99: an attribute's value. -/
namespace Bow
open Go Go.Proofs

theorem w_attrIs (a : List UInt8 × List UInt8) (key : List UInt8) : Pure Tryz.prog 203 [attrV a, .iptr [.str key] 0] (fun x => x = .bool (decide (a.1 = key))) := by
  refine pure_fn 60 Tryz.func203 rfl rfl rfl fun B => ?_
  exact ⟨trivial, rfl, rfl, rfl, rfl⟩
set_option maxRecDepth 100000 in
theorem w_IndexAttr (key : List UInt8) (xs : AttrL) (hl : xs.length ≤ 1000000) :
    Pure Tryz.prog 202 [.sl 2 (xs.map attrV), .fn (.func 203) [] [.iptr [.str key] 0]] (fun x => x = .int .i64 (ixA key 0 xs)) := by
  refine pure_fn 100 Tryz.func202 rfl rfl rfl fun B => ?_
  show Goes _ _ _ _
  refine goes_iter (ι := Nat) (fun i => i ≤ xs.length ∧ ixA key i (xs.drop i) = ixA key 0 xs) (fun i => xs.length - i) (fun i => [(8, .int .i64 i), (7, .int .i64 (xs.map attrV).length), (1, .fn (.func 203) [] [.iptr [.str key] 0]), (0, .sl 2 (xs.map attrV))]) (fun _ => []) 0 200 (fun _ => rfl) (fun _ => rfl) ⟨⟨Nat.zero_le _, rfl⟩, ?_, ?_⟩ ?_
  · exact ⟨⟨rfl, rfl⟩, ⟨rfl, rfl⟩, ⟨rfl, rfl⟩, ⟨rfl, rfl⟩, trivial⟩
  · trivial
  · rintro i ⟨h1, h2⟩ next
    refine ⟨fun hlt => go 200 ?_, fun hge => go 200 ?_⟩
    · have hi : i < xs.length := by simpa using hlt
      have hx : (xs.map attrV)[i]? = some (attrV xs[i]) := by simp [hi]
      rw [drop_cons hi, ixA] at h2
      refine ⟨Int.natCast_nonneg i, _, hx, ?_⟩
      show CallThen _ _ _ _ _ _
      refine call_pure (w_attrIs xs[i] key) rfl ?_
      rintro x rfl
      refine ⟨fun h => go 200 ?_, fun h => go 200 ?_⟩
      · rw [h] at h2
        exact ⟨trivial, rfl, rfl, rfl, by rw [← h2]; rfl⟩
      · rw [h] at h2
        refine ⟨by constructor <;> omega, ?_⟩
        show Goes _ _ _ _
        exact next (i + 1) _ _ ⟨⟨hi, h2⟩, by omega, ⟨⟨rfl, rfl⟩, ⟨rfl, rfl⟩, ⟨rfl, rfl⟩, ⟨rfl, rfl⟩, trivial⟩, trivial⟩
    · have hi : xs.length ≤ i := by simpa using hge
      rw [List.drop_eq_nil_of_le hi] at h2
      exact ⟨trivial, rfl, rfl, rfl, by rw [← h2]; rfl⟩
def attrR (r : List UInt8 × Bool) : V := .tup [.str r.1, .bool r.2]
set_option maxRecDepth 100000 in
theorem w_plainAttr (t : Tree) (key : List UInt8) (hl : t.attrs.length ≤ 1000000) : Pure Tryz.prog 166 [nodeV t, .str key] (fun x => x = attrR (attrP t.attrs key)) := by
  have c1 := w_IndexAttr key t.attrs hl
  have hs := ixA_spec key t.attrs 0
  generalize ixA key 0 t.attrs = n at c1 hs
  generalize attrP t.attrs key = r at hs ⊢
  refine pure_wk (pure_fn 60 Tryz.func166 rfl rfl rfl fun B => ?_)
  show CallThen _ _ _ _ _ _
  refine call_freeze 1 rfl rfl ?_
  refine call_pure c1 rfl ?_
  rintro x rfl
  rcases hs with ⟨rfl, rfl⟩ | ⟨i, a, rfl, h2, rfl⟩
  · refine ⟨fun _ => go 60 ?_, fun q => absurd q (by decide)⟩
    exact ⟨trivial, rfl, rfl, rfl, attrR ([], false), Wk.tup ⟨.refl _, Wk.ff, trivial⟩, rfl, rfl⟩
  · refine ⟨fun q => ?_, fun _ => go 60 ?_⟩
    · have := lt_of q
      omega
    have hx : (t.attrs.map attrV)[0 + i]? = some (attrV a) := by rw [Nat.zero_add, List.getElem?_map, h2]; rfl
    refine ⟨Int.natCast_nonneg _, _, hx, ?_⟩
    exact ⟨trivial, rfl, rfl, rfl, attrR (a.2, true), Wk.tup ⟨.refl _, Wk.tt, trivial⟩, rfl, rfl⟩
theorem attrP_drop (key : List UInt8) {l : AttrL} {i : Nat} (hi : i < l.length) : attrP (l.drop i) key = bif decide (l[i].1 = key) then (l[i].2, true) else attrP (l.drop (i + 1)) key := by
  rw [drop_cons hi]
  unfold attrP
  rw [List.find?_cons]
  cases decide (l[i].1 = key) <;> rfl
set_option maxRecDepth 100000 in
theorem w_refAttr (t : Tree) (key : List UInt8) (hl : t.attrs.length ≤ 1000000) : Pure Tryz.prog 125 [nodeV t, .str key] (fun x => x = attrR (attrP t.attrs key)) := by
  refine pure_wk (pure_fn 60 Tryz.func125 rfl rfl rfl fun B => ?_)
  show Goes _ _ _ _
  refine goes_iter (ι := Nat) (fun i => i ≤ t.attrs.length ∧ attrP (t.attrs.drop i) key = attrP t.attrs key) (fun i => t.attrs.length - i) (fun i => [(6, .int .i64 i), (1, .str key), (2, .ptr (.loc 0) 0)]) (fun _ => [some (.box (nodeV t).cells)]) 0 60 (fun _ => rfl) (fun _ => rfl) ⟨⟨Nat.zero_le _, rfl⟩, ?_, ?_⟩ ?_
  · exact ⟨⟨rfl, rfl⟩, ⟨rfl, rfl⟩, ⟨rfl, rfl⟩, trivial⟩
  · exact ⟨⟨rfl, rfl⟩, trivial⟩
  · rintro i ⟨h1, h2⟩ next
    refine ⟨fun hlt => go 60 ?_, fun hge => go 60 ?_⟩
    · have hi : i < t.attrs.length := by simpa using hlt
      have hx : (t.attrs.map attrV)[i]? = some (attrV t.attrs[i]) := by simp [hi]
      rw [attrP_drop key hi] at h2
      refine ⟨Int.natCast_nonneg i, _, hx, ?_⟩
      refine ⟨fun h => go 60 ?_, fun h => go 60 ?_⟩
      · rw [h] at h2
        refine ⟨Int.natCast_nonneg i, _, hx, ?_⟩
        exact ⟨trivial, rfl, rfl, rfl, attrR (t.attrs[i].2, true), Wk.tup ⟨.refl _, Wk.tt, trivial⟩, rfl, by rw [← h2]; rfl⟩
      · rw [h] at h2
        refine ⟨by constructor <;> omega, ?_⟩
        show Goes _ _ _ _
        exact next (i + 1) _ _ ⟨⟨hi, h2⟩, by omega, ⟨⟨rfl, rfl⟩, ⟨rfl, rfl⟩, ⟨rfl, rfl⟩, trivial⟩, ⟨⟨rfl, rfl⟩, trivial⟩⟩
    · have hi : t.attrs.length ≤ i := by simpa using hge
      rw [List.drop_eq_nil_of_le hi] at h2
      exact ⟨trivial, rfl, rfl, rfl, attrR ([], false), Wk.tup ⟨.refl _, Wk.ff, trivial⟩, rfl, by rw [← h2]; rfl⟩
end Bow
/- W100: what stands of operations of all kinds: the program's. -/
namespace Bow
open Go Go.Proofs

def underV (r : Tree × Bool) : V := .tup [nodeV r.1, .bool r.2]
set_option maxRecDepth 100000 in
theorem w_under (b : Bes) (id up : Int) (h2 : b.c.size ≤ 1000000000) : Pure Tryz.prog 208 [besV b, .int .u64 id, .int .u64 up] (fun x => x = underV (underB b.c id up)) := by
  have c1 := w_Find b.c id h2
  unfold underB
  generalize findR b.c id = r at c1 ⊢
  obtain ⟨y, p, ok⟩ := r
  refine pure_wk (pure_fn 60 Tryz.func208 rfl rfl rfl fun B => ?_)
  show CallThen _ _ _ _ _ _
  refine call_pure c1 rfl ?_
  rintro z rfl
  refine ⟨fun q => go 90 ?_, fun q => go 90 ?_⟩
  · have q : ok = true := q
    refine ⟨fun q2 => go 90 ?_, fun q2 => go 90 ?_⟩
    · have q2 : ¬ b.c.id = id := ne_of' q2
      refine ⟨trivial, rfl, rfl, rfl, underV (y, decide (p = up)), .refl _, rfl, ?_⟩
      rw [q, decide_eq_false q2]
      rfl
    · have q2 : b.c.id = id := eq_of' q2
      refine ⟨trivial, rfl, rfl, rfl, underV (y, false), Wk.tup ⟨.refl _, Wk.ff, trivial⟩, rfl, ?_⟩
      rw [q, decide_eq_true q2]
      rfl
  · have q : ok = false := q
    refine ⟨trivial, rfl, rfl, rfl, underV (y, false), Wk.tup ⟨.refl _, Wk.ff, trivial⟩, rfl, ?_⟩
    rw [q]
    rfl
set_option maxHeartbeats 2000000 in
set_option maxRecDepth 100000 in
theorem w_insert14 (b : Bes) (hp : b.p.path.length ≤ 1000000) (h2 : b.c.size ≤ 1000000000) : Pure Tryz.prog 175 [besV b] (fun x => x = .bool (insertB b)) := by
  have c0 := w_under b b.o.id b.x.id h2
  have c1 := w_cut b b.o.path hp
  unfold insertB
  generalize underB b.c b.o.id b.x.id = r at c0 ⊢
  generalize cutB b.p b.o.path = g at c1 ⊢
  obtain ⟨y, ok⟩ := r
  refine pure_wk (pure_fn 60 Tryz.func175 rfl rfl rfl fun B => ?_)
  show CallThen _ _ _ _ _ _
  refine call_pure c0 rfl ?_
  rintro z rfl
  show CallThen _ _ _ _ _ _
  refine call_pure c1 rfl ?_
  rintro z rfl
  refine ⟨fun q => go 90 ?_, fun q => go 90 ?_⟩
  · have q : g = true := q
    exact ⟨trivial, rfl, rfl, rfl, leaf_tt (by rw [q]; rfl)⟩
  have q : g = false := q
  refine ⟨fun q2 => go 90 ?_, fun q2 => go 90 ?_⟩
  · have q2 : ok = true := q2
    refine ⟨fun q3 => go 90 ?_, fun q3 => go 90 ?_⟩
    · exact ⟨trivial, rfl, rfl, rfl, leaf_b (by rw [q, q2]; simp_all)⟩
    · exact ⟨trivial, rfl, rfl, rfl, leaf_ff (by rw [q, q2]; simp_all)⟩
  · have q2 : ok = false := q2
    exact ⟨trivial, rfl, rfl, rfl, leaf_ff (by rw [q, q2]; rfl)⟩
set_option maxHeartbeats 2000000 in
set_option maxRecDepth 100000 in
theorem w_moveB (b : Bes) (hp : b.p.path.length ≤ 1000000) (ho : b.o.path.length ≤ 1000000) (ht : b.o.to.length ≤ 1000000) (h2 : b.c.size ≤ 1000000000) : Pure Tryz.prog 177 [besV b] (fun x => x = .bool (moveB b)) := by
  have c1 := w_pathWithin b.o.path b.p.to ho
  have c2 := w_pathWithin b.p.path b.o.to hp
  have c3 := w_AtB b.n b.o.to ht
  have c4 := w_under b b.x.id (nodeAt b.n b.o.to).id h2
  have c5 := w_cut b b.o.path hp
  have c6 := w_cut b b.o.to hp
  have c7 := w_lost b hp
  obtain ⟨R, hR⟩ : ∃ R, moveB b = R := ⟨_, rfl⟩
  rw [hR]
  unfold moveB at hR
  have e : nodeAtP b.n b.o.to = nodeAt b.n b.o.to := rfl
  rw [e] at hR
  generalize underB b.c b.x.id (nodeAt b.n b.o.to).id = r at c4 hR
  generalize nodeAt b.n b.o.to = tn at c3 c4
  generalize (atT b.n b.o.to).isSome = ta at c3
  generalize cutB b.p b.o.path = g1 at c5 hR
  generalize cutB b.p b.o.to = g2 at c6 hR
  generalize lostB b = g3 at c7 hR
  obtain ⟨y, ok⟩ := r
  simp only at hR
  have rest : ∀ (B : Base), ∀ (g : Bool), ringB b = g → (g1 || (g2 || (g3 || (g || ok)))) = R := fun B g hg => by rw [← hR, hg]
  have hring : ringB b = (!b.prior && (decide (b.p.kind = 3) && (within b.o.path b.p.to && within b.p.path b.o.to))) := rfl
  generalize within b.o.path b.p.to = w1 at c1 hring
  generalize within b.p.path b.o.to = w2 at c2 hring
  clear hR
  refine pure_wk (pure_fn 90 Tryz.func177 rfl rfl rfl fun B => ?_)
  have key : ∀ g, ringB b = g → (g1 = true → R = true) ∧ (g1 = false → g2 = true → R = true) ∧ (g1 = false → g2 = false → g3 = true → R = true) ∧ (g1 = false → g2 = false → g3 = false → g = true → R = true) ∧ (g1 = false → g2 = false → g3 = false → g = false → R = ok) := fun g hg => by
    have := rest B g hg
    refine ⟨?_, ?_, ?_, ?_, ?_⟩
    · rintro rfl; rw [← this]; rfl
    · rintro rfl rfl; rw [← this]; rfl
    · rintro rfl rfl rfl; rw [← this]; rfl
    · rintro rfl rfl rfl rfl; rw [← this]; rfl
    · rintro rfl rfl rfl rfl; rw [← this]; rfl
  clear rest
  refine ⟨fun q1 => go 90 ?_, fun q1 => go 90 ?_⟩
  · refine ⟨fun q2 => go 90 ?_, fun q2 => go 90 ?_⟩
    · show CallThen _ _ _ _ _ _
      refine call_pure c1 rfl ?_
      rintro z rfl
      refine ⟨fun q3 => go 90 ?_, fun q3 => go 90 ?_⟩
      · show CallThen _ _ _ _ _ _
        refine call_pure c2 rfl ?_
        rintro z rfl
        show CallThen _ _ _ _ _ _
        refine call_pure c3 rfl ?_
        rintro z rfl
        show CallThen _ _ _ _ _ _
        refine call_pure c4 rfl ?_
        rintro z rfl
        show CallThen _ _ _ _ _ _
        refine call_pure c5 rfl ?_
        rintro z rfl
        have key := key w2 (by rw [hring, q1, q2, q3]; rfl)
        refine ⟨fun a1 => go 90 ?_, fun a1 => go 90 ?_⟩
        · exact ⟨trivial, rfl, rfl, rfl, leaf_tt (key.1 a1)⟩
        show CallThen _ _ _ _ _ _
        refine call_pure c6 rfl ?_
        rintro z rfl
        refine ⟨fun a2 => go 90 ?_, fun a2 => go 90 ?_⟩
        · exact ⟨trivial, rfl, rfl, rfl, leaf_tt (key.2.1 a1 a2)⟩
        show CallThen _ _ _ _ _ _
        refine call_pure c7 rfl ?_
        rintro z rfl
        refine ⟨fun a3 => go 90 ?_, fun a3 => go 90 ?_⟩
        · exact ⟨trivial, rfl, rfl, rfl, leaf_tt (key.2.2.1 a1 a2 a3)⟩
        refine ⟨fun a4 => go 90 ?_, fun a4 => go 90 ?_⟩
        · exact ⟨trivial, rfl, rfl, rfl, leaf_tt (key.2.2.2.1 a1 a2 a3 a4)⟩
        exact ⟨trivial, rfl, rfl, rfl, leaf_b (key.2.2.2.2 a1 a2 a3 a4).symm⟩
      · show CallThen _ _ _ _ _ _
        refine call_pure c3 rfl ?_
        rintro z rfl
        show CallThen _ _ _ _ _ _
        refine call_pure c4 rfl ?_
        rintro z rfl
        show CallThen _ _ _ _ _ _
        refine call_pure c5 rfl ?_
        rintro z rfl
        have key := key false (by rw [hring, q1, q2, q3]; rfl)
        refine ⟨fun a1 => go 90 ?_, fun a1 => go 90 ?_⟩
        · exact ⟨trivial, rfl, rfl, rfl, leaf_tt (key.1 a1)⟩
        show CallThen _ _ _ _ _ _
        refine call_pure c6 rfl ?_
        rintro z rfl
        refine ⟨fun a2 => go 90 ?_, fun a2 => go 90 ?_⟩
        · exact ⟨trivial, rfl, rfl, rfl, leaf_tt (key.2.1 a1 a2)⟩
        show CallThen _ _ _ _ _ _
        refine call_pure c7 rfl ?_
        rintro z rfl
        refine ⟨fun a3 => go 90 ?_, fun a3 => go 90 ?_⟩
        · exact ⟨trivial, rfl, rfl, rfl, leaf_tt (key.2.2.1 a1 a2 a3)⟩
        exact ⟨trivial, rfl, rfl, rfl, leaf_b (key.2.2.2.2 a1 a2 a3 rfl).symm⟩
    · show CallThen _ _ _ _ _ _
      refine call_pure c3 rfl ?_
      rintro z rfl
      show CallThen _ _ _ _ _ _
      refine call_pure c4 rfl ?_
      rintro z rfl
      show CallThen _ _ _ _ _ _
      refine call_pure c5 rfl ?_
      rintro z rfl
      have key := key false (by rw [hring, q1, q2]; rfl)
      refine ⟨fun a1 => go 90 ?_, fun a1 => go 90 ?_⟩
      · exact ⟨trivial, rfl, rfl, rfl, leaf_tt (key.1 a1)⟩
      show CallThen _ _ _ _ _ _
      refine call_pure c6 rfl ?_
      rintro z rfl
      refine ⟨fun a2 => go 90 ?_, fun a2 => go 90 ?_⟩
      · exact ⟨trivial, rfl, rfl, rfl, leaf_tt (key.2.1 a1 a2)⟩
      show CallThen _ _ _ _ _ _
      refine call_pure c7 rfl ?_
      rintro z rfl
      refine ⟨fun a3 => go 90 ?_, fun a3 => go 90 ?_⟩
      · exact ⟨trivial, rfl, rfl, rfl, leaf_tt (key.2.2.1 a1 a2 a3)⟩
      exact ⟨trivial, rfl, rfl, rfl, leaf_b (key.2.2.2.2 a1 a2 a3 rfl).symm⟩
  · show CallThen _ _ _ _ _ _
    refine call_pure c3 rfl ?_
    rintro z rfl
    show CallThen _ _ _ _ _ _
    refine call_pure c4 rfl ?_
    rintro z rfl
    show CallThen _ _ _ _ _ _
    refine call_pure c5 rfl ?_
    rintro z rfl
    have key := key false (by rw [hring, q1]; rfl)
    refine ⟨fun a1 => go 90 ?_, fun a1 => go 90 ?_⟩
    · exact ⟨trivial, rfl, rfl, rfl, leaf_tt (key.1 a1)⟩
    show CallThen _ _ _ _ _ _
    refine call_pure c6 rfl ?_
    rintro z rfl
    refine ⟨fun a2 => go 90 ?_, fun a2 => go 90 ?_⟩
    · exact ⟨trivial, rfl, rfl, rfl, leaf_tt (key.2.1 a1 a2)⟩
    show CallThen _ _ _ _ _ _
    refine call_pure c7 rfl ?_
    rintro z rfl
    refine ⟨fun a3 => go 90 ?_, fun a3 => go 90 ?_⟩
    · exact ⟨trivial, rfl, rfl, rfl, leaf_tt (key.2.2.1 a1 a2 a3)⟩
    exact ⟨trivial, rfl, rfl, rfl, leaf_b (key.2.2.2.2 a1 a2 a3 rfl).symm⟩
end Bow
/- W101: what stands of attributes, labels, edits; of two operations: the program's. -/
namespace Bow
open Go Go.Proofs

set_option maxHeartbeats 2000000 in
set_option maxRecDepth 100000 in
theorem w_set14 (b : Bes) (hp : b.p.path.length ≤ 1000000) (h2 : b.c.size ≤ 1000000000) (ha : (findR b.c b.x.id).1.attrs.length ≤ 1000000) : Pure Tryz.prog 179 [besV b] (fun x => x = .bool (setB b)) := by
  have c1 := w_cut b b.o.path hp
  have c2 := w_lost b hp
  have c3 := w_Find b.c b.x.id h2
  have c4 := w_plainAttr (findR b.c b.x.id).1 b.o.key ha
  obtain ⟨R, hR⟩ : ∃ R, setB b = R := ⟨_, rfl⟩
  rw [hR]
  unfold setB at hR
  generalize attrP (findR b.c b.x.id).1.attrs b.o.key = av at c4 hR
  generalize findR b.c b.x.id = r at c3 c4 hR
  generalize cutB b.p b.o.path = g1 at c1 hR
  generalize lostB b = g2 at c2 hR
  clear ha
  obtain ⟨y, up, ok⟩ := r
  obtain ⟨v, has⟩ := av
  simp only at hR c4
  refine pure_wk (pure_fn 60 Tryz.func179 rfl rfl rfl fun B => ?_)
  show CallThen _ _ _ _ _ _
  refine call_pure c1 rfl ?_
  rintro z rfl
  refine ⟨fun q1 => go 90 ?_, fun q1 => go 90 ?_⟩
  · have q1 : g1 = true := q1
    exact ⟨trivial, rfl, rfl, rfl, leaf_tt (by rw [← hR, q1]; rfl)⟩
  have q1 : g1 = false := q1
  subst q1
  show CallThen _ _ _ _ _ _
  refine call_pure c2 rfl ?_
  rintro z rfl
  repeat' first
    | refine ⟨fun _ => go 90 ?_, fun _ => go 90 ?_⟩
    | (show CallThen _ _ _ _ _ _; refine call_pure c3 rfl ?_; rintro z rfl)
    | (show CallThen _ _ _ _ _ _; refine call_pure c4 rfl ?_; rintro z rfl)
    | exact ⟨trivial, rfl, rfl, rfl, leaf_tt (by rw [← hR]; simp_all)⟩
    | exact ⟨trivial, rfl, rfl, rfl, leaf_ff (by rw [← hR]; simp_all)⟩
    | exact ⟨trivial, rfl, rfl, rfl, leaf_b (by rw [← hR]; simp_all)⟩
theorem puts_le_all {l : List PieceT} (h : putsLen l ≤ 1048576) : ∀ p ∈ l, p.put.length ≤ 1000000000 := fun p hp => by
  have := put_le p hp
  omega
set_option maxHeartbeats 2000000 in
set_option maxRecDepth 100000 in
theorem w_edit14 (b : Bes) (h2 : b.c.size ≤ 1000000000) (hx : b.x.text.length ≤ 900000000) (ho : b.o.Ok) (hq : b.p.Ok) : Pure Tryz.prog 178 [besV b] (fun x => x = .bool (editB b)) := by
  have tr := trans_right b.o.pieces b.p.pieces b.prior
  have rb := right_bounds tr.2
  have al := applyE_len b.x.text b.o.pieces
  have c1 := w_edit b.x.text b.o.pieces (by omega) ho.lt.pieces (puts_le_all ho.puts)
  have c2 := w_pathSame b.p.path b.o.path hq.lt.path
  have c3 := w_Trans b.o.pieces b.p.pieces b.prior ho.lt.pieces hq.lt.pieces (puts_le_all ho.puts) (puts_le_all hq.puts)
  have c4 := w_edit (applyE b.x.text b.o.pieces).1 (transP b.o.pieces b.p.pieces b.prior).2.1 (by omega) (by omega) rb.2
  have c5 := w_Find b.c b.x.id h2
  have c6 := w_cut b b.o.path hq.lt.path
  obtain ⟨R, hR⟩ : ∃ R, editB b = R := ⟨_, rfl⟩
  rw [hR]
  unfold editB wantB at hR
  clear tr rb al
  generalize applyE (applyE b.x.text b.o.pieces).1 (transP b.o.pieces b.p.pieces b.prior).2.1 = w2 at c4 hR
  generalize applyE b.x.text b.o.pieces = w1 at c1 c4 hR
  generalize transP b.o.pieces b.p.pieces b.prior = tt at c3 c4 hR
  generalize findR b.c b.x.id = r at c5 hR
  generalize cutB b.p b.o.path = g1 at c6 hR
  obtain ⟨w1, e1⟩ := w1
  obtain ⟨w2, e2⟩ := w2
  obtain ⟨t1, t2, t3⟩ := tt
  obtain ⟨y, up, ok⟩ := r
  simp only at hR c4
  refine pure_wk (pure_fn 60 Tryz.func178 rfl rfl rfl fun B => ?_)
  show CallThen _ _ _ _ _ _
  refine call_pure c1 rfl ?_
  rintro z rfl
  have fin : ∀ (s : List UInt8), (bif decide (b.p.kind = 6) && decide (b.p.path = b.o.path) then w2 else w1) = s → (g1 || (ok && decide (y.text = s))) = R := fun s hs => by rw [← hR, hs]
  repeat' first
    | refine ⟨fun _ => go 90 ?_, fun _ => go 90 ?_⟩
    | (show CallThen _ _ _ _ _ _; refine call_pure c2 rfl ?_; rintro z rfl)
    | (show CallThen _ _ _ _ _ _; refine call_pure c3 rfl ?_; rintro z rfl)
    | (show CallThen _ _ _ _ _ _; refine call_pure c4 rfl ?_; rintro z rfl)
    | (show CallThen _ _ _ _ _ _; refine call_pure c5 rfl ?_; rintro z rfl)
    | (show CallThen _ _ _ _ _ _; refine call_pure c6 rfl ?_; rintro z rfl)
    | exact ⟨trivial, rfl, rfl, rfl, leaf_tt (by rw [← hR]; simp_all)⟩
    | exact ⟨trivial, rfl, rfl, rfl, leaf_ff (by rw [← hR]; simp_all)⟩
    | exact ⟨trivial, rfl, rfl, rfl, leaf_b (by rw [← hR]; simp_all)⟩
set_option maxHeartbeats 2000000 in
set_option maxRecDepth 100000 in
theorem w_wrong14 (b : Bes) (h1 : b.x.size ≤ 1000000000) (h2 : b.c.size ≤ 1000000000) (hx : b.x.text.length ≤ 900000000) (ha : (findR b.c b.x.id).1.attrs.length ≤ 1000000) (ho : b.o.Ok) (hq : b.p.Ok) : Pure Tryz.prog 141 [besV b] (fun x => x = .int .u8 (wrongP b)) := by
  have c1 := w_insert14 b hq.lt.path h2
  have c2 := w_besDrop b h1 h2
  have c3 := w_moveB b hq.lt.path ho.lt.path ho.lt.to h2
  have c4 := w_edit14 b h2 hx ho hq
  have c5 := w_set14 b hq.lt.path h2 ha
  obtain ⟨R, hR⟩ : ∃ R, wrongP b = R := ⟨_, rfl⟩
  rw [hR]
  unfold wrongP at hR
  generalize insertB b = d1 at c1 hR
  generalize dropB b = d2 at c2 hR
  generalize moveB b = d3 at c3 hR
  generalize editB b = d4 at c4 hR
  generalize setB b = d5 at c5 hR
  refine pure_fn 60 Tryz.func141 rfl rfl rfl fun B => ?_
  repeat' first
    | refine ⟨fun _ => go 90 ?_, fun _ => go 90 ?_⟩
    | (show CallThen _ _ _ _ _ _; refine call_pure c1 rfl ?_; rintro z rfl)
    | (show CallThen _ _ _ _ _ _; refine call_pure c2 rfl ?_; rintro z rfl)
    | (show CallThen _ _ _ _ _ _; refine call_pure c3 rfl ?_; rintro z rfl)
    | (show CallThen _ _ _ _ _ _; refine call_pure c4 rfl ?_; rintro z rfl)
    | (show CallThen _ _ _ _ _ _; refine call_pure c5 rfl ?_; rintro z rfl)
    | exact ⟨trivial, rfl, rfl, rfl, congrArg (V.int .u8) (by rw [← hR]; simp_all)⟩
theorem nodeAt_text (t : Tree) (p : List Int) : (nodeAt t p).text.length ≤ t.weight := by
  unfold nodeAt
  cases h : atT t p with
  | none => exact Nat.zero_le _
  | some s =>
    have h1 := atT_weight h
    have h2 := weight_eq s
    simp only [Option.getD_some]
    omega
theorem mem_kin : ∀ (t : Tree) (p : Int), ∀ x ∈ t.kin p, x.1.weight ≤ t.weight := by
  intro t
  induction t using Tree.ind with
  | _ t ih =>
  intro p x hx
  have kids : ∀ (ss : List Tree), (∀ s ∈ ss, s ∈ t.subs) → ∀ x ∈ kins t.id ss, x.1.weight ≤ t.weight := by
    intro ss
    induction ss with
    | nil => intro _ x hx; rw [kins] at hx; cases hx
    | cons s ss ihs =>
      intro hss x hx
      rw [kins] at hx
      rcases List.mem_append.1 hx with hx | hx
      · have := ih s (hss s (by simp)) t.id x hx
        have := weight_sub (hss s (by simp))
        omega
      · exact ihs (fun z hz => hss z (by simp [hz])) x hx
  rw [kin_eq] at hx
  rcases List.mem_cons.1 hx with rfl | hx
  · exact Nat.le_refl _
  · exact kids t.subs (fun _ h => h) x hx
theorem found_attrs (t : Tree) (id : Int) : (findR t id).1.attrs.length ≤ t.weight := by
  unfold findR
  cases h : findK t id with
  | none => exact Nat.zero_le _
  | some y =>
    have hm := List.mem_of_find?_eq_some h
    have h1 := mem_kin t 0 y hm
    have h2 := weight_eq y.1
    simp only
    omega
set_option maxHeartbeats 2000000 in
set_option maxRecDepth 100000 in
theorem w_Stands14 (n c : Tree) (a b : OpT) (prior : Bool) (hn : n.weight ≤ 1000000) (hc : c.weight ≤ 1000000) (ha : a.Ok) (hb : b.Ok) :
    Pure Tryz.prog 95 [nodeV n, nodeV c, opV a, opV b, .bool prior] (fun x => x = .int .u8 (standsP n c a b prior)) := by
  have hs := size_le_weight n
  have hs2 := size_le_weight c
  have c1 := w_Valid n a hn ha
  have c2 := w_Valid n b hn hb
  have c3 := w_AtB n a.path ha.lt.path
  have c4 := w_AtB n b.path hb.lt.path
  have hx := nodeAt_size n a.path
  have hy := nodeAt_size n b.path
  have tx := nodeAt_text n a.path
  have ty := nodeAt_text n b.path
  have fa := found_attrs c (nodeAt n a.path).id
  have fb := found_attrs c (nodeAt n b.path).id
  have c5 := w_wrong14 ⟨n, c, a, b, prior, nodeAt n a.path⟩ (by simp only; omega) (by simp only; omega) (by simp only; omega) (by simp only; omega) ha hb
  have c6 := w_wrong14 ⟨n, c, b, a, !prior, nodeAt n b.path⟩ (by simp only; omega) (by simp only; omega) (by simp only; omega) (by simp only; omega) hb ha
  obtain ⟨R, hR⟩ : ∃ R, standsP n c a b prior = R := ⟨_, rfl⟩
  rw [hR]
  unfold standsP at hR
  have e : ∀ p, nodeAtP n p = nodeAt n p := fun _ => rfl
  rw [e, e] at hR
  clear hx hy tx ty fa fb hs hs2
  generalize nodeAt n a.path = X at c3 c5 hR
  generalize nodeAt n b.path = Y at c4 c6 hR
  generalize ValidE n a = va at c1 hR
  generalize ValidE n b = vb at c2 hR
  generalize wrongP ⟨n, c, a, b, prior, X⟩ = w1 at c5 hR
  generalize wrongP ⟨n, c, b, a, !prior, Y⟩ = w2 at c6 hR
  refine pure_wk (pure_fn 60 Tryz.func95 rfl rfl rfl fun B => ?_)
  show CallThen _ _ _ _ _ _
  refine call_pure c1 rfl ?_
  rintro z rfl
  refine ⟨fun q => go 90 ?_, fun q1 => go 90 ?_⟩
  · exact ⟨trivial, rfl, rfl, rfl, _, .refl _, rfl, congrArg (V.int .u8) (by rw [← hR, decide_eq_false (ne_of' q)]; rfl)⟩
  show CallThen _ _ _ _ _ _
  refine call_pure c2 rfl ?_
  rintro z rfl
  refine ⟨fun q => go 90 ?_, fun q2 => go 90 ?_⟩
  · exact ⟨trivial, rfl, rfl, rfl, _, .refl _, rfl, congrArg (V.int .u8) (by rw [← hR, decide_eq_false (ne_of' q), Bool.and_false]; rfl)⟩
  show CallThen _ _ _ _ _ _
  refine call_pure c3 rfl ?_
  rintro z rfl
  show CallThen _ _ _ _ _ _
  refine call_pure c4 rfl ?_
  rintro z rfl
  show CallThen _ _ _ _ _ _
  refine call_pure c5 rfl ?_
  rintro z rfl
  refine ⟨fun q => go 90 ?_, fun q3 => go 90 ?_⟩
  · exact ⟨trivial, rfl, rfl, rfl, _, .refl _, rfl, congrArg (V.int .u8) (by rw [← hR, decide_eq_true (eq_of' q1), decide_eq_true (eq_of' q2), decide_eq_false (ne_of' q)]; rfl)⟩
  show CallThen _ _ _ _ _ _
  refine call_pure c6 rfl ?_
  rintro z rfl
  exact ⟨trivial, rfl, rfl, rfl, _, .refl _, rfl, congrArg (V.int .u8) (by rw [← hR, decide_eq_true (eq_of' q1), decide_eq_true (eq_of' q2), decide_eq_true (eq_of' q3)]; rfl)⟩
end Bow
/- W102: what stands of operations of all kinds: the document's. -/
namespace Bow
open Go Go.Proofs

set_option maxRecDepth 100000 in
theorem w_cuts14 (p : OpT) (q : List Int) (hp : p.path.length ≤ 1000000) : Pure Tryz.prog 185 [opV p, pathV q] (fun x => x = .bool (cutB p q)) := by
  have c1 := w_refWithin p.path q hp
  refine pure_wk (pure_fn 60 Tryz.func185 rfl rfl rfl fun B => ?_)
  refine ⟨fun g => go 90 ?_, fun g => go 90 ?_⟩
  · show CallThen _ _ _ _ _ _
    refine call_pure c1 rfl ?_
    rintro z rfl
    refine ⟨trivial, rfl, rfl, rfl, leaf_b ?_⟩
    unfold cutB
    rw [g]
    rfl
  · refine ⟨trivial, rfl, rfl, rfl, leaf_ff ?_⟩
    unfold cutB
    rw [g]
    rfl
set_option maxRecDepth 100000 in
theorem w_child14 (c : Tree) (id up : Int) (h2 : c.size ≤ 1000000000) : Pure Tryz.prog 184 [nodeV c, .int .u64 id, .int .u64 up] (fun x => x = underV (underB c id up)) := by
  have c1 := w_refFind c id h2
  unfold underB
  generalize findR c id = r at c1 ⊢
  obtain ⟨y, p, ok⟩ := r
  refine pure_wk (pure_fn 60 Tryz.func184 rfl rfl rfl fun B => ?_)
  show CallThen _ _ _ _ _ _
  refine call_pure c1 rfl ?_
  rintro z rfl
  refine ⟨fun q => go 90 ?_, fun q => go 90 ?_⟩
  · have q : ok = true := q
    refine ⟨fun q2 => go 90 ?_, fun q2 => go 90 ?_⟩
    · have q2 : ¬ c.id = id := ne_of' q2
      refine ⟨trivial, rfl, rfl, rfl, underV (y, decide (p = up)), .refl _, rfl, ?_⟩
      rw [q, decide_eq_false q2]
      rfl
    · have q2 : c.id = id := eq_of' q2
      refine ⟨trivial, rfl, rfl, rfl, underV (y, false), Wk.tup ⟨.refl _, Wk.ff, trivial⟩, rfl, ?_⟩
      rw [q, decide_eq_true q2]
      rfl
  · have q : ok = false := q
    refine ⟨trivial, rfl, rfl, rfl, underV (y, false), Wk.tup ⟨.refl _, Wk.ff, trivial⟩, rfl, ?_⟩
    rw [q]
    rfl
theorem kin_ids : ∀ (t : Tree) (p : Int), (t.kin p).map (fun x => x.1.id) = idsT t := by
  intro t
  induction t using Tree.ind with
  | _ t ih =>
  intro p
  have kids : ∀ (ss : List Tree), (∀ s ∈ ss, s ∈ t.subs) → (kins t.id ss).map (fun x => x.1.id) = idsTs ss := by
    intro ss
    induction ss with
    | nil => intro _; rw [kins, idsTs]; rfl
    | cons s ss ihs =>
      intro hss
      rw [kins, List.map_append, ih s (hss s (by simp)), ihs (fun z hz => hss z (by simp [hz])), idsTs]
  rw [kin_eq, List.map_cons, kids t.subs fun _ h => h]
  cases t
  rw [idsT]
  rfl
def goneAll (c : Tree) (l : List Int) : Bool := l.all fun id => !(findR c id).2.2
theorem drop_ids (b : Bes) : dropB b = goneAll b.c (idsT b.x) := by
  unfold dropB goneAll
  rw [← kin_ids b.x 0, List.all_map]
  rfl
set_option maxHeartbeats 2000000 in
set_option maxRecDepth 100000 in
theorem w_deleted14 (c x : Tree) (h1 : x.weight ≤ 1000000) (h2 : c.size ≤ 1000000000) : Pure Tryz.prog 186 [nodeV c, nodeV x] (fun z => z = .bool (goneAll c (idsT x))) := by
  have c1 := w_refIDs x h1
  have hil := idsT_len x
  have hsz := size_le_weight x
  have hwt := h1
  generalize idsT x = l at c1 hil ⊢
  have hl : l.length ≤ 1000000 := by omega
  clear hil hsz hwt
  refine pure_wk (pure_fn 60 Tryz.func186 rfl rfl rfl fun B => ?_)
  show CallThen _ _ _ _ _ _
  refine call_pure c1 rfl ?_
  rintro z rfl
  show Goes _ _ _ _
  refine goes_iter (ι := Nat) (fun i => i ≤ l.length ∧ goneAll c (l.drop i) = goneAll c l) (fun i => l.length - i) (fun i => [(6, .int .i64 i), (5, idsV l), (2, .ptr (.loc 0) 0)]) (fun _ => [some (.box (nodeV c).cells)]) 0 60 (fun _ => rfl) (fun _ => rfl) ⟨⟨Nat.zero_le _, rfl⟩, ⟨⟨rfl, rfl⟩, ⟨rfl, rfl⟩, ⟨rfl, rfl⟩, trivial⟩, ⟨⟨rfl, rfl⟩, trivial⟩⟩ ?_
  rintro i ⟨k1, k2⟩ next
  refine ⟨fun hlt => go 90 ?_, fun hge => go 90 ?_⟩
  · have hi : i < l.length := by simpa using hlt
    have hx : (l.map idV)[i]? = some (idV l[i]) := by simp [hi]
    have cf := w_refFind c l[i] h2
    rw [drop_cons hi] at k2
    unfold goneAll at k2
    rw [List.all_cons] at k2
    generalize findR c l[i] = r at cf k2
    obtain ⟨r1, r2, r3⟩ := r
    show Goes _ _ _ _
    refine goes_draw 60 ⟨Int.natCast_nonneg i, _, hx, _, cf, rfl, ?_⟩
    refine ⟨by kernel_rfl, ?_⟩
    refine ⟨by kernel_rfl, ?_⟩
    cases r3
    · refine ⟨fun q => (by cases q), fun _ => go 90 ?_⟩
      refine ⟨by constructor <;> omega, ?_⟩
      show Goes _ _ _ _
      exact next (i + 1) _ _ ⟨⟨hi, k2⟩, by omega, ⟨⟨rfl, rfl⟩, ⟨rfl, rfl⟩, ⟨rfl, rfl⟩, trivial⟩, ⟨⟨rfl, rfl⟩, trivial⟩⟩
    · refine ⟨fun _ => go 90 ?_, fun q => (by cases q)⟩
      exact ⟨trivial, rfl, rfl, rfl, leaf_ff k2.symm⟩
  · have hi : l.length ≤ i := by simpa using hge
    rw [List.drop_eq_nil_of_le hi] at k2
    exact ⟨trivial, rfl, rfl, rfl, leaf_tt k2.symm⟩
theorem w_refAtB (t : Tree) (p : List Int) (hp : p.length ≤ 1000000) : Pure Tryz.prog 77 [nodeV t, pathV p] (fun x => x = .tup [nodeV (nodeAt t p), .bool (atT t p).isSome]) := by
  refine pure_wk ((w_refAt t p hp).mono fun x hx => ⟨_, ?_, ?_, rfl⟩)
  · rw [hx]
    unfold nodeAt
    cases atT t p with
    | none => exact Wk.tup ⟨.refl _, Wk.ff, trivial⟩
    | some s => exact Wk.tup ⟨.refl _, Wk.tt, trivial⟩
  · rfl
set_option maxHeartbeats 2000000 in
set_option maxRecDepth 100000 in
theorem w_moved14 (n c : Tree) (o p : OpT) (prior : Bool) (hk : o.kind = 3) (ho : o.Ok) (hq : p.Ok) (h2 : c.size ≤ 1000000000) : Pure Tryz.prog 187 [nodeV n, nodeV c, opV o, opV p, .bool prior] (fun z => z = .bool (moveB ⟨n, c, o, p, prior, nodeAt n o.path⟩)) := by
  have c1 := w_cuts14 p o.path hq.lt.path
  have c2 := w_cuts14 p o.to hq.lt.path
  have c3 := w_refSame p.path o.path hq.lt.path
  have c4 := w_refWithin o.path p.to ho.lt.path
  have c5 := w_refWithin p.path o.to hq.lt.path
  have c6 := w_refAtB n o.path ho.lt.path
  have c7 := w_refAtB n o.to ho.lt.to
  have c8 := w_child14 c (nodeAt n o.path).id (nodeAt n o.to).id h2
  obtain ⟨R, hR⟩ : ∃ R, moveB ⟨n, c, o, p, prior, nodeAt n o.path⟩ = R := ⟨_, rfl⟩
  rw [hR]
  unfold moveB lostB ringB at hR
  have e : nodeAtP n o.to = nodeAt n o.to := rfl
  simp only [e, hk] at hR
  generalize underB c (nodeAt n o.path).id (nodeAt n o.to).id = r at c8 hR
  generalize nodeAt n o.path = X at c6 c8
  generalize nodeAt n o.to = Y at c7 c8
  generalize (atT n o.path).isSome = s1 at c6
  generalize (atT n o.to).isSome = s2 at c7
  generalize cutB p o.path = g1 at c1 hR
  generalize cutB p o.to = g2 at c2 hR
  generalize within o.path p.to = g3 at c4 hR
  generalize within p.path o.to = g4 at c5 hR
  obtain ⟨y, ok⟩ := r
  simp only at hR
  refine pure_wk (pure_fn 60 Tryz.func187 rfl rfl rfl fun B => ?_)
  repeat' first
    | refine ⟨fun _ => go 90 ?_, fun _ => go 90 ?_⟩
    | (show CallThen _ _ _ _ _ _; refine call_pure c1 rfl ?_; rintro z rfl)
    | (show CallThen _ _ _ _ _ _; refine call_pure c2 rfl ?_; rintro z rfl)
    | (show CallThen _ _ _ _ _ _; refine call_pure c3 rfl ?_; rintro z rfl)
    | (show CallThen _ _ _ _ _ _; refine call_pure c4 rfl ?_; rintro z rfl)
    | (show CallThen _ _ _ _ _ _; refine call_pure c5 rfl ?_; rintro z rfl)
    | (show CallThen _ _ _ _ _ _; refine call_pure c6 rfl ?_; rintro z rfl)
    | (show CallThen _ _ _ _ _ _; refine call_pure c7 rfl ?_; rintro z rfl)
    | (show CallThen _ _ _ _ _ _; refine call_pure c8 rfl ?_; rintro z rfl)
    | exact ⟨trivial, rfl, rfl, rfl, leaf_tt (by rw [← hR]; simp_all)⟩
    | exact ⟨trivial, rfl, rfl, rfl, leaf_ff (by rw [← hR]; simp_all)⟩
    | exact ⟨trivial, rfl, rfl, rfl, leaf_b (by rw [← hR]; simp_all)⟩
end Bow
/- W103: what stands of two operations: the document's. -/
namespace Bow
open Go Go.Proofs

set_option maxHeartbeats 2000000 in
set_option maxRecDepth 100000 in
theorem w_text14 (n c : Tree) (o p : OpT) (prior : Bool) (ho : o.Ok) (hq : p.Ok) (h2 : c.size ≤ 1000000000) (hx : (nodeAt n o.path).text.length ≤ 900000000) : Pure Tryz.prog 188 [nodeV n, nodeV c, opV o, opV p, .bool prior] (fun z => z = .bool (editB ⟨n, c, o, p, prior, nodeAt n o.path⟩)) := by
  have c1 := w_cuts14 p o.path hq.lt.path
  have c2 := w_refAtB n o.path ho.lt.path
  obtain ⟨R, hR⟩ : ∃ R, editB ⟨n, c, o, p, prior, nodeAt n o.path⟩ = R := ⟨_, rfl⟩
  rw [hR]
  unfold editB wantB at hR
  simp only at hR
  generalize nodeAt n o.path = X at c2 hR hx
  generalize (atT n o.path).isSome = s1 at c2
  have tr := trans_right o.pieces p.pieces prior
  have rb := right_bounds tr.2
  have al := applyE_len X.text o.pieces
  have c3 := w_refEdit X.text o.pieces (by omega) ho.lt.pieces (puts_le_all ho.puts)
  have c4 := w_refSame p.path o.path hq.lt.path
  have c5 := w_ref5Trans o.pieces p.pieces prior ho.lt.pieces hq.lt.pieces (puts_le_all ho.puts) (puts_le_all hq.puts)
  have c6 := w_refEdit (applyE X.text o.pieces).1 (transP o.pieces p.pieces prior).2.1 (by omega) (by omega) rb.2
  have c7 := w_refFind c X.id h2
  clear tr rb al
  generalize applyE (applyE X.text o.pieces).1 (transP o.pieces p.pieces prior).2.1 = w2 at c6 hR
  generalize applyE X.text o.pieces = w1 at c3 c6 hR
  generalize transP o.pieces p.pieces prior = tt at c5 c6 hR
  generalize findR c X.id = r at c7 hR
  generalize cutB p o.path = g1 at c1 hR
  obtain ⟨w1, e1⟩ := w1
  obtain ⟨w2, e2⟩ := w2
  obtain ⟨t1, t2, t3⟩ := tt
  obtain ⟨y, up, ok⟩ := r
  simp only at hR c6
  refine pure_wk (pure_fn 60 Tryz.func188 rfl rfl rfl fun B => ?_)
  repeat' first
    | refine ⟨fun _ => go 90 ?_, fun _ => go 90 ?_⟩
    | (show CallThen _ _ _ _ _ _; refine call_pure c1 rfl ?_; rintro z rfl)
    | (show CallThen _ _ _ _ _ _; refine call_pure c2 rfl ?_; rintro z rfl)
    | (show CallThen _ _ _ _ _ _; refine call_pure c3 rfl ?_; rintro z rfl)
    | (show CallThen _ _ _ _ _ _; refine call_pure c4 rfl ?_; rintro z rfl)
    | (show CallThen _ _ _ _ _ _; refine call_pure c5 rfl ?_; rintro z rfl)
    | (show CallThen _ _ _ _ _ _; refine call_pure c6 rfl ?_; rintro z rfl)
    | (show CallThen _ _ _ _ _ _; refine call_pure c7 rfl ?_; rintro z rfl)
    | exact ⟨trivial, rfl, rfl, rfl, leaf_tt (by rw [← hR]; simp_all)⟩
    | exact ⟨trivial, rfl, rfl, rfl, leaf_ff (by rw [← hR]; simp_all)⟩
    | exact ⟨trivial, rfl, rfl, rfl, leaf_b (by rw [← hR]; simp_all)⟩
set_option maxHeartbeats 4000000 in
set_option maxRecDepth 100000 in
theorem w_refSet14 (n c : Tree) (o p : OpT) (prior : Bool) (hk : o.kind = 4 ∨ o.kind = 5) (ho : o.Ok) (hq : p.Ok) (h2 : c.size ≤ 1000000000) (ha : (findR c (nodeAt n o.path).id).1.attrs.length ≤ 1000000) : Pure Tryz.prog 189 [nodeV n, nodeV c, opV o, opV p, .bool prior] (fun z => z = .bool (setB ⟨n, c, o, p, prior, nodeAt n o.path⟩)) := by
  have c1 := w_cuts14 p o.path hq.lt.path
  have c2 := w_refSame p.path o.path hq.lt.path
  have c3 := w_refAtB n o.path ho.lt.path
  obtain ⟨R, hR⟩ : ∃ R, setB ⟨n, c, o, p, prior, nodeAt n o.path⟩ = R := ⟨_, rfl⟩
  rw [hR]
  unfold setB lostB at hR
  simp only at hR
  generalize nodeAt n o.path = X at c3 hR ha
  generalize (atT n o.path).isSome = s1 at c3
  have c4 := w_refFind c X.id h2
  have c5 := w_refAttr (findR c X.id).1 o.key ha
  clear ha
  generalize attrP (findR c X.id).1.attrs o.key = av at c5 hR
  generalize findR c X.id = r at c4 c5 hR
  generalize cutB p o.path = g1 at c1 hR
  obtain ⟨y, up, ok⟩ := r
  obtain ⟨v, has⟩ := av
  simp only at hR c5
  refine pure_wk (pure_fn 60 Tryz.func189 rfl rfl rfl fun B => ?_)
  have fin4 : o.kind = 4 → decide (o.kind = 4) = true ∧ decide (o.kind = 5) = false := fun h => by rw [h]; exact ⟨rfl, rfl⟩
  have fin5 : o.kind = 5 → decide (o.kind = 4) = false ∧ decide (o.kind = 5) = true := fun h => by rw [h]; exact ⟨rfl, rfl⟩
  repeat' first
    | refine ⟨fun _ => go 90 ?_, fun _ => go 90 ?_⟩
    | (show CallThen _ _ _ _ _ _; refine call_pure c1 rfl ?_; rintro z rfl)
    | (show CallThen _ _ _ _ _ _; refine call_pure c2 rfl ?_; rintro z rfl)
    | (show CallThen _ _ _ _ _ _; refine call_pure c3 rfl ?_; rintro z rfl)
    | (show CallThen _ _ _ _ _ _; refine call_pure c4 rfl ?_; rintro z rfl)
    | (show CallThen _ _ _ _ _ _; refine call_pure c5 rfl ?_; rintro z rfl)
    | exact ⟨trivial, rfl, rfl, rfl, leaf_tt (by rw [← hR]; rcases hk with hk | hk <;> simp_all)⟩
    | exact ⟨trivial, rfl, rfl, rfl, leaf_ff (by rw [← hR]; rcases hk with hk | hk <;> simp_all)⟩
    | exact ⟨trivial, rfl, rfl, rfl, leaf_b (by rw [← hR]; rcases hk with hk | hk <;> simp_all)⟩
set_option maxHeartbeats 4000000 in
set_option maxRecDepth 100000 in
theorem w_refWrong14 (n c : Tree) (o p : OpT) (prior : Bool) (hk : 1 ≤ o.kind ∧ o.kind ≤ 6) (ho : o.Ok) (hq : p.Ok) (hn : n.weight ≤ 1000000) (hc : c.weight ≤ 1000000) :
    Pure Tryz.prog 145 [nodeV n, nodeV c, opV o, opV p, .bool prior] (fun z => z = .int .u8 (wrongP ⟨n, c, o, p, prior, nodeAt n o.path⟩)) := by
  have hs2 := size_le_weight c
  have tx := nodeAt_text n o.path
  have fa := found_attrs c (nodeAt n o.path).id
  have wx : (nodeAt n o.path).weight ≤ 1000000 := by
    unfold nodeAt
    cases h : atT n o.path with
    | none => decide
    | some s => have := atT_weight h; simp only [Option.getD_some]; omega
  have c1 := w_refAtB n o.path ho.lt.path
  have c2 := w_child14 c o.id (nodeAt n o.path).id (by omega)
  have c3 := w_cuts14 p o.path hq.lt.path
  have c4 := w_deleted14 c (nodeAt n o.path) wx (by omega)
  have c5 : o.kind = 3 → _ := fun h => w_moved14 n c o p prior h ho hq (by omega)
  have c6 := w_text14 n c o p prior ho hq (by omega) (by omega)
  have c7 : (o.kind = 4 ∨ o.kind = 5) → _ := fun h => w_refSet14 n c o p prior h ho hq (by omega) (by omega)
  obtain ⟨R, hR⟩ : ∃ R, wrongP ⟨n, c, o, p, prior, nodeAt n o.path⟩ = R := ⟨_, rfl⟩
  rw [hR]
  unfold wrongP insertB at hR
  rw [drop_ids] at hR
  simp only at hR
  clear hs2 tx fa wx
  generalize moveB ⟨n, c, o, p, prior, nodeAt n o.path⟩ = d3 at c5 hR
  generalize editB ⟨n, c, o, p, prior, nodeAt n o.path⟩ = d4 at c6 hR
  generalize setB ⟨n, c, o, p, prior, nodeAt n o.path⟩ = d5 at c7 hR
  generalize nodeAt n o.path = X at c1 c2 c4 hR
  generalize (atT n o.path).isSome = s1 at c1
  generalize underB c o.id X.id = r at c2 hR
  generalize goneAll c (idsT X) = d2 at c4 hR
  generalize cutB p o.path = g1 at c3 hR
  obtain ⟨y, ok⟩ := r
  simp only at hR
  refine pure_fn 60 Tryz.func145 rfl rfl rfl fun B => ?_
  show CallThen _ _ _ _ _ _
  refine call_pure c1 rfl ?_
  rintro z rfl
  refine ⟨fun q1 => go 90 ?_, fun q1 => go 90 ?_⟩
  · have q1 : o.kind = 1 := of_decide_eq_true q1
    rw [q1] at hR
    simp only [decide_true, cond_true] at hR
    show CallThen _ _ _ _ _ _
    refine call_pure c2 rfl ?_
    rintro z rfl
    show CallThen _ _ _ _ _ _
    refine call_pure c3 rfl ?_
    rintro z rfl
    clear c5 c7 hk q1
    repeat' first
      | refine ⟨fun _ => go 90 ?_, fun _ => go 90 ?_⟩
      | exact ⟨trivial, rfl, rfl, rfl, congrArg (V.int .u8) (by rw [← hR]; simp_all)⟩
  have q1 : ¬ o.kind = 1 := of_decide_eq_false q1
  rw [decide_eq_false q1] at hR
  refine ⟨fun q2 => go 90 ?_, fun q2 => go 90 ?_⟩
  · have q2 : o.kind = 2 := of_decide_eq_true q2
    rw [decide_eq_true q2] at hR
    show CallThen _ _ _ _ _ _
    refine call_pure c4 rfl ?_
    rintro z rfl
    refine ⟨fun a => go 90 ?_, fun a => go 90 ?_⟩
    · exact ⟨trivial, rfl, rfl, rfl, congrArg (V.int .u8) (by rw [← hR]; simp_all)⟩
    · exact ⟨trivial, rfl, rfl, rfl, congrArg (V.int .u8) (by rw [← hR]; simp_all)⟩
  have q2 : ¬ o.kind = 2 := of_decide_eq_false q2
  rw [decide_eq_false q2] at hR
  refine ⟨fun q3 => go 90 ?_, fun q3 => go 90 ?_⟩
  · have q3 : o.kind = 3 := of_decide_eq_true q3
    rw [decide_eq_true q3] at hR
    have c5 := c5 q3
    show CallThen _ _ _ _ _ _
    refine call_pure c5 rfl ?_
    rintro z rfl
    refine ⟨fun a => go 90 ?_, fun a => go 90 ?_⟩
    · exact ⟨trivial, rfl, rfl, rfl, congrArg (V.int .u8) (by rw [← hR]; simp_all)⟩
    · exact ⟨trivial, rfl, rfl, rfl, congrArg (V.int .u8) (by rw [← hR]; simp_all)⟩
  have q3 : ¬ o.kind = 3 := of_decide_eq_false q3
  rw [decide_eq_false q3] at hR
  refine ⟨fun q4 => go 90 ?_, fun q4 => go 90 ?_⟩
  · have q4 : o.kind = 6 := of_decide_eq_true q4
    rw [decide_eq_true q4] at hR
    show CallThen _ _ _ _ _ _
    refine call_pure c6 rfl ?_
    rintro z rfl
    refine ⟨fun a => go 90 ?_, fun a => go 90 ?_⟩
    · exact ⟨trivial, rfl, rfl, rfl, congrArg (V.int .u8) (by rw [← hR]; simp_all)⟩
    · exact ⟨trivial, rfl, rfl, rfl, congrArg (V.int .u8) (by rw [← hR]; simp_all)⟩
  have q4 : ¬ o.kind = 6 := of_decide_eq_false q4
  rw [decide_eq_false q4] at hR
  have c7 := c7 (by omega)
  show CallThen _ _ _ _ _ _
  refine call_pure c7 rfl ?_
  rintro z rfl
  refine ⟨fun a => go 90 ?_, fun a => go 90 ?_⟩
  · exact ⟨trivial, rfl, rfl, rfl, congrArg (V.int .u8) (by rw [← hR]; simp_all)⟩
  · exact ⟨trivial, rfl, rfl, rfl, congrArg (V.int .u8) (by rw [← hR]; simp_all)⟩
theorem good_kind {t : Tree} {o : OpT} (h : ValidE t o = 0) : 1 ≤ o.kind ∧ o.kind ≤ 6 := by
  cases good_of h <;> omega
set_option maxHeartbeats 2000000 in
set_option maxRecDepth 100000 in
theorem w_refStands14 (n c : Tree) (a b : OpT) (prior : Bool) (hn : n.weight ≤ 1000000) (hc : c.weight ≤ 1000000) (ha : a.Ok) (hb : b.Ok) :
    Pure Tryz.prog 104 [nodeV n, nodeV c, opV a, opV b, .bool prior] (fun x => x = .int .u8 (standsP n c a b prior)) := by
  have c1 := w_refValid n a hn ha
  have c2 := w_refValid n b hn hb
  have c5 : ValidE n a = 0 → _ := fun h => w_refWrong14 n c a b prior (good_kind h) ha hb hn hc
  have c6 : ValidE n b = 0 → _ := fun h => w_refWrong14 n c b a (!prior) (good_kind h) hb ha hn hc
  obtain ⟨R, hR⟩ : ∃ R, standsP n c a b prior = R := ⟨_, rfl⟩
  rw [hR]
  unfold standsP at hR
  have e : ∀ p, nodeAtP n p = nodeAt n p := fun _ => rfl
  rw [e, e] at hR
  generalize wrongP ⟨n, c, a, b, prior, nodeAt n a.path⟩ = w1 at c5 hR
  generalize wrongP ⟨n, c, b, a, !prior, nodeAt n b.path⟩ = w2 at c6 hR
  generalize ValidE n a = va at c1 c5 hR
  generalize ValidE n b = vb at c2 c6 hR
  refine pure_wk (pure_fn 60 Tryz.func104 rfl rfl rfl fun B => ?_)
  show CallThen _ _ _ _ _ _
  refine call_pure c1 rfl ?_
  rintro z rfl
  refine ⟨fun q => go 90 ?_, fun q1 => go 90 ?_⟩
  · exact ⟨trivial, rfl, rfl, rfl, _, .refl _, rfl, congrArg (V.int .u8) (by rw [← hR, decide_eq_false (ne_of' q)]; rfl)⟩
  show CallThen _ _ _ _ _ _
  refine call_pure c2 rfl ?_
  rintro z rfl
  refine ⟨fun q => go 90 ?_, fun q2 => go 90 ?_⟩
  · exact ⟨trivial, rfl, rfl, rfl, _, .refl _, rfl, congrArg (V.int .u8) (by rw [← hR, decide_eq_false (ne_of' q), Bool.and_false]; rfl)⟩
  show CallThen _ _ _ _ _ _
  refine call_pure (c5 (eq_of' q1)) rfl ?_
  rintro z rfl
  refine ⟨fun q => go 90 ?_, fun q3 => go 90 ?_⟩
  · exact ⟨trivial, rfl, rfl, rfl, _, .refl _, rfl, congrArg (V.int .u8) (by rw [← hR, decide_eq_true (eq_of' q1), decide_eq_true (eq_of' q2), decide_eq_false (ne_of' q)]; rfl)⟩
  show CallThen _ _ _ _ _ _
  refine call_pure (c6 (eq_of' q2)) rfl ?_
  rintro z rfl
  exact ⟨trivial, rfl, rfl, rfl, _, .refl _, rfl, congrArg (V.int .u8) (by rw [← hR, decide_eq_true (eq_of' q1), decide_eq_true (eq_of' q2), decide_eq_true (eq_of' q3)]; rfl)⟩
end Bow
/- W96: the examples of chapter 14; the law EffectsFind. -/
namespace Bow
open Go Go.Proofs

def ex14N : Tree := .mk 1 false [114] [] [] [.mk 2 false [97] [] [] [.mk 3 false [120] [] [] []], .mk 4 false [98] [] [] []]
def ex14Z : Tree := .mk 1 false [] [] [] [.mk 4 false [122] [] [] []]
def ex14D : OpT := { noOp 2 with path := [0] }
def ex14L : OpT := { noOp 5 with path := [0, 0], label := [121] }
def ex14P : OpT := { noOp 5 with path := [1], label := [112] }
def ex14Q : OpT := { noOp 5 with path := [1], label := [113] }
def ex14M : OpT := { noOp 3 with path := [0], to := [1] }
def ex14O : OpT := { noOp 3 with path := [1], to := [0] }
def ex14A : Tree := .mk 1 false [114] [] [] [.mk 4 false [98] [] [] []]
def ex14B : Tree := .mk 1 false [114] [] [] [.mk 2 false [97] [] [] [.mk 3 false [120] [] [] []], .mk 4 false [112] [] [] []]
def ex14C : Tree := .mk 1 false [114] [] [] [.mk 2 false [97] [] [] [.mk 4 false [98] [] [] [], .mk 3 false [120] [] [] []]]
set_option maxRecDepth 100000 in
theorem ex14_a : cornerT ex14N ex14D ex14L true = (ex14A, 0) := by kernel_rfl
set_option maxRecDepth 100000 in
theorem ex14_b : cornerT ex14N ex14P ex14Q true = (ex14B, 0) := by kernel_rfl
set_option maxRecDepth 100000 in
theorem ex14_c : cornerT ex14N ex14M ex14O false = (ex14C, 0) := by kernel_rfl
set_option maxRecDepth 100000 in
theorem ex14_d : standsT ex14N ex14A ex14D ex14L true = 0 := by kernel_rfl
set_option maxRecDepth 100000 in
theorem ex14_e : standsT ex14N ex14Z ex14P ex14Q true = 5 := by kernel_rfl
set_option maxRecDepth 100000 in
theorem ex14_f : findR ex14C 4 = (.mk 4 false [98] [] [] [], 2, true) := by kernel_rfl
theorem ok14 {o : OpT} (h : smallO o = true) : o.Ok ∧ o.to.length ≤ 1000 := ⟨small_ok h, by have := small_to h; omega⟩

theorem cw14 {t : Tree} {a b : OpT} {prior : Bool} {r : Tree} (h : cornerT t a b prior = (r, 0)) (ht : t.weight ≤ 100000) (ha : smallO a = true) (hb : smallO b = true) (hc : (decide ((applyR t a).1.weight + costs (bothX a b prior).2.1 ≤ 400000) && decide ((bothX a b prior).2.1.length ≤ 1000000) && (bothX a b prior).2.1.all smallO) = true) :
    Pure Tryz.prog 38 [nodeV t, opV a, opV b, .bool prior] (fun x => x = cornerV (r, 0)) := by
  simp only [Bool.and_eq_true, decide_eq_true_eq] at hc
  obtain ⟨⟨h1, h2⟩, h3⟩ := hc
  rw [← h]
  exact w_Corner t a b prior ht (ok14 ha).1 (ok14 hb).1 ⟨(ok14 ha).2, (ok14 hb).2⟩ h1 h2 (ok_all h3)
set_option maxRecDepth 100000 in
theorem w14a : Pure Tryz.prog 38 [nodeV ex14N, opV ex14D, opV ex14L, .bool true] (fun x => x = cornerV (ex14A, 0)) := cw14 ex14_a (by decide) (by decide) (by decide) (by decide +kernel)
set_option maxRecDepth 100000 in
theorem w14b : Pure Tryz.prog 38 [nodeV ex14N, opV ex14P, opV ex14Q, .bool true] (fun x => x = cornerV (ex14B, 0)) := cw14 ex14_b (by decide) (by decide) (by decide) (by decide +kernel)
set_option maxRecDepth 100000 in
theorem w14c : Pure Tryz.prog 38 [nodeV ex14N, opV ex14M, opV ex14O, .bool false] (fun x => x = cornerV (ex14C, 0)) := cw14 ex14_c (by decide) (by decide) (by decide) (by decide +kernel)
theorem w14d : Pure Tryz.prog 95 [nodeV ex14N, nodeV ex14A, opV ex14D, opV ex14L, .bool true] (fun x => x = .int .u8 0) := by
  rw [← ex14_d]
  exact w_Stands _ _ _ _ _ (by decide) (by decide) (by decide) (ok14 (by decide)).1 (ok14 (by decide)).1 (.inl rfl) (.inr rfl)
theorem w14e : Pure Tryz.prog 95 [nodeV ex14N, nodeV ex14Z, opV ex14P, opV ex14Q, .bool true] (fun x => x = .int .u8 5) := by
  rw [← ex14_e]
  exact w_Stands _ _ _ _ _ (by decide) (by decide) (by decide) (ok14 (by decide)).1 (ok14 (by decide)).1 (.inr rfl) (.inr rfl)
theorem w14f : Pure Tryz.prog 43 [nodeV ex14C, .int .u64 4] (fun x => x = findV (.mk 4 false [98] [] [] [], 2, true)) := by
  rw [← ex14_f]
  exact w_Find _ _ (by decide)

def opC (k : Int) (pt to : V) (s : List UInt8) : List V := [.int .u8 k, pt, .int .i64 0, to, .int .u64 0, .ff, .str s, .str [], .str [], .ff, .nilsl]
theorem wk_opC {k : Int} {pt to : V} {s : List UInt8} {p q : List Int} (hp : Wk pt (pathV p)) (hq : Wk to (pathV q)) : WkL (opC k pt to s) (opV { noOp k with path := p, to := q, label := s }).cells :=
  ⟨.refl _, hp, .refl _, hq, .refl _, Wk.ff, .refl _, .refl _, .refl _, Wk.ff, Wk.nil 3, trivial⟩
theorem wk_ex14N : WkL [.int .u64 1, .ff, .str [114], .nilsl, .str [], .sl 6 [.agg [.int .u64 2, .ff, .str [97], .nilsl, .str [], .sl 6 [.agg [.int .u64 3, .ff, .str [120], .nilsl, .str [], .nilsl]]], .agg [.int .u64 4, .ff, .str [98], .nilsl, .str [], .nilsl]]] (nodeV ex14N).cells :=
  wkL_mk Wk.ff (Wk.nil 2) (Wk.sl ⟨⟨wkL_mk Wk.ff (Wk.nil 2) (Wk.sl ⟨⟨wkL_mk Wk.ff (Wk.nil 2) (Wk.nil 6), okE_node _⟩, trivial⟩), okE_node _⟩, ⟨wkL_mk Wk.ff (Wk.nil 2) (Wk.nil 6), okE_node _⟩, trivial⟩)
theorem wk_ex14Z : WkL [.int .u64 1, .ff, .str [], .nilsl, .str [], .sl 6 [.agg [.int .u64 4, .ff, .str [122], .nilsl, .str [], .nilsl]]] (nodeV ex14Z).cells :=
  wkL_mk Wk.ff (Wk.nil 2) (Wk.sl ⟨⟨wkL_mk Wk.ff (Wk.nil 2) (Wk.nil 6), okE_node _⟩, trivial⟩)
set_option maxHeartbeats 4000000 in
set_option maxRecDepth 100000 in
theorem w_works14 : Pure Tryz.prog 35 [] (fun x => x = .bool true) := by
  refine pure_wk (pure_fn 17 Tryz.func35 rfl rfl rfl fun B => ?_)
  refine ⟨⟨rfl, trivial⟩, rfl, rfl, ⟨rfl, rfl, trivial⟩, ?_⟩
  show Goes _ _ _ _
  refine goes_freezeIn 1 [2] rfl rfl rfl ?_
  show Goes _ _ _ _
  refine goes_wkbox 2 (nodeV ex14N).cells rfl rfl rfl wk_ex14N ?_
  refine go 11 ?_
  refine ⟨⟨rfl, trivial⟩, ⟨rfl, rfl, trivial⟩, ?_⟩
  show Goes _ _ _ _
  refine goes_freezeIn 3 [5] rfl rfl rfl ?_
  show Goes _ _ _ _
  refine goes_freezeIn 4 [6] rfl rfl rfl ?_
  show Goes _ _ _ _
  refine goes_wkbox 5 (opV ex14D).cells rfl rfl rfl (wk_opC (.refl _) (Wk.nil 1)) ?_
  refine goes_wkbox 6 (opV ex14L).cells rfl rfl rfl (wk_opC (.refl _) (Wk.nil 1)) ?_
  refine go 11 ?_
  refine ⟨⟨rfl, trivial⟩, ⟨rfl, trivial⟩, ?_⟩
  show Goes _ _ _ _
  refine goes_freezeIn 7 [9] rfl rfl rfl ?_
  show Goes _ _ _ _
  refine goes_freezeIn 8 [10] rfl rfl rfl ?_
  show Goes _ _ _ _
  refine goes_wkbox 9 (opV ex14P).cells rfl rfl rfl (wk_opC (.refl _) (Wk.nil 1)) ?_
  refine goes_wkbox 10 (opV ex14Q).cells rfl rfl rfl (wk_opC (.refl _) (Wk.nil 1)) ?_
  refine go 300 ?_
  show CallThen _ _ _ _ _ _
  refine call_pure (pure_args w14a ⟨.refl _, .refl _, .refl _, Wk.tt, trivial⟩ rfl rfl) rfl ?_
  rintro z rfl
  show CallThen _ _ _ _ _ _
  refine call_pure (pure_args w14b ⟨.refl _, .refl _, .refl _, Wk.tt, trivial⟩ rfl rfl) rfl ?_
  rintro z rfl
  refine ⟨⟨rfl, trivial⟩, ?_⟩
  refine ⟨⟨rfl, trivial⟩, ⟨rfl, trivial⟩, ⟨rfl, trivial⟩, ⟨rfl, trivial⟩, ?_⟩
  show CallThen _ _ _ _ _ _
  refine call_pure_frz ?_
  refine ⟨rfl, rfl, rfl, rfl, rfl, rfl, rfl, rfl, _, pure_args w14c ⟨.refl _, Wk.agg (wk_opC (s := []) (.refl _) (.refl _)), Wk.agg (wk_opC (s := []) (.refl _) (.refl _)), Wk.ff, trivial⟩ rfl rfl, rfl, ?_⟩
  rintro z rfl
  show CallThen _ _ _ _ _ _
  refine call_pure w14f rfl ?_
  rintro z rfl
  iterate 3 refine ⟨fun _ => go 60 ?_, fun q => absurd q (by decide)⟩
  refine ⟨fun _ => go 60 ?_, fun q => absurd q (by decide)⟩
  show CallThen _ _ _ _ _ _
  refine call_pure (pure_args w14d ⟨.refl _, .refl _, .refl _, .refl _, Wk.tt, trivial⟩ rfl rfl) rfl ?_
  rintro z rfl
  refine ⟨fun _ => go 60 ?_, fun q => absurd q (by decide)⟩
  refine ⟨fun _ => go 60 ?_, fun q => absurd q (by decide)⟩
  refine ⟨by decide, _, rfl, ?_⟩
  refine ⟨fun _ => go 60 ?_, fun q => absurd q (by decide)⟩
  show CallThen _ _ _ _ _ _
  refine call_pure_frz ?_
  refine ⟨rfl, rfl, _, pure_args w14e ⟨.refl _, Wk.agg wk_ex14Z, .refl _, .refl _, Wk.tt, trivial⟩ rfl rfl, rfl, ?_⟩
  rintro z rfl
  refine ⟨fun _ => go 60 ?_, fun q => absurd q (by decide)⟩
  refine ⟨fun _ => go 60 ?_, fun q => absurd q (by decide)⟩
  refine ⟨fun _ => go 60 ?_, fun q => absurd q (by decide)⟩
  exact ⟨trivial, rfl, rfl, rfl, leaf_b (by decide)⟩

/-! ### The law -/
theorem find_weight (t : Tree) (id : Int) : (findR t id).1.weight ≤ t.weight + 1 := by
  have h : ∀ (t : Tree) (p : Int), ∀ y ∈ t.kin p, y.1.weight ≤ t.weight := by
    intro t
    induction t using Tree.ind with
    | _ t ih =>
    have hk : ∀ (up : Int) (l : List Tree), (∀ s ∈ l, s ∈ t.subs) → ∀ y ∈ kins up l, y.1.weight ≤ t.weight := by
      intro up l
      induction l with
      | nil => intro _ y hy; rw [kins] at hy; cases hy
      | cons s l ihl =>
        intro hl y hy
        rw [kins, List.mem_append] at hy
        rcases hy with hy | hy
        · have h1 := ih s (hl s (by simp)) up y hy
          have h2 := weight_sub (hl s (by simp))
          omega
        · exact ihl (fun z hz => hl z (by simp [hz])) y hy
    intro p y hy
    rw [kin_eq] at hy
    rcases List.mem_cons.1 hy with rfl | hy
    · exact Nat.le_refl _
    · exact hk _ _ (fun _ h => h) y hy
  unfold findR findK
  cases hf : (t.kin 0).find? (fun x => decide (x.1.id = id)) with
  | none => have : zeroT0.weight = 1 := by decide
            simp only; omega
  | some y => have := h t 0 y (List.mem_of_find?_eq_some hf)
              simp only; omega
set_option maxRecDepth 100000 in
theorem w_EffectsFind (t : Tree) (id : Int) (_h : (Lit.int .u64 id).wf = true) : Pure Tryz.prog 7 [nodeV t, .int .u64 id] (fun x => x = .bool true) := by
  have hw := w_works14
  refine pure_wk (pure_fn 60 Tryz.func7 rfl rfl rfl fun B => ?_)
  show CallThen _ _ _ _ _ _
  refine call_pure (w_Weight t 600 (by decide)) rfl ?_
  rintro z ⟨w, rfl, w1, w2, w3⟩
  refine ⟨fun _ => go 60 ?_, fun g0 => go 60 ?_⟩
  · show CallThen _ _ _ _ _ _
    refine call_pure hw rfl ?_
    rintro z rfl
    exact ⟨trivial, rfl, rfl, rfl, leaf_b rfl⟩
  have g0 : t.weight ≤ 600 := by
    have := of_decide_eq_false g0
    have := w3 (by omega)
    omega
  have hs := size_le_weight t
  have c1 := w_Find t id (by omega)
  have c2 := w_refFind t id (by omega)
  have fw := find_weight t id
  generalize findR t id = r at c1 c2 fw
  obtain ⟨r1, r2, r3⟩ := r
  simp only at fw
  have c3 := w_refSameT r1 r1 (by omega)
  rw [sameT_refl] at c3
  show CallThen _ _ _ _ _ _
  refine call_pure c1 rfl ?_
  rintro z rfl
  show CallThen _ _ _ _ _ _
  refine call_pure c2 rfl ?_
  rintro z rfl
  refine ⟨fun _ => go 60 ?_, fun q => absurd q (by simp)⟩
  refine ⟨fun _ => go 60 ?_, fun q => absurd q (by simp)⟩
  show CallThen _ _ _ _ _ _
  refine call_pure c3 rfl ?_
  rintro z rfl
  refine ⟨fun _ => go 60 ?_, fun q => (by cases q)⟩
  show CallThen _ _ _ _ _ _
  refine call_pure hw rfl ?_
  rintro z rfl
  exact ⟨trivial, rfl, rfl, rfl, leaf_b rfl⟩
end Bow
/- SP38: what edits behind each other put in; what becomes of operations costs no more than they. -/
namespace Bow
open Go

theorem putsLen_app : ∀ a b : List PieceT, putsLen (a ++ b) = putsLen a + putsLen b
  | [], b => by simp [putsLen]
  | p :: a, b => by
    have := putsLen_app a b
    simp only [List.cons_append, putsLen, List.foldr_cons] at this ⊢
    omega
theorem putsLen_one (p : PieceT) : putsLen [p] = p.put.length := by simp [putsLen]
theorem putsLen_two (p : PieceT) (l : List PieceT) : putsLen (p :: l) = p.put.length + putsLen l := rfl
theorem Mk.last_puts (m : Mk) : putsLen m.last.l = putsLen m.l := by
  unfold Mk.last
  cases decide (0 < m.keep) || m.l.isEmpty with
  | true => simp only [cond_true]; rw [putsLen_app, putsLen_one]; rfl
  | false => rfl
theorem modL_puts (s : List UInt8) : ∀ {l : List PieceT}, l ≠ [] → putsLen (modL (fun p => { p with put := p.put ++ s }) l) = putsLen l + s.length
  | [], h => absurd rfl h
  | [p], _ => by rw [modL, putsLen_one, putsLen_one, List.length_append]
  | p :: q :: r, _ => by
    rw [modL, putsLen_two, putsLen_two p, modL_puts s (l := q :: r) (by simp)]
    omega
theorem modL_drops (n : Int) : ∀ l : List PieceT, putsLen (modL (fun p => { p with drop := p.drop + n }) l) = putsLen l
  | [] => rfl
  | [p] => by rw [modL, putsLen_one, putsLen_one]
  | p :: q :: r => by rw [modL, putsLen_two, putsLen_two p, modL_drops n (q :: r)]
theorem Mk.put_puts (s : List UInt8) (m : Mk) : putsLen (m.put s).l = putsLen m.l + s.length := by
  unfold Mk.put
  cases h : s.isEmpty with
  | true =>
    rw [List.isEmpty_iff] at h
    subst h
    rfl
  | false =>
    simp only [cond_false]
    rw [modL_puts s m.last_ne, m.last_puts]
theorem Mk.drop_puts (n : Int) (m : Mk) : putsLen (m.drop n).l = putsLen m.l := by
  unfold Mk.drop
  cases decide (0 < n) with
  | true => simp only [cond_true]; rw [modL_drops, m.last_puts]
  | false => rfl
theorem Mk.piece_puts (m : Mk) (p : PieceT) : putsLen (m.piece p).l = putsLen m.l + p.put.length := by
  unfold Mk.piece
  rw [Mk.drop_puts, Mk.put_puts]
  rfl
theorem foldl_puts : ∀ (l : List PieceT) (m : Mk), putsLen (l.foldl Mk.piece m).l = putsLen m.l + putsLen l
  | [], m => by simp [putsLen]
  | p :: l, m => by
    rw [List.foldl_cons, foldl_puts l, Mk.piece_puts, putsLen_two]
    omega
theorem norm_puts (l : List PieceT) : putsLen (normP l) = putsLen l := by
  unfold normP
  rw [foldl_puts]
  simp [Mk.nil, putsLen]
theorem rowPut_puts (l : List PieceT) : (rowPut l).1.length + putsLen (rowPut l).2 = putsLen l := by
  cases l with
  | nil => rfl
  | cons p r =>
    have e : rowPut (p :: r) = bif decide (0 < p.keep) || p.put.isEmpty then ([], p :: r) else (p.put, { p with put := [] } :: r) := rfl
    rw [e]
    cases decide (0 < p.keep) || p.put.isEmpty with
    | true => simp
    | false =>
      show p.put.length + putsLen ({ p with put := [] } :: r) = putsLen (p :: r)
      rw [putsLen_two, putsLen_two]
      simp
theorem rowRun_puts : ∀ l : List PieceT, putsLen (rowRun l).2 ≤ putsLen l
  | [] => Nat.le_refl _
  | p :: r => by
    have ih := rowRun_puts r
    rw [rowRun]
    cases decide (0 < p.keep) with
    | true => exact Nat.le_refl _
    | false =>
      simp only [cond_false]
      cases decide (0 < p.drop) with
      | true => exact Nat.le_refl _
      | false => simp only [cond_false]; rw [putsLen_two]; omega
theorem rowTake_puts (n : Int) (l : List PieceT) : putsLen (rowTake n l) = putsLen l := by
  cases l with
  | nil => rfl
  | cons p r =>
    have e : rowTake n (p :: r) = bif decide (0 < p.keep) then { p with keep := p.keep - n } :: r else { p with drop := p.drop - n } :: r := rfl
    rw [e]
    cases decide (0 < p.keep) <;> rfl
theorem bothR_puts (a b : List PieceT) : putsLen (bothR a b).2.1 ≤ putsLen a := by
  have h := rowRun_puts a
  unfold bothR
  generalize rowRun a = ra at h
  generalize rowRun b = rb
  obtain ⟨⟨n, x, any⟩, a'⟩ := ra
  obtain ⟨⟨m, y, more⟩, b'⟩ := rb
  simp only at h ⊢
  cases !any && !more with
  | true => exact h
  | false => simp only [cond_false]; rw [rowTake_puts]; exact h
theorem puts_puts (prior : Bool) (s : Tr) : putsLen (s.puts prior).x.l + putsLen (s.puts prior).p = putsLen s.x.l + putsLen s.p := by
  have h := rowPut_puts s.p
  unfold Tr.puts
  generalize rowPut s.p = rp at h
  generalize rowPut s.q = rq
  obtain ⟨a, p⟩ := rp
  obtain ⟨b, q⟩ := rq
  simp only at h ⊢
  cases prior with
  | true =>
    simp only [cond_true]
    have := Mk.put_puts a s.x
    unfold Mk.kept
    simp only
    omega
  | false =>
    simp only [cond_false]
    have := Mk.put_puts a (s.x.kept b.length)
    have e : putsLen (s.x.kept b.length).l = putsLen s.x.l := rfl
    omega
theorem does_puts (s : Tr) (n : Int) (x y : Bool) : putsLen (s.does n x y).x.l = putsLen s.x.l ∧ (s.does n x y).p = s.p := by
  unfold Tr.does
  cases x <;> cases y
  · exact ⟨rfl, rfl⟩
  · exact ⟨rfl, rfl⟩
  · exact ⟨Mk.drop_puts n s.x, rfl⟩
  · exact ⟨rfl, rfl⟩
theorem go_puts (prior : Bool) : ∀ (f : Nat) (s : Tr), putsLen (Tr.go prior f s).x.l ≤ putsLen s.x.l + putsLen s.p
  | 0, s => by rw [Tr.go]; omega
  | f + 1, s => by
    have h := puts_puts prior s
    rw [Tr.go]
    generalize s.puts prior = z at h
    obtain ⟨p, q, x, y⟩ := z
    have hb := bothR_puts p q
    simp only at h ⊢
    generalize bothR p q = rb at hb
    obtain ⟨⟨n, d, g, any⟩, p', q'⟩ := rb
    simp only at hb ⊢
    cases any with
    | true =>
      simp only [cond_true]
      have hd := does_puts ⟨p', q', x, y⟩ n d g
      have ih := go_puts prior f (Tr.does ⟨p', q', x, y⟩ n d g)
      rw [hd.1, hd.2] at ih
      simp only at ih
      omega
    | false =>
      simp only [cond_false]
      omega
theorem trans_puts (a b : List PieceT) (prior : Bool) : putsLen (transP a b prior).1 ≤ putsLen a := by
  unfold transP
  cases !rightP a || !rightP b with
  | true => exact Nat.zero_le _
  | false =>
    simp only [cond_false]
    have h := go_puts prior (extN (normP a) + extN (normP b) + 1) ⟨normP a, normP b, Mk.nil, Mk.nil⟩
    simp only [norm_puts] at h
    generalize Tr.go prior (extN (normP a) + extN (normP b) + 1) ⟨normP a, normP b, Mk.nil, Mk.nil⟩ = s at h
    obtain ⟨p, q, x, y⟩ := s
    simp only at h ⊢
    have h0 : putsLen Mk.nil.l = 0 := rfl
    cases !rightP x.l || !rightP y.l with
    | true => exact Nat.zero_le _
    | false => simp only [cond_false]; omega

/-! ### Costs -/
theorem cost_min (o : OpT) : 2 ≤ costO o := by unfold costO; omega
theorem cost_noOp (k : Int) : costO (noOp k) = 2 := rfl
theorem bare_cost (o : OpT) : costO (bareO o) ≤ costO o := by
  rcases kinds o with h | h | h | h | h | h | ⟨h1, h2, h3, h4, h5, h6⟩
  · rw [bare1 h]; unfold costO; simp only [noOp, putsLen, List.length_nil, List.foldr_nil]; omega
  · rw [bare2 h]; unfold costO; simp only [noOp, putsLen, List.length_nil, List.foldr_nil]; omega
  · rw [bare3 h]; unfold costO; simp only [noOp, putsLen, List.length_nil, List.foldr_nil]; omega
  · rw [bare4 h]
    unfold costO
    cases o.gone
    · simp only [noOp, putsLen, List.length_nil, List.foldr_nil, cond_false]; omega
    · simp only [noOp, putsLen, List.length_nil, List.foldr_nil, cond_true]; omega
  · rw [bare5 h]; unfold costO; simp only [noOp, putsLen, List.length_nil, List.foldr_nil]; omega
  · rw [bare6 h]; unfold costO; simp only [noOp, List.length_nil]; omega
  · rw [bare_none h1 h2 h3 h4 h5 h6, cost_noOp]
    exact cost_min o
theorem shifted_cost (b a : OpT) (prior : Bool) : costO (shiftedO b a prior) = costO b := by
  unfold shiftedO
  cases decide (b.kind = 1) with
  | true => rfl
  | false =>
    cases decide (b.kind = 3) with
    | true => rfl
    | false => rfl
theorem undo_cost (o : OpT) : costO (undoO o) = 2 := by
  unfold undoO
  cases decide (o.kind = 3) && movesO o <;> rfl
theorem row_cost (b a : OpT) (prior : Bool) : ∀ o ∈ rowO b a prior, costO o ≤ costO b := by
  have hs : ∀ o ∈ [shiftedO b a prior], costO o ≤ costO b := fun o ho => by
    rw [List.mem_singleton.1 ho, shifted_cost]
    exact Nat.le_refl _
  have hn : ∀ o ∈ ([] : List OpT), costO o ≤ costO b := fun o ho => by cases ho
  have hd : ∀ p q : List Int, ∀ o ∈ [dropO p, dropO q], costO o ≤ costO b := fun p q o ho => by
    have := cost_min b
    rcases List.mem_cons.1 ho with rfl | ho
    · exact this
    · rw [List.mem_singleton.1 ho]; exact this
  have hd1 : ∀ p : List Int, ∀ o ∈ [dropO p], costO o ≤ costO b := fun p o ho => by
    rw [List.mem_singleton.1 ho]
    exact cost_min b
  have hu : ∀ o ∈ [undoO a, b], costO o ≤ costO b := fun o ho => by
    rcases List.mem_cons.1 ho with rfl | ho
    · rw [undo_cost]; exact cost_min b
    · rw [List.mem_singleton.1 ho]; exact Nat.le_refl _
  unfold rowO
  cases decide (a.kind = 2) with
  | true =>
    cases within a.path b.path with
    | true => exact hn
    | false => cases decide (b.kind = 3) && within a.path b.to <;> first | exact hs | exact hd1 _
  | false =>
    cases wonO b a with
    | true => cases prior <;> first | exact hn | exact hs
    | false =>
      cases decide (a.kind = 3) with
      | false => exact hs
      | true =>
        cases decide (b.kind = 2) with
        | true => cases within b.path a.path && (!decide (b.path = a.path) && !within b.path a.to) <;> first | exact hs | exact hd _ _
        | false => cases decide (b.kind = 3) && (within b.path a.to && within a.path b.to) <;> first | exact hs | (cases prior <;> first | exact hn | exact hu)
theorem behX_cost (b a : OpT) (prior : Bool) : ∀ o ∈ (behindX b a prior).1, costO o ≤ costO b := by
  unfold behindX
  cases bothEdit b a with
  | true =>
    simp only [cond_true]
    unfold behindE
    cases !soundO a || !soundO b with
    | true => intro o ho; cases ho
    | false =>
      cases decide ((transP b.pieces a.pieces prior).2.2 = 0) && formedB (editO b a prior) with
      | false => intro o ho; cases ho
      | true =>
        intro o ho
        simp only [cond_true, cond_false, List.mem_singleton] at ho
        subst ho
        refine Nat.le_trans (bare_cost _) ?_
        have := trans_puts b.pieces a.pieces prior
        unfold costO editO
        simp only
        omega
  | false =>
    simp only [cond_false]
    unfold behindO
    cases !soundO a || !soundO b with
    | true => intro o ho; cases ho
    | false =>
      cases (rowO b a prior).all formedB with
      | false => intro o ho; cases ho
      | true =>
        intro o ho
        simp only [cond_true, cond_false, List.mem_map] at ho
        obtain ⟨z, hz, rfl⟩ := ho
        exact Nat.le_trans (bare_cost z) (row_cost b a prior z hz)
theorem bothX_cost (a b : OpT) (prior : Bool) : ∀ o ∈ (bothX a b prior).2.1, costO o ≤ costO b := by
  unfold bothX
  cases decide ((behindX a b prior).2 = 0) with
  | false => intro o ho; cases ho
  | true =>
    cases decide ((behindX b a (!prior)).2 = 0) with
    | false => intro o ho; cases ho
    | true => exact behX_cost b a (!prior)
end Bow
/- W97: the document's corner; the law EffectsCorner. -/
namespace Bow
open Go Go.Proofs

set_option maxHeartbeats 4000000 in
set_option maxRecDepth 100000 in
theorem w_refCorner (t : Tree) (a b : OpT) (prior : Bool) (ht : t.weight ≤ 100000) (ha : a.Ok) (hb : b.Ok) (hto : a.to.length ≤ 1000 ∧ b.to.length ≤ 1000) (hc : (applyR t a).1.weight + costs (bothX a b prior).2.1 ≤ 400000) (hl : (bothX a b prior).2.1.length ≤ 1000000) (hok : ∀ o ∈ (bothX a b prior).2.1, o.Ok) :
    Pure Tryz.prog 39 [nodeV t, opV a, opV b, .bool prior] (fun x => x = cornerV (cornerT t a b prior)) := by
  have c1 := w_refApply t a (by omega) ha
  have c2 := w_refValid t b (by omega) hb
  have c3 := w_refBoth a b prior ha hb hto
  have c4 := w_refApplyAll (applyR t a).1 (bothX a b prior).2.1 hc hl hok
  unfold cornerT
  generalize applyR t a = m at c1 c4 hc
  generalize bothX a b prior = r at c3 c4 hc hl hok
  generalize ValidE t b = v at c2
  obtain ⟨m1, m2⟩ := m
  obtain ⟨r1, r2, r3⟩ := r
  simp only at c4
  obtain ⟨u, hu⟩ : ∃ u, AllR m1 r2 = u := ⟨_, rfl⟩
  rw [hu] at c4
  obtain ⟨u1, u2, u3⟩ := u
  clear hc hl hok
  simp only
  obtain ⟨R, hR⟩ : ∃ R : Tree × Int, (if m2 ≠ 0 then (zeroT0, m2) else if v ≠ 0 then (zeroT0, v) else if r3 ≠ 0 then (zeroT0, r3) else ((AllR m1 r2).1, (AllR m1 r2).2.2)) = R := ⟨_, rfl⟩
  rw [hR]
  refine pure_wk (pure_fn 60 Tryz.func39 rfl rfl rfl fun B => ?_)
  show CallThen _ _ _ _ _ _
  refine call_pure c1 rfl ?_
  rintro z rfl
  refine ⟨fun q => go 60 ?_, fun q1 => go 60 ?_⟩
  · refine ⟨trivial, rfl, rfl, rfl, cornerV (zeroT0, m2), ?_, rfl, by rw [← hR, if_pos (ne_of' q)]⟩
    exact Wk.tup ⟨wk_zeroC, .refl _, trivial⟩
  show CallThen _ _ _ _ _ _
  refine call_pure c2 rfl ?_
  rintro z rfl
  refine ⟨fun q => go 60 ?_, fun q2 => go 60 ?_⟩
  · refine ⟨trivial, rfl, rfl, rfl, cornerV (zeroT0, v), ?_, rfl, by rw [← hR, if_neg (fun h => h (eq_of' q1)), if_pos (ne_of' q)]⟩
    exact Wk.tup ⟨wk_zeroC, .refl _, trivial⟩
  show CallThen _ _ _ _ _ _
  refine call_pure c3 rfl ?_
  rintro z rfl
  refine ⟨fun q => go 60 ?_, fun q3 => go 60 ?_⟩
  · refine ⟨trivial, rfl, rfl, rfl, cornerV (zeroT0, r3), ?_, rfl, by rw [← hR, if_neg (fun h => h (eq_of' q1)), if_neg (fun h => h (eq_of' q2)), if_pos (ne_of' q)]⟩
    exact Wk.tup ⟨wk_zeroC, .refl _, trivial⟩
  show CallThen _ _ _ _ _ _
  refine call_pure c4 rfl ?_
  rintro z rfl
  exact ⟨trivial, rfl, rfl, rfl, cornerV (u1, u3), .refl _, rfl, by rw [← hR, if_neg (fun h => h (eq_of' q1)), if_neg (fun h => h (eq_of' q2)), if_neg (fun h => h (eq_of' q3)), hu]⟩

set_option maxRecDepth 100000 in
theorem w_light14 (t : Tree) (a b : OpT) : Pure Tryz.prog 34 [nodeV t, opV a, opV b] (fun x => ∃ g : Bool, x = .bool g ∧ (g = true → t.weight ≤ 200 ∧ lightB a 100 = true ∧ lightB b 100 = true)) := by
  have ff : ∃ y, Wk .ff y ∧ y.pureB = true ∧ ∃ g : Bool, y = .bool g ∧ (g = true → t.weight ≤ 200 ∧ lightB a 100 = true ∧ lightB b 100 = true) := ⟨_, Wk.ff, rfl, false, rfl, fun h => by cases h⟩
  refine pure_wk (pure_fn 60 Tryz.func34 rfl rfl rfl fun B => ?_)
  show CallThen _ _ _ _ _ _
  refine call_pure (w_Weight t 200 (by decide)) rfl ?_
  rintro z ⟨w, rfl, w1, w2, w3⟩
  refine ⟨fun g0 => go 60 ?_, fun g0 => go 60 ?_⟩
  · have g0 : t.weight ≤ 200 := by
      have := of_decide_eq_true g0
      have := w3 (by omega)
      omega
    show CallThen _ _ _ _ _ _
    refine call_pure (w_LightX a 100 (by decide)) rfl ?_
    rintro z rfl
    refine ⟨fun g1 => go 60 ?_, fun g1 => go 60 ?_⟩
    · show CallThen _ _ _ _ _ _
      refine call_pure (w_LightX b 100 (by decide)) rfl ?_
      rintro z rfl
      refine ⟨fun g2 => go 60 ?_, fun g2 => go 60 ?_⟩
      · have la := ((lightB_iff a 100).1 g1).1
        have lb := ((lightB_iff b 100).1 g2).1
        have h1 := la.pieces
        have h2 := lb.pieces
        show CallThen _ _ _ _ _ _
        refine call_pure (w_Small a.pieces 200 (by omega) (by decide)) rfl ?_
        rintro z ⟨s1, rfl⟩
        cases s1
        · refine ⟨fun q => (by cases q), fun _ => go 60 ?_⟩
          exact ⟨trivial, rfl, rfl, rfl, ff⟩
        · refine ⟨fun _ => go 60 ?_, fun q => (by cases q)⟩
          show CallThen _ _ _ _ _ _
          refine call_pure (w_Small b.pieces 200 (by omega) (by decide)) rfl ?_
          rintro z ⟨s2, rfl⟩
          exact ⟨trivial, rfl, rfl, rfl, _, .refl _, rfl, s2, rfl, fun _ => ⟨g0, g1, g2⟩⟩
      · exact ⟨trivial, rfl, rfl, rfl, ff⟩
    · exact ⟨trivial, rfl, rfl, rfl, ff⟩
  · exact ⟨trivial, rfl, rfl, rfl, ff⟩

theorem corner_weight (t : Tree) (a b : OpT) (prior : Bool) : (cornerT t a b prior).1.weight ≤ t.weight + costO a + costs (bothX a b prior).2.1 := by
  have h1 := applyR_weight t a
  have h2 := AllR_weight (applyR t a).1 (bothX a b prior).2.1
  have h3 := cost_min a
  have h0 : zeroT0.weight = 1 := by decide
  unfold cornerT
  simp only
  split
  · simp only; omega
  · split
    · simp only; omega
    · split
      · simp only; omega
      · simp only; omega
theorem sameO_bare3 (o : OpT) : sameO o (bareO o) = true := by
  unfold sameO
  rw [bare_bare]
  exact eqO_refl _

set_option maxHeartbeats 4000000 in
set_option maxRecDepth 100000 in
theorem w_EffectsCorner (t : Tree) (a b : OpT) (prior : Bool) : Pure Tryz.prog 6 [nodeV t, opV a, opV b, .bool prior] (fun x => x = .bool true) := by
  have hw := w_works14
  refine pure_wk (pure_fn 60 Tryz.func6 rfl rfl rfl fun B => ?_)
  show CallThen _ _ _ _ _ _
  refine call_pure (w_light14 t a b) rfl ?_
  rintro z ⟨g, rfl, hg⟩
  cases g
  case false =>
    refine ⟨fun _ => go 60 ?_, fun q => (by cases q)⟩
    show CallThen _ _ _ _ _ _
    refine call_pure hw rfl ?_
    rintro z rfl
    exact ⟨trivial, rfl, rfl, rfl, leaf_b rfl⟩
  obtain ⟨ht, la, lb⟩ := hg rfl
  have ha := light_ok la (by decide)
  have hb := light_ok lb (by decide)
  have la := (lightB_iff a 100).1 la
  have lb := (lightB_iff b 100).1 lb
  have ta := la.1.to
  have tb := lb.1.to
  have ca : costO a ≤ 402 := by
    have h2 := la.1.label
    have h3 := la.1.key
    have h4 := la.1.value
    unfold costO
    omega
  have cb : costO b ≤ 402 := by
    have h2 := lb.1.label
    have h3 := lb.1.key
    have h4 := lb.1.value
    unfold costO
    omega
  have hlen := (bothX_lt (prior := prior) ha hb (by omega) (by omega)).2.1
  have hok := (bothX_okL a b prior).2
  have hcs : costs (bothX a b prior).2.1 ≤ 2 * 402 := costs_le hlen fun o ho => Nat.le_trans (bothX_cost a b prior o ho) cb
  have hwa := applyR_weight t a
  have hcw := corner_weight t a b prior
  have c1 := w_Corner t a b prior (by omega) ha hb ⟨by omega, by omega⟩ (by omega) (by omega) (fun o ho => (hok o ho).1)
  have c2 := w_refCorner t a b prior (by omega) ha hb ⟨by omega, by omega⟩ (by omega) (by omega) (fun o ho => (hok o ho).1)
  have c3 := w_refSameT (cornerT t a b prior).1 (cornerT t a b prior).1 (by omega)
  rw [sameT_refl] at c3
  generalize cornerT t a b prior = r at c1 c2 c3
  obtain ⟨r1, r2⟩ := r
  simp only at c3
  have c4 := w_refIDs t (by omega)
  have c5 := w_refSameO a (bareO a) ha.lt (bare_ok ha).lt
  rw [sameO_bare3] at c5
  have c6 := w_refSameO b (bareO b) hb.lt (bare_ok hb).lt
  rw [sameO_bare3] at c6
  have hil := idsT_len t
  have hsz := size_le_weight t
  clear hcw hwa hcs hok hlen hg
  refine ⟨fun q => (by cases q), fun _ => go 60 ?_⟩
  show CallThen _ _ _ _ _ _
  refine call_pure c4 rfl ?_
  rintro z rfl
  show Goes _ _ _ _
  refine goes_draw 60 ?_
  refine ⟨_, w_refBare a ha.lt, rfl, ?_⟩
  refine ⟨_, w_refBare b hb.lt, rfl, ?_⟩
  refine ⟨by kernel_rfl, ?_⟩
  refine ⟨by kernel_rfl, ?_⟩
  refine ⟨by kernel_rfl, ?_⟩
  show CallThen _ _ _ _ _ _
  refine call_pure c1 rfl ?_
  rintro z rfl
  show CallThen _ _ _ _ _ _
  refine call_pure c2 rfl ?_
  rintro z rfl
  refine ⟨fun q => absurd q (by simp), fun _ => go 60 ?_⟩
  show CallThen _ _ _ _ _ _
  refine call_pure c3 rfl ?_
  rintro z rfl
  refine ⟨fun q => (by cases q), fun _ => go 60 ?_⟩
  show CallThen _ _ _ _ _ _
  refine call_pure c5 rfl ?_
  rintro z rfl
  refine ⟨fun q => (by cases q), fun _ => go 60 ?_⟩
  show CallThen _ _ _ _ _ _
  refine call_pure c6 rfl ?_
  rintro z rfl
  refine ⟨fun q => (by cases q), fun _ => go 60 ?_⟩
  show CallThen _ _ _ _ _ _
  refine call_pure c4 rfl ?_
  rintro z rfl
  show Goes _ _ _ _
  refine goes_iter (ι := Nat) (fun i => i ≤ (idsT t).length) (fun i => (idsT t).length - i) (fun i => [(17, .int .i64 i), (9, idsV (idsT t)), (16, idsV (idsT t))]) (fun _ => []) 0 60 (fun _ => rfl) (fun _ => rfl) ⟨Nat.zero_le _, ⟨⟨rfl, rfl⟩, ⟨rfl, rfl⟩, ⟨rfl, rfl⟩, trivial⟩, trivial⟩ ?_
  rintro i k1 next
  refine ⟨fun hlt => go 60 ?_, fun hge => go 60 ?_⟩
  · have hi : i < (idsT t).length := by simpa using hlt
    have hx : ((idsT t).map idV)[i]? = some (idV (idsT t)[i]) := by simp [hi]
    show Goes _ _ _ _
    refine goes_draw 60 ⟨Int.natCast_nonneg i, _, hx, Int.natCast_nonneg i, _, hx, ?_⟩
    refine ⟨by kernel_rfl, ?_⟩
    refine ⟨fun g => absurd rfl (ne_of' g), fun _ => go 60 ?_⟩
    refine ⟨by constructor <;> omega, ?_⟩
    exact next (i + 1) _ _ ⟨hi, by omega, ⟨⟨rfl, rfl⟩, ⟨rfl, rfl⟩, ⟨rfl, rfl⟩, trivial⟩, trivial⟩
  · show CallThen _ _ _ _ _ _
    refine call_pure hw rfl ?_
    rintro z rfl
    exact ⟨trivial, rfl, rfl, rfl, leaf_b rfl⟩
end Bow
/- W104: no identity twice. -/
namespace Bow
open Go Go.Proofs

set_option maxRecDepth 100000 in
theorem w_refIDsOwn (t : Tree) (ht : t.weight ≤ 1000000) : Fun Tryz.prog 36 [] [nodeV t] (fun x T => ∃ g, x = .osl (.loc 1) g 0 ((idsT t).map idV).length ∧ T = [some (.box (nodeV t).cells), some (.vec g 1 ((idsT t).map idV))]) := by
  have hsl := subs_le_weight t
  have hsz := size_le_weight t
  have hil := idsT_len t
  refine fun_fn 300 Tryz.func36 rfl rfl rfl fun imps B hi => ?_
  have : imps = [] := List.length_eq_zero_iff.1 hi
  subst this
  refine ⟨⟨rfl, trivial⟩, ?_⟩
  show Goes _ _ _ _
  refine goes_iter (ι := Nat × Nat × List Int) (fun i => i.1 ≤ t.subs.length ∧ i.2.2 ++ idsTs (t.subs.drop i.1) = idsT t) (fun i => t.subs.length - i.1)
    (fun i => [(4, .int .i64 i.1), (3, .osl (.loc 1) i.2.1 0 (i.2.2.map idV).length), (1, .ptr (.loc 0) 0)]) (fun i => [some (.box (nodeV t).cells), some (.vec i.2.1 1 (i.2.2.map idV))]) (0, 0, [t.id]) 300 (fun _ => rfl) (fun _ => rfl) ⟨⟨Nat.zero_le _, by rw [idsT_eq]; rfl⟩, ⟨⟨rfl, rfl⟩, ⟨rfl, rfl⟩, ⟨rfl, rfl⟩, trivial⟩, ⟨⟨rfl, rfl⟩, ⟨rfl, rfl⟩, trivial⟩⟩ ?_
  rintro ⟨i, g, acc⟩ ⟨k1, k2⟩ next
  simp only at k1 k2
  refine ⟨fun hlt => go 300 ?_, fun hge => go 300 ?_⟩
  · have hi : i < t.subs.length := by simpa [subV_eq] using hlt
    have hx : t.subV[i]? = some (nodeV t.subs[i]) := by simp [subV_eq, hi]
    have hws := weight_sub (List.getElem_mem hi)
    rw [idsTs_drop hi] at k2
    have hlen := congrArg List.length k2
    simp only [List.length_append] at hlen
    refine ⟨Int.natCast_nonneg i, _, hx, ?_⟩
    show CallThen _ _ _ _ _ _
    refine call_pure (w_refIDs _ (by omega)) rfl ?_
    rintro x rfl
    refine ⟨rfl, rfl, room_of (by simp; omega) (by decide), ?_⟩
    refine ⟨by constructor <;> omega, ?_⟩
    show Goes _ _ _ _
    refine next (i + 1, bump g, acc ++ idsT t.subs[i]) _ _ ⟨⟨hi, by rw [List.append_assoc]; exact k2⟩, by simp only; omega, ⟨⟨rfl, rfl⟩, ⟨?_, rfl⟩, ⟨rfl, rfl⟩, trivial⟩, ⟨⟨rfl, rfl⟩, ⟨?_, rfl⟩, trivial⟩⟩
    · exact congrArg (V.osl (.loc 1) (bump g) 0) (by simp)
    · exact congrArg (fun z => some (HObj.vec (bump g) 1 z)) (by rw [List.map_append])
  · have hi : t.subs.length ≤ i := by simpa [subV_eq] using hge
    rw [List.drop_eq_nil_of_le hi, idsTs, List.append_nil] at k2
    subst k2
    exact ⟨trivial, rfl, rfl, g, rfl, rfl⟩
set_option maxHeartbeats 4000000 in
set_option maxRecDepth 100000 in
theorem w_once (t : Tree) (a b : OpT) (ht : t.weight ≤ 100000) : Pure Tryz.prog 103 [nodeV t, opV a, opV b] (fun x => ∃ g : Bool, x = .bool g) := by
  have co := w_refIDsOwn t (by omega)
  have hil := idsT_len t
  have hsz := size_le_weight t
  have hl : ((idsT t).map idV).length ≤ 100000 := by rw [List.length_map]; omega
  have ff : ∃ y, Wk .ff y ∧ y.pureB = true ∧ ∃ g : Bool, y = .bool g := ⟨_, Wk.ff, rfl, false, rfl⟩
  have tt : ∃ y, Wk .tt y ∧ y.pureB = true ∧ ∃ g : Bool, y = .bool g := ⟨_, Wk.tt, rfl, true, rfl⟩
  clear hil hsz
  generalize idsT t = ids at co hl
  refine pure_wk (pure_fn 60 Tryz.func103 rfl rfl rfl fun B => ?_)
  show CallThen _ _ _ _ _ _
  refine call_sub [] co rfl rfl trivial rfl rfl rfl ?_
  rintro x T1 ⟨g, rfl, rfl⟩
  refine ⟨rfl, ?_⟩
  refine ⟨fun q1 => go 60 ?_, fun q1 => go 60 ?_⟩
  · refine ⟨⟨rfl, trivial⟩, (by first | rfl | simp), (by first | rfl | simp), (by first | rfl | simp), (by first | rfl | simp), room_of2 (by simp only [List.length_append, List.length_cons, List.length_nil]; omega) (by decide), ?_⟩
    refine ⟨fun q2 => go 60 ?_, fun q2 => go 60 ?_⟩
    · refine ⟨⟨rfl, trivial⟩, (by first | rfl | simp), (by first | rfl | simp), (by first | rfl | simp), (by first | rfl | simp), room_of2 (by simp only [List.length_append, List.length_cons, List.length_nil]; omega) (by decide), ?_⟩
      show Goes _ _ _ _
      refine goes_fzSlot 7 4 rfl rfl (by simp) ?_
      show Goes _ _ _ _
      refine goes_wkSlot 7 (v' := idsV (ids ++ [a.id] ++ [b.id])) rfl rfl rfl (Wk.of_eq (congrArg (V.sl 1) (by simp [idV]))) ?_
      refine go 60 ?_
      have hl2 : (ids ++ [a.id] ++ [b.id]).length ≤ 100002 := by simp at hl ⊢; omega
      generalize (ids ++ [a.id] ++ [b.id]) = l at hl2 ⊢
      show Goes _ _ _ _
      refine goes_iter (ι := Nat) (fun i => i ≤ l.length) (fun i => l.length - i) (fun i => [(8, .int .i64 i), (7, idsV l)]) (fun _ => []) 0 60 (fun _ => rfl) (fun _ => rfl) ⟨Nat.zero_le _, ⟨⟨rfl, rfl⟩, ⟨rfl, rfl⟩, trivial⟩, trivial⟩ ?_
      rintro i k1 next
      refine ⟨fun hlt => go 60 ?_, fun hge => go 60 ?_⟩
      · have hi : i < l.length := by simpa using hlt
        have hx : (l.map idV)[((i : Nat) : Int).toNat]? = some (idV l[i]) := by simp [hi]
        show Goes _ _ _ _
        refine goes_iter (ι := Nat) (fun k => k ≤ i) (fun k => i - k) (fun k => [(9, .int .i64 k), (8, .int .i64 i), (7, idsV l)]) (fun _ => []) 0 60 (fun _ => rfl) (fun _ => rfl) ⟨Nat.zero_le _, ⟨⟨rfl, rfl⟩, ⟨rfl, rfl⟩, ⟨rfl, rfl⟩, trivial⟩, trivial⟩ ?_
        rintro k k2 next1
        refine ⟨fun hlt => go 60 ?_, fun hge => go 60 ?_⟩
        · have hk : k < l.length := by have := of_decide_eq_true hlt; omega
          have hk2 : k < i := by have := of_decide_eq_true hlt; omega
          have hy : (l.map idV)[((k : Nat) : Int).toNat]? = some (idV l[k]) := by simp [hk]
          show Goes _ _ _ _
          refine goes_draw 60 ⟨Int.natCast_nonneg i, _, hx, Int.natCast_nonneg k, _, hy, ?_⟩
          refine ⟨by kernel_rfl, ?_⟩
          refine ⟨fun _ => go 60 ?_, fun _ => go 60 ?_⟩
          · exact ⟨trivial, rfl, rfl, rfl, ff⟩
          refine ⟨by constructor <;> omega, ?_⟩
          show Goes _ _ _ _
          exact next1 (k + 1) _ _ ⟨hk2, by omega, ⟨⟨rfl, rfl⟩, ⟨rfl, rfl⟩, ⟨rfl, rfl⟩, trivial⟩, trivial⟩
        clear next1
        refine ⟨by constructor <;> omega, ?_⟩
        show Goes _ _ _ _
        exact next (i + 1) _ _ ⟨hi, by omega, ⟨⟨rfl, rfl⟩, ⟨rfl, rfl⟩, trivial⟩, trivial⟩
      · exact ⟨trivial, rfl, rfl, rfl, tt⟩
    · show Goes _ _ _ _
      refine goes_fzSlot 7 4 rfl rfl (by simp) ?_
      show Goes _ _ _ _
      refine goes_wkSlot 7 (v' := idsV (ids ++ [a.id])) rfl rfl rfl (Wk.of_eq (congrArg (V.sl 1) (by simp [idV]))) ?_
      refine go 60 ?_
      have hl2 : (ids ++ [a.id]).length ≤ 100002 := by simp at hl ⊢; omega
      generalize (ids ++ [a.id]) = l at hl2 ⊢
      show Goes _ _ _ _
      refine goes_iter (ι := Nat) (fun i => i ≤ l.length) (fun i => l.length - i) (fun i => [(8, .int .i64 i), (7, idsV l)]) (fun _ => []) 0 60 (fun _ => rfl) (fun _ => rfl) ⟨Nat.zero_le _, ⟨⟨rfl, rfl⟩, ⟨rfl, rfl⟩, trivial⟩, trivial⟩ ?_
      rintro i k1 next
      refine ⟨fun hlt => go 60 ?_, fun hge => go 60 ?_⟩
      · have hi : i < l.length := by simpa using hlt
        have hx : (l.map idV)[((i : Nat) : Int).toNat]? = some (idV l[i]) := by simp [hi]
        show Goes _ _ _ _
        refine goes_iter (ι := Nat) (fun k => k ≤ i) (fun k => i - k) (fun k => [(9, .int .i64 k), (8, .int .i64 i), (7, idsV l)]) (fun _ => []) 0 60 (fun _ => rfl) (fun _ => rfl) ⟨Nat.zero_le _, ⟨⟨rfl, rfl⟩, ⟨rfl, rfl⟩, ⟨rfl, rfl⟩, trivial⟩, trivial⟩ ?_
        rintro k k2 next1
        refine ⟨fun hlt => go 60 ?_, fun hge => go 60 ?_⟩
        · have hk : k < l.length := by have := of_decide_eq_true hlt; omega
          have hk2 : k < i := by have := of_decide_eq_true hlt; omega
          have hy : (l.map idV)[((k : Nat) : Int).toNat]? = some (idV l[k]) := by simp [hk]
          show Goes _ _ _ _
          refine goes_draw 60 ⟨Int.natCast_nonneg i, _, hx, Int.natCast_nonneg k, _, hy, ?_⟩
          refine ⟨by kernel_rfl, ?_⟩
          refine ⟨fun _ => go 60 ?_, fun _ => go 60 ?_⟩
          · exact ⟨trivial, rfl, rfl, rfl, ff⟩
          refine ⟨by constructor <;> omega, ?_⟩
          show Goes _ _ _ _
          exact next1 (k + 1) _ _ ⟨hk2, by omega, ⟨⟨rfl, rfl⟩, ⟨rfl, rfl⟩, ⟨rfl, rfl⟩, trivial⟩, trivial⟩
        clear next1
        refine ⟨by constructor <;> omega, ?_⟩
        show Goes _ _ _ _
        exact next (i + 1) _ _ ⟨hi, by omega, ⟨⟨rfl, rfl⟩, ⟨rfl, rfl⟩, trivial⟩, trivial⟩
      · exact ⟨trivial, rfl, rfl, rfl, tt⟩
  · refine ⟨fun q2 => go 60 ?_, fun q2 => go 60 ?_⟩
    · refine ⟨⟨rfl, trivial⟩, (by first | rfl | simp), (by first | rfl | simp), (by first | rfl | simp), (by first | rfl | simp), room_of2 (by simp only [List.length_append, List.length_cons, List.length_nil]; omega) (by decide), ?_⟩
      show Goes _ _ _ _
      refine goes_fzSlot 7 4 rfl rfl (by simp) ?_
      show Goes _ _ _ _
      refine goes_wkSlot 7 (v' := idsV (ids ++ [b.id])) rfl rfl rfl (Wk.of_eq (congrArg (V.sl 1) (by simp [idV]))) ?_
      refine go 60 ?_
      have hl2 : (ids ++ [b.id]).length ≤ 100002 := by simp at hl ⊢; omega
      generalize (ids ++ [b.id]) = l at hl2 ⊢
      show Goes _ _ _ _
      refine goes_iter (ι := Nat) (fun i => i ≤ l.length) (fun i => l.length - i) (fun i => [(8, .int .i64 i), (7, idsV l)]) (fun _ => []) 0 60 (fun _ => rfl) (fun _ => rfl) ⟨Nat.zero_le _, ⟨⟨rfl, rfl⟩, ⟨rfl, rfl⟩, trivial⟩, trivial⟩ ?_
      rintro i k1 next
      refine ⟨fun hlt => go 60 ?_, fun hge => go 60 ?_⟩
      · have hi : i < l.length := by simpa using hlt
        have hx : (l.map idV)[((i : Nat) : Int).toNat]? = some (idV l[i]) := by simp [hi]
        show Goes _ _ _ _
        refine goes_iter (ι := Nat) (fun k => k ≤ i) (fun k => i - k) (fun k => [(9, .int .i64 k), (8, .int .i64 i), (7, idsV l)]) (fun _ => []) 0 60 (fun _ => rfl) (fun _ => rfl) ⟨Nat.zero_le _, ⟨⟨rfl, rfl⟩, ⟨rfl, rfl⟩, ⟨rfl, rfl⟩, trivial⟩, trivial⟩ ?_
        rintro k k2 next1
        refine ⟨fun hlt => go 60 ?_, fun hge => go 60 ?_⟩
        · have hk : k < l.length := by have := of_decide_eq_true hlt; omega
          have hk2 : k < i := by have := of_decide_eq_true hlt; omega
          have hy : (l.map idV)[((k : Nat) : Int).toNat]? = some (idV l[k]) := by simp [hk]
          show Goes _ _ _ _
          refine goes_draw 60 ⟨Int.natCast_nonneg i, _, hx, Int.natCast_nonneg k, _, hy, ?_⟩
          refine ⟨by kernel_rfl, ?_⟩
          refine ⟨fun _ => go 60 ?_, fun _ => go 60 ?_⟩
          · exact ⟨trivial, rfl, rfl, rfl, ff⟩
          refine ⟨by constructor <;> omega, ?_⟩
          show Goes _ _ _ _
          exact next1 (k + 1) _ _ ⟨hk2, by omega, ⟨⟨rfl, rfl⟩, ⟨rfl, rfl⟩, ⟨rfl, rfl⟩, trivial⟩, trivial⟩
        clear next1
        refine ⟨by constructor <;> omega, ?_⟩
        show Goes _ _ _ _
        exact next (i + 1) _ _ ⟨hi, by omega, ⟨⟨rfl, rfl⟩, ⟨rfl, rfl⟩, trivial⟩, trivial⟩
      · exact ⟨trivial, rfl, rfl, rfl, tt⟩
    · show Goes _ _ _ _
      refine goes_fzSlot 7 4 rfl rfl (by simp) ?_
      show Goes _ _ _ _
      refine goes_wkSlot 7 (v' := idsV (ids)) rfl rfl rfl (Wk.of_eq (congrArg (V.sl 1) (by simp [idV]))) ?_
      refine go 60 ?_
      have hl2 : (ids).length ≤ 100002 := by simp at hl ⊢; omega
      generalize (ids) = l at hl2 ⊢
      show Goes _ _ _ _
      refine goes_iter (ι := Nat) (fun i => i ≤ l.length) (fun i => l.length - i) (fun i => [(8, .int .i64 i), (7, idsV l)]) (fun _ => []) 0 60 (fun _ => rfl) (fun _ => rfl) ⟨Nat.zero_le _, ⟨⟨rfl, rfl⟩, ⟨rfl, rfl⟩, trivial⟩, trivial⟩ ?_
      rintro i k1 next
      refine ⟨fun hlt => go 60 ?_, fun hge => go 60 ?_⟩
      · have hi : i < l.length := by simpa using hlt
        have hx : (l.map idV)[((i : Nat) : Int).toNat]? = some (idV l[i]) := by simp [hi]
        show Goes _ _ _ _
        refine goes_iter (ι := Nat) (fun k => k ≤ i) (fun k => i - k) (fun k => [(9, .int .i64 k), (8, .int .i64 i), (7, idsV l)]) (fun _ => []) 0 60 (fun _ => rfl) (fun _ => rfl) ⟨Nat.zero_le _, ⟨⟨rfl, rfl⟩, ⟨rfl, rfl⟩, ⟨rfl, rfl⟩, trivial⟩, trivial⟩ ?_
        rintro k k2 next1
        refine ⟨fun hlt => go 60 ?_, fun hge => go 60 ?_⟩
        · have hk : k < l.length := by have := of_decide_eq_true hlt; omega
          have hk2 : k < i := by have := of_decide_eq_true hlt; omega
          have hy : (l.map idV)[((k : Nat) : Int).toNat]? = some (idV l[k]) := by simp [hk]
          show Goes _ _ _ _
          refine goes_draw 60 ⟨Int.natCast_nonneg i, _, hx, Int.natCast_nonneg k, _, hy, ?_⟩
          refine ⟨by kernel_rfl, ?_⟩
          refine ⟨fun _ => go 60 ?_, fun _ => go 60 ?_⟩
          · exact ⟨trivial, rfl, rfl, rfl, ff⟩
          refine ⟨by constructor <;> omega, ?_⟩
          show Goes _ _ _ _
          exact next1 (k + 1) _ _ ⟨hk2, by omega, ⟨⟨rfl, rfl⟩, ⟨rfl, rfl⟩, ⟨rfl, rfl⟩, trivial⟩, trivial⟩
        clear next1
        refine ⟨by constructor <;> omega, ?_⟩
        show Goes _ _ _ _
        exact next (i + 1) _ _ ⟨hi, by omega, ⟨⟨rfl, rfl⟩, ⟨rfl, rfl⟩, trivial⟩, trivial⟩
      · exact ⟨trivial, rfl, rfl, rfl, tt⟩
end Bow
/- SP35: lists of operations of all kinds, of the grove, drawn by a row of numbers: both ways round end in the same tree; computed in plain Lean. -/
namespace Bow
open Go

def listOps : List OpT := manyO (pathsT groveT) 1 (pathsT groveT).length
set_option maxRecDepth 1000000 in
theorem lists_len : listOps.length = 184 := by decide +kernel
set_option maxRecDepth 1000000 in
theorem lists_small : listOps.all smallO = true := by decide +kernel
/-! ### What is drawn is small -/
theorem small_cost {o : OpT} (ho : smallO o = true) : costO o ≤ 1400 := by
  unfold smallO at ho
  simp only [Bool.and_eq_true, decide_eq_true_eq] at ho
  unfold costO
  omega
end Bow
/- SP67: the grove, operations of all kinds, in pairs: in the corner nothing is wrong; computed in plain Lean. -/
namespace Bow
open Go

def holdsB (t : Tree) (a b : OpT) (prior : Bool) : Bool :=
  match cornerT t a b prior with
  | (c, e) => decide (e = 0) && (decide (standsP t c a b prior = 0) && decide (standsP t c b a (!prior) = 0))
def otherO (a b : OpT) : OpT := bif decide (a.kind = 1) && decide (b.kind = 1) then { b with id := 500 } else b
def effOps : List OpT := listOps.filter fun o => decide (ValidE groveT o = 0)
def effRow (l : List OpT) (i : Nat) : Bool :=
  match l[i]? with
  | none => true
  | some a => (List.range l.length).all fun k => !decide (k % 5 = i % 5) || (match l[k]? with | none => true | some b => holdsB groveT a (otherO a b) (decide ((i + k) % 2 = 0)))
def effRows (l : List OpT) (i n : Nat) : Bool := (List.range n).all fun j => effRow l (i + j)
set_option maxRecDepth 1000000 in
theorem eff_len : effOps.length = 100 := by decide +kernel
set_option maxRecDepth 1000000 in
theorem eff_1 : effRows effOps 0 25 = true := by decide +kernel
set_option maxRecDepth 1000000 in
theorem eff_2 : effRows effOps 25 25 = true := by decide +kernel
set_option maxRecDepth 1000000 in
theorem eff_3 : effRows effOps 50 25 = true := by decide +kernel
set_option maxRecDepth 1000000 in
theorem eff_4 : effRows effOps 75 25 = true := by decide +kernel
theorem effRows_get {l : List OpT} {i n : Nat} (h : effRows l i n = true) (k : Nat) (h1 : i ≤ k) (h2 : k < i + n) : effRow l k = true := by
  have := List.all_eq_true.1 h (k - i) (by simp; omega)
  rwa [show i + (k - i) = k by omega] at this
theorem eff_rows (i : Nat) (h : i < effOps.length) : effRow effOps i = true := by
  have hl := eff_len
  rcases Nat.lt_or_ge i 25 with h1 | h1
  · exact effRows_get eff_1 i (by omega) (by omega)
  rcases Nat.lt_or_ge i 50 with h2 | h2
  · exact effRows_get eff_2 i (by omega) (by omega)
  rcases Nat.lt_or_ge i 75 with h3 | h3
  · exact effRows_get eff_3 i (by omega) (by omega)
  · exact effRows_get eff_4 i (by omega) (by omega)
theorem eff_holds {i k : Nat} (hi : i < effOps.length) (hk : k < effOps.length) (hm : k % 5 = i % 5) : holdsB groveT effOps[i] (otherO effOps[i] effOps[k]) (decide ((i + k) % 2 = 0)) = true := by
  have h := eff_rows i hi
  unfold effRow at h
  rw [List.getElem?_eq_getElem hi] at h
  have h2 := List.all_eq_true.1 h k (by simp; exact hk)
  rw [List.getElem?_eq_getElem hk] at h2
  simpa [hm] using h2
end Bow
/- W105: the laws EffectsStands, and EffectsHold where the plain functions say that it holds. -/
namespace Bow
open Go Go.Proofs

theorem light_cost {o : OpT} (h : lightB o 100 = true) : costO o ≤ 402 := by
  have h := (lightB_iff o 100).1 h
  have h2 := h.1.label
  have h3 := h.1.key
  have h4 := h.1.value
  unfold costO
  omega
set_option maxHeartbeats 4000000 in
set_option maxRecDepth 100000 in
theorem w_EffectsStands (n c : Tree) (a b : OpT) (prior : Bool) : Pure Tryz.prog 47 [nodeV n, nodeV c, opV a, opV b, .bool prior] (fun x => x = .bool true) := by
  have hw := w_works14
  refine pure_wk (pure_fn 60 Tryz.func47 rfl rfl rfl fun B => ?_)
  show CallThen _ _ _ _ _ _
  refine call_pure (w_light14 n a b) rfl ?_
  rintro z ⟨g, rfl, hg⟩
  cases g
  case false =>
    refine ⟨fun _ => go 60 ?_, fun q => (by cases q)⟩
    show CallThen _ _ _ _ _ _
    refine call_pure hw rfl ?_
    rintro z rfl
    exact ⟨trivial, rfl, rfl, rfl, leaf_b rfl⟩
  obtain ⟨ht, la, lb⟩ := hg rfl
  have ha := light_ok la (by decide)
  have hb := light_ok lb (by decide)
  refine ⟨fun q => (by cases q), fun _ => go 60 ?_⟩
  show CallThen _ _ _ _ _ _
  refine call_pure (w_Weight c 200 (by decide)) rfl ?_
  rintro z ⟨w, rfl, w1, w2, w3⟩
  refine ⟨fun _ => go 60 ?_, fun q => go 60 ?_⟩
  · show CallThen _ _ _ _ _ _
    refine call_pure hw rfl ?_
    rintro z rfl
    exact ⟨trivial, rfl, rfl, rfl, leaf_b rfl⟩
  have q : (w : Int) ≤ 200 := not_lt_of q
  have hc : c.weight ≤ 200 := by have := w3 (by omega); omega
  have c1 := w_Stands14 n c a b prior (by omega) (by omega) ha hb
  have c2 := w_refStands14 n c a b prior (by omega) (by omega) ha hb
  generalize standsP n c a b prior = R at c1 c2
  clear la lb ha hb hg w3 w2 w1 q ht hc
  show Goes _ _ _ _
  refine goes_draw 60 ⟨_, c1, rfl, _, c2, rfl, ?_⟩
  refine ⟨fun _ => ?_, fun q => absurd rfl (of_decide_eq_false q)⟩
  refine ⟨_, hw, rfl, ?_⟩
  refine ⟨by kernel_rfl, ?_⟩
  exact ⟨trivial, rfl, rfl, rfl, leaf_b rfl⟩
set_option maxHeartbeats 4000000 in
set_option maxRecDepth 100000 in
theorem w_EffectsHold (t : Tree) (a b : OpT) (prior : Bool) (h : holdsB t a b prior = true) : Pure Tryz.prog 46 [nodeV t, opV a, opV b, .bool prior] (fun x => x = .bool true) := by
  have hw := w_works14
  refine pure_wk (pure_fn 60 Tryz.func46 rfl rfl rfl fun B => ?_)
  show CallThen _ _ _ _ _ _
  refine call_pure (w_light14 t a b) rfl ?_
  rintro z ⟨g, rfl, hg⟩
  cases g
  case false =>
    refine ⟨fun _ => go 60 ?_, fun q => (by cases q)⟩
    show CallThen _ _ _ _ _ _
    refine call_pure hw rfl ?_
    rintro z rfl
    exact ⟨trivial, rfl, rfl, rfl, leaf_b rfl⟩
  obtain ⟨ht, la, lb⟩ := hg rfl
  have ha := light_ok la (by decide)
  have hb := light_ok lb (by decide)
  have ca := light_cost la
  have cb := light_cost lb
  have la := (lightB_iff a 100).1 la
  have lb := (lightB_iff b 100).1 lb
  have ta := la.1.to
  have tb := lb.1.to
  have hlen := (bothX_lt (prior := prior) ha hb (by omega) (by omega)).2.1
  have hok := (bothX_okL a b prior).2
  have hcs : costs (bothX a b prior).2.1 ≤ 2 * 402 := costs_le hlen fun o ho => Nat.le_trans (bothX_cost a b prior o ho) cb
  have hwa := applyR_weight t a
  have hcw := corner_weight t a b prior
  have c1 := w_Corner t a b prior (by omega) ha hb ⟨by omega, by omega⟩ (by omega) (by omega) (fun o ho => (hok o ho).1)
  unfold holdsB at h
  generalize cornerT t a b prior = r at c1 h hcw
  obtain ⟨c, e⟩ := r
  simp only [Bool.and_eq_true, decide_eq_true_eq] at h hcw
  obtain ⟨rfl, s1, s2⟩ := h
  have c2 := w_Stands14 t c a b prior (by omega) (by omega) ha hb
  have c3 := w_Stands14 t c b a (!prior) (by omega) (by omega) hb ha
  rw [s1] at c2
  rw [s2] at c3
  have co := w_once t a b (by omega)
  clear hg ha hb ca cb la lb ta tb hlen hok hcs hwa hcw s1 s2 ht
  refine ⟨fun q => (by cases q), fun _ => go 60 ?_⟩
  show CallThen _ _ _ _ _ _
  refine call_pure co rfl ?_
  rintro z ⟨g2, rfl⟩
  refine ⟨fun _ => go 60 ?_, fun _ => go 60 ?_⟩
  · show CallThen _ _ _ _ _ _
    refine call_pure hw rfl ?_
    rintro z rfl
    exact ⟨trivial, rfl, rfl, rfl, leaf_b rfl⟩
  show CallThen _ _ _ _ _ _
  refine call_pure c1 rfl ?_
  rintro z rfl
  refine ⟨fun q => absurd (of_decide_eq_true q) (show ¬ ((0 : Int) = 3) by decide), fun _ => go 60 ?_⟩
  refine ⟨fun q => absurd rfl (ne_of' q), fun _ => go 60 ?_⟩
  show CallThen _ _ _ _ _ _
  refine call_pure c2 rfl ?_
  rintro z rfl
  refine ⟨fun _ => go 60 ?_, fun q => absurd q (by decide)⟩
  show CallThen _ _ _ _ _ _
  refine call_pure c3 rfl ?_
  rintro z rfl
  refine ⟨fun _ => go 60 ?_, fun q => absurd q (by decide)⟩
  show CallThen _ _ _ _ _ _
  refine call_pure hw rfl ?_
  rintro z rfl
  exact ⟨trivial, rfl, rfl, rfl, leaf_b rfl⟩
end Bow
/- W88: bowerkit's Many, with any number of gaps. -/
namespace Bow
open Go Go.Proofs

theorem many_headT {top : Nat} {ps : List (List Int)} {i : Nat} {p : List Int} {xs : List V} (h : WkE 11 xs ((manyO ps top i).map opV)) : WkE 11 (xs ++ [.agg [.int .u8 2, pathV p, .int .i64 0, .nilsl, .int .u64 0, .ff, .str [], .str [], .str [], .ff, .nilsl], .agg [.int .u8 5, pathV p, .int .i64 0, .nilsl, .int .u64 0, .ff, .str [113], .str [], .str [], .ff, .nilsl],
    .agg [.int .u8 4, pathV p, .int .i64 0, .nilsl, .int .u64 0, .ff, .str [], .str [107], .str [57], .ff, .nilsl], .agg [.int .u8 4, pathV p, .int .i64 0, .nilsl, .int .u64 0, .ff, .str [], .str [107], .str [], .tt, .nilsl],
    .agg [.int .u8 6, pathV p, .int .i64 0, .nilsl, .int .u64 0, .ff, .str [], .str [], .str [], .ff, .sl 3 [.agg [.int .i64 1, .int .i64 1, .str [33]]]]]) ((manyO ps top i ++ (headO p ++ gapsO ps i p 0)).map opV) := by
  rw [gapsO, List.append_nil, List.map_append]
  exact wkE_app h (wk_head p)
theorem many_putT {top : Nat} {ps : List (List Int)} {i n : Nat} {p : List Int} {ys : List V} (h : WkE 11 ys ((manyO ps top i ++ (headO p ++ gapsO ps i p n)).map opV)) :
    WkE 11 (ys ++ [.agg [.int .u8 1, pathV p, .int .i64 n, .nilsl, .int .u64 (IntKind.u64.wrap (100 + 10 * (i : Int) + (n : Int))), .ff, .str [110], .str [], .str [], .ff, .nilsl]]) ((manyO ps top i ++ (headO p ++ (gapsO ps i p n ++ (putO i p n :: (ps.take 0).map (movO p n))))).map opV) := by
  have e : (manyO ps top i ++ (headO p ++ (gapsO ps i p n ++ (putO i p n :: (ps.take 0).map (movO p n))))).map opV = (manyO ps top i ++ (headO p ++ gapsO ps i p n)).map opV ++ [putO i p n].map opV := by simp
  rw [e]
  exact wkE_app h (wkO (Wk.nil 1) Wk.ff Wk.ff (Wk.nil 3))
theorem many_movT {top : Nat} {ps : List (List Int)} {i n k : Nat} {p : List Int} {us : List V} (h : WkE 11 us ((manyO ps top i ++ (headO p ++ (gapsO ps i p n ++ (putO i p n :: (ps.take k).map (movO p n))))).map opV)) (hk : k < ps.length) :
    WkE 11 (us ++ [.agg [.int .u8 3, pathV ps[k], .int .i64 n, pathV p, .int .u64 0, .ff, .str [], .str [], .str [], .ff, .nilsl]]) ((manyO ps top i ++ (headO p ++ (gapsO ps i p n ++ (putO i p n :: (ps.take (k + 1)).map (movO p n))))).map opV) := by
  have e : (manyO ps top i ++ (headO p ++ (gapsO ps i p n ++ (putO i p n :: (ps.take (k + 1)).map (movO p n))))).map opV = (manyO ps top i ++ (headO p ++ (gapsO ps i p n ++ (putO i p n :: (ps.take k).map (movO p n))))).map opV ++ [movO p n ps[k]].map opV := by
    rw [List.take_succ_eq_append_getElem hk, List.map_append]
    simp only [List.map_append, List.map_cons, List.map_nil, List.append_assoc, List.cons_append]
  rw [e]
  exact wkE_app h (wkO (.refl _) Wk.ff Wk.ff (Wk.nil 3))
set_option maxHeartbeats 4000000 in
set_option maxRecDepth 100000 in
theorem w_ManyT (ps : List (List Int)) (top : Nat) (hps : ps.length ≤ 100) (htop : top ≤ 3) : Pure Tryz.prog 19 [pathsV ps, .int .i64 top] (fun x => x = opsV (manyO ps top ps.length)) := by
  refine pure_wk (pure_fn 60 Tryz.func19 rfl rfl rfl fun B => ?_)
  show Goes _ _ _ _
  refine goes_own 5 11 rfl ?_
  refine goes_iter (ι := Nat × Nat × List V) (fun i => i.1 ≤ ps.length ∧ WkE 11 i.2.2 ((manyO ps top i.1).map opV)) (fun i => ps.length - i.1) (fun i => [(6, .int .i64 i.1), (5, .osl (.loc 0) i.2.1 0 i.2.2.length), (1, .int .i64 top), (0, pathsV ps)]) (fun i => [some (.vec i.2.1 11 i.2.2)]) (0, 0, []) 60 (fun _ => rfl) (fun _ => rfl) ⟨⟨Nat.zero_le _, trivial⟩, ⟨⟨rfl, rfl⟩, ⟨rfl, rfl⟩, ⟨rfl, rfl⟩, ⟨rfl, rfl⟩, trivial⟩, ⟨⟨rfl, rfl⟩, trivial⟩⟩ ?_
  rintro ⟨i, g, xs⟩ ⟨k1, k2⟩ next
  simp only at k1 k2
  have hlen : xs.length ≤ 40900 := by
    have h1 := k2.len
    rw [List.length_map, many_len] at h1
    have : i * (5 + (top + 1) * (1 + ps.length)) ≤ 100 * 409 := Nat.mul_le_mul (by omega) (by have := Nat.mul_le_mul (show top + 1 ≤ 4 by omega) (show 1 + ps.length ≤ 101 by omega); omega)
    omega
  refine ⟨fun hlt => go 60 ?_, fun hge => go 60 ?_⟩
  · have hi : i < ps.length := by simpa using hlt
    have hx : (ps.map pathV)[((i : Nat) : Int).toNat]? = some (pathV ps[i]) := by simp [hi]
    have hp : ps.getD i [] = ps[i] := by simp [hi]
    have hm : manyO ps top (i + 1) = manyO ps top i ++ (headO ps[i] ++ gapsO ps i ps[i] (top + 1)) := by rw [manyO, hp]
    generalize ps[i] = p at hx hm
    refine ⟨Int.natCast_nonneg i, _, hx, ⟨rfl, trivial⟩, rfl, rfl, ⟨rfl, rfl, rfl, rfl, rfl, trivial⟩, rfl, rfl, rfl, rfl, room_of2 (by simp only [List.length_cons, List.length_nil]; omega) (by decide), ?_⟩
    show Goes _ _ _ _
    refine goes_iter (ι := Nat × Nat × List V) (fun n => n.1 ≤ top + 1 ∧ WkE 11 n.2.2 ((manyO ps top i ++ (headO p ++ gapsO ps i p n.1)).map opV)) (fun n => top + 1 - n.1) (fun n => [(8, .int .i64 n.1), (7, pathV p), (6, .int .i64 i), (5, .osl (.loc 0) n.2.1 0 n.2.2.length), (1, .int .i64 top), (0, pathsV ps)]) (fun n => [some (.vec n.2.1 11 n.2.2)]) (0, bump g, _) 60 (fun _ => rfl) (fun _ => rfl)
      ⟨⟨Nat.zero_le _, many_headT k2⟩, ⟨⟨rfl, rfl⟩, ⟨rfl, rfl⟩, ⟨rfl, rfl⟩, ⟨(many_osl ..), rfl⟩, ⟨rfl, rfl⟩, ⟨rfl, rfl⟩, trivial⟩, ⟨⟨rfl, rfl⟩, trivial⟩⟩ ?_
    rintro ⟨n, g2, ys⟩ ⟨j1, j2⟩ next2
    simp only at j1 j2
    have hl2 : ys.length ≤ 50000 := by
      have h1 := j2.len
      rw [List.length_map, List.length_append, List.length_append, many_len, gaps_len] at h1
      have h2 : i * (5 + (top + 1) * (1 + ps.length)) ≤ 100 * 409 := Nat.mul_le_mul (by omega) (by have := Nat.mul_le_mul (show top + 1 ≤ 4 by omega) (show 1 + ps.length ≤ 101 by omega); omega)
      have h3 : n * (1 + ps.length) ≤ 4 * 101 := Nat.mul_le_mul (show n ≤ 4 by omega) (by omega)
      have h4 : (headO p).length = 5 := rfl
      omega
    refine ⟨fun hlt => go 60 ?_, fun hge => go 60 ?_⟩
    · have hn : n ≤ top := by have := of_decide_eq_true hlt; omega
      refine ⟨by constructor <;> omega, by constructor <;> omega, by constructor <;> omega, ⟨rfl, trivial⟩, rfl, rfl, rfl, rfl, room_of2 (by simp only [List.length_cons, List.length_nil]; omega) (by decide), ?_⟩
      show Goes _ _ _ _
      refine goes_iter (ι := Nat × Nat × List V) (fun k => k.1 ≤ ps.length ∧ WkE 11 k.2.2 ((manyO ps top i ++ (headO p ++ (gapsO ps i p n ++ (putO i p n :: (ps.take k.1).map (movO p n))))).map opV)) (fun k => ps.length - k.1) (fun k => [(9, .int .i64 k.1), (8, .int .i64 n), (7, pathV p), (6, .int .i64 i), (5, .osl (.loc 0) k.2.1 0 k.2.2.length), (1, .int .i64 top), (0, pathsV ps)]) (fun k => [some (.vec k.2.1 11 k.2.2)]) (0, bump g2, _) 60 (fun _ => rfl) (fun _ => rfl)
        ⟨⟨Nat.zero_le _, many_putT j2⟩, ⟨⟨rfl, rfl⟩, ⟨rfl, rfl⟩, ⟨rfl, rfl⟩, ⟨rfl, rfl⟩, ⟨(many_osl ..), rfl⟩, ⟨rfl, rfl⟩, ⟨rfl, rfl⟩, trivial⟩, ⟨⟨rfl, rfl⟩, trivial⟩⟩ ?_
      rintro ⟨k, g3, us⟩ ⟨m1, m2⟩ next3
      simp only at m1 m2
      have hl3 : us.length ≤ 60000 := by
        have h1 := m2.len
        rw [List.length_map, List.length_append, List.length_append, List.length_append, many_len, gaps_len, List.length_cons, List.length_map, List.length_take] at h1
        have h2 : i * (5 + (top + 1) * (1 + ps.length)) ≤ 100 * 409 := Nat.mul_le_mul (by omega) (by have := Nat.mul_le_mul (show top + 1 ≤ 4 by omega) (show 1 + ps.length ≤ 101 by omega); omega)
        have h3 : n * (1 + ps.length) ≤ 4 * 101 := Nat.mul_le_mul (show n ≤ 4 by omega) (by omega)
        have h4 : (headO p).length = 5 := rfl
        omega
      refine ⟨fun hlt => go 60 ?_, fun hge => go 60 ?_⟩
      · have hk : k < ps.length := by simpa using hlt
        have hy : (ps.map pathV)[((k : Nat) : Int).toNat]? = some (pathV ps[k]) := by simp [hk]
        have m3 := many_movT m2 hk
        refine ⟨Int.natCast_nonneg k, _, hy, ⟨rfl, trivial⟩, rfl, rfl, rfl, rfl, room_of2 (by simp only [List.length_cons, List.length_nil]; omega) (by decide), ?_⟩
        refine ⟨by constructor <;> omega, ?_⟩
        show Goes _ _ _ _
        exact next3 (k + 1, bump g3, _) _ _ ⟨⟨hk, m3⟩, by simp only; omega, ⟨⟨rfl, rfl⟩, ⟨rfl, rfl⟩, ⟨rfl, rfl⟩, ⟨rfl, rfl⟩, ⟨(many_osl ..), rfl⟩, ⟨rfl, rfl⟩, ⟨rfl, rfl⟩, trivial⟩, ⟨⟨rfl, rfl⟩, trivial⟩⟩
      · have hk : k = ps.length := by have : ps.length ≤ k := by simpa using hge
                                      omega
        have m3 : WkE 11 us ((manyO ps top i ++ (headO p ++ gapsO ps i p (n + 1))).map opV) := by
          rw [hk, List.take_length] at m2
          rw [gapsO]
          exact m2
        refine ⟨by constructor <;> omega, ?_⟩
        show Goes _ _ _ _
        exact next2 (n + 1, g3, us) _ _ ⟨⟨by simp only; omega, m3⟩, by simp only; omega, ⟨⟨rfl, rfl⟩, ⟨rfl, rfl⟩, ⟨rfl, rfl⟩, ⟨rfl, rfl⟩, ⟨rfl, rfl⟩, ⟨rfl, rfl⟩, trivial⟩, ⟨⟨rfl, rfl⟩, trivial⟩⟩
    · have hn : n = top + 1 := by have := of_decide_eq_false hge; omega
      have m3 : WkE 11 ys ((manyO ps top (i + 1)).map opV) := by rw [hm, ← hn]; exact j2
      refine ⟨by constructor <;> omega, ?_⟩
      show Goes _ _ _ _
      exact next (i + 1, g2, ys) _ _ ⟨⟨hi, m3⟩, by simp only; omega, ⟨⟨rfl, rfl⟩, ⟨rfl, rfl⟩, ⟨rfl, rfl⟩, ⟨rfl, rfl⟩, trivial⟩, ⟨⟨rfl, rfl⟩, trivial⟩⟩
  · have hi : i = ps.length := by have : ps.length ≤ i := by simpa using hge
                                  omega
    subst hi
    exact ⟨trivial, rfl, rfl, rfl, rfl, rfl, opsV (manyO ps top ps.length), Wk.sl k2, rfl, rfl⟩

end Bow
/- SP32: the errors of lists brought by each other; a list brought by rows, in plain Lean. -/
namespace Bow
open Go

end Bow
/- W73: the document's answer of chapter 13: bare, joined, much, both, Both, Through; lists.Through. -/
namespace Bow
open Go Go.Proofs

end Bow
/- W75: a list brought by rows: lists.Through, the document's; the law ListsThrough, walked. -/
namespace Bow
open Go Go.Proofs

end Bow
/- SP33: lists, both sides named the other way round; bare ones; in plain Lean. -/
namespace Bow
open Go

section
variable {prior : Bool}
end

end Bow
/- W80: the law ListsBoth, walked. -/
namespace Bow
open Go Go.Proofs

end Bow
/- W89: the law ListsCloses at inputs where the plain functions say that it holds. -/
namespace Bow
open Go Go.Proofs

end Bow
/- W91: the law ListsKnown, walked. -/
namespace Bow
open Go Go.Proofs

end Bow
/- W106: the law EffectsKnown, walked. -/
namespace Bow
open Go Go.Proofs

theorem at_modM {l : List OpT} (h : l ≠ []) (j : Int) (hj : 0 ≤ j) : 0 ≤ j.tmod ((l.map opV).length : Int) ∧ ∃ o ∈ l, (l.map opV)[(j.tmod ((l.map opV).length : Int)).toNat]? = some (opV o) := by
  have hl : 0 < l.length := List.length_pos_iff.2 h
  obtain ⟨n, rfl⟩ := Int.eq_ofNat_of_zero_le hj
  have e : ((n : Nat) : Int).tmod ((l.map opV).length : Int) = ((n % l.length : Nat) : Int) := by rw [List.length_map]; rfl
  rw [e]
  have h1 : n % l.length < l.length := Nat.mod_lt _ hl
  exact ⟨Int.natCast_nonneg _, l[n % l.length], List.getElem_mem h1, by rw [show (((n % l.length : Nat) : Int)).toNat = n % l.length from rfl, List.getElem?_map, List.getElem?_eq_getElem h1]; rfl⟩
theorem refCornerS (t : Tree) (a b : OpT) (prior : Bool) (ht : t.weight ≤ 1000) (ha : smallO a = true) (hb : smallO b = true) : Pure Tryz.prog 39 [nodeV t, opV a, opV b, .bool prior] (fun x => x = cornerV (cornerT t a b prior)) := by
  have oa := ok14 ha
  have ob := ok14 hb
  have ca := small_cost ha
  have cb := small_cost hb
  have hlen := (bothX_lt (prior := prior) oa.1 ob.1 (by omega) (by omega)).2.1
  have hok := (bothX_okL a b prior).2
  have hcs : costs (bothX a b prior).2.1 ≤ 2 * 1400 := costs_le hlen fun o ho => Nat.le_trans (bothX_cost a b prior o ho) cb
  have hwa := applyR_weight t a
  exact w_refCorner t a b prior (by omega) oa.1 ob.1 ⟨by omega, by omega⟩ (by omega) (by omega) (fun o ho => (hok o ho).1)
def twinT : Tree := .mk 1 false [] [] [] [.mk 2 false [] [] [] [], .mk 1 false [] [] [] [.mk 2 false [] [] [] []]]
theorem wk_twin : WkL [.int .u64 1, .ff, .str [], .nilsl, .str [], .sl 6 [.agg [.int .u64 2, .ff, .str [], .nilsl, .str [], .nilsl], .agg [.int .u64 1, .ff, .str [], .nilsl, .str [], .sl 6 [.agg [.int .u64 2, .ff, .str [], .nilsl, .str [], .nilsl]]]]] (nodeV twinT).cells :=
  wkL_mk Wk.ff (Wk.nil 2) (Wk.sl ⟨⟨wkL_mk Wk.ff (Wk.nil 2) (Wk.nil 6), okE_node _⟩, ⟨wkL_mk Wk.ff (Wk.nil 2) (Wk.sl ⟨⟨wkL_mk Wk.ff (Wk.nil 2) (Wk.nil 6), okE_node _⟩, trivial⟩), okE_node _⟩, trivial⟩)
theorem par_sum (i k : Nat) : decide (((i : Int) + (k : Int)).tmod 2 = 0) = decide ((i + k) % 2 = 0) := by
  have e : ((i : Int) + (k : Int)).tmod 2 = (((i + k) % 2 : Nat) : Int) := rfl
  rw [e]
  exact decide_eq_decide.2 ⟨fun h => by omega, fun h => by omega⟩

set_option maxHeartbeats 8000000 in
set_option maxRecDepth 100000 in
theorem w_EffectsKnown : Pure Tryz.prog 8 [] (fun x => x = .bool true) := by
  have hw := w_works14
  have cP := w_Paths groveT (by decide)
  have cM := w_ManyT (pathsT groveT) 1 (by decide) (by decide)
  have hsm := lists_small
  have hln := lists_len
  have e0 : listOps = manyO (pathsT groveT) 1 (pathsT groveT).length := rfl
  rw [← e0] at cM
  have hgo : effOps = listOps.filter fun o => decide (ValidE groveT o = 0) := rfl
  clear e0
  generalize listOps = all at cM hsm hln hgo
  have hok : ∀ o ∈ all, smallO o = true := List.all_eq_true.1 hsm
  have hlen : all.length ≤ 1000 := by omega
  clear hsm hln
  refine pure_wk (pure_fn 60 Tryz.func8 rfl rfl rfl fun B => ?_)
  show CallThen _ _ _ _ _ _
  refine call_pure w_Grove rfl ?_
  rintro x rfl
  show CallThen _ _ _ _ _ _
  refine call_pure cP rfl ?_
  rintro x rfl
  show CallThen _ _ _ _ _ _
  refine call_pure cM rfl ?_
  rintro x rfl
  show Goes _ _ _ _
  refine goes_own 3 11 rfl ?_
  refine goes_iter (ι := Nat × Nat × List OpT) (fun i => i.1 ≤ all.length ∧ i.2.2 = (all.take i.1).filter fun o => decide (ValidE groveT o = 0)) (fun i => all.length - i.1) (fun i => [(4, .int .i64 i.1), (3, .osl (.loc 1) i.2.1 0 (i.2.2.map opV).length), (2, opsV all), (1, .ptr (.loc 0) 0)]) (fun i => [some (.box (nodeV groveT).cells), some (.vec i.2.1 11 (i.2.2.map opV))]) (0, 0, []) 60 (fun _ => rfl) (fun _ => rfl) ⟨⟨Nat.zero_le _, rfl⟩, ⟨⟨rfl, rfl⟩, ⟨rfl, rfl⟩, ⟨rfl, rfl⟩, ⟨rfl, rfl⟩, trivial⟩, ⟨⟨rfl, rfl⟩, ⟨rfl, rfl⟩, trivial⟩⟩ ?_
  rintro ⟨i, g, acc⟩ ⟨k1, k2⟩ next
  simp only at k1 k2
  have hal : acc.length ≤ 1000 := by
    rw [k2]
    exact Nat.le_trans (List.length_filter_le _ _) (by rw [List.length_take]; omega)
  refine ⟨fun hlt => go 60 ?_, fun hge => ?_⟩
  · have hi : i < all.length := by simpa using hlt
    have hx : (all.map opV)[((i : Nat) : Int).toNat]? = some (opV all[i]) := by simp [hi]
    have cv := w_refValid groveT all[i] (by decide) (small_ok (hok _ (List.getElem_mem hi)))
    have ks : (all.take (i + 1)).filter (fun o => decide (ValidE groveT o = 0)) = acc ++ ([all[i]].filter fun o => decide (ValidE groveT o = 0)) := by
      rw [List.take_succ_eq_append_getElem hi, List.filter_append, k2]
    show Goes _ _ _ _
    refine goes_draw 60 ?_
    refine ⟨Int.natCast_nonneg i, _, hx, _, cv, rfl, ?_⟩
    refine ⟨by kernel_rfl, ?_⟩
    refine ⟨fun hv => go 60 ?_, fun hv => go 60 ?_⟩
    · have ks2 : acc ++ [all[i]] = (all.take (i + 1)).filter fun o => decide (ValidE groveT o = 0) := by rw [ks, List.filter_cons, if_pos hv]; rfl
      refine ⟨Int.natCast_nonneg i, _, hx, ⟨rfl, trivial⟩, rfl, rfl, rfl, rfl, room_of2 (by simp only [List.length_map, List.length_cons, List.length_nil]; omega) (by decide), ?_⟩
      refine ⟨by constructor <;> omega, ?_⟩
      show Goes _ _ _ _
      refine next (i + 1, bump g, acc ++ [all[i]]) _ _ ⟨⟨hi, ks2⟩, by simp only; omega, ⟨⟨rfl, rfl⟩, ⟨?_, rfl⟩, ⟨rfl, rfl⟩, ⟨rfl, rfl⟩, trivial⟩, ⟨⟨rfl, rfl⟩, ⟨?_, rfl⟩, trivial⟩⟩
      · exact congrArg (V.osl (.loc 1) (bump g) 0) (by simp)
      · exact congrArg (fun z => some (HObj.vec (bump g) 11 z)) (by rw [List.map_append]; rfl)
    · have ks2 : acc = (all.take (i + 1)).filter fun o => decide (ValidE groveT o = 0) := by rw [ks, List.filter_cons, if_neg (by rw [hv]; decide)]; simp
      refine ⟨by constructor <;> omega, ?_⟩
      show Goes _ _ _ _
      exact next (i + 1, g, acc) _ _ ⟨⟨hi, ks2⟩, by simp only; omega, ⟨⟨rfl, rfl⟩, ⟨rfl, rfl⟩, ⟨rfl, rfl⟩, ⟨rfl, rfl⟩, trivial⟩, ⟨⟨rfl, rfl⟩, ⟨rfl, rfl⟩, trivial⟩⟩
  clear next
  have hi : i = all.length := by have : all.length ≤ i := by simpa using hge
                                 omega
  have hacc : acc = effOps := by rw [k2, hi, List.take_length, hgo]
  have hsa : ∀ o ∈ acc, smallO o = true := fun o ho => by
    rw [k2] at ho
    exact hok o (List.mem_of_mem_take (List.mem_filter.1 ho).1)
  have hne : acc ≠ [] := fun h => by
    have := eff_len
    rw [← hacc, h] at this
    cases this
  have hcl : ∀ (i k : Nat) (hi : i < acc.length) (hk : k < acc.length), k % 5 = i % 5 → Pure Tryz.prog 46 [nodeV groveT, opV acc[i], opV (otherO acc[i] acc[k]), .bool (decide (((i : Int) + (k : Int)).tmod 2 = 0))] (fun x => x = .bool true) := fun i k hi hk hm => by
    rw [par_sum]
    refine w_EffectsHold groveT _ _ _ ?_
    have key : ∀ (l : List OpT) (e : l = effOps) (hi : i < l.length) (hk : k < l.length), holdsB groveT l[i] (otherO l[i] l[k]) (decide ((i + k) % 2 = 0)) = true := fun l e hi hk => by
      subst e
      exact eff_holds hi hk hm
    exact key acc hacc hi hk
  clear hacc k2 hge hi hgo
  refine goes_fzSlot 3 1 rfl rfl rfl ?_
  refine go 60 ?_
  show Goes _ _ _ _
  refine goes_iter (ι := Nat) (fun i => i ≤ acc.length) (fun i => acc.length - i) (fun i => [(5, .int .i64 i), (3, .sl 11 (acc.map opV)), (1, .ptr (.loc 0) 0)]) (fun _ => [some (.box (nodeV groveT).cells)]) 0 60 (fun _ => rfl) (fun _ => rfl) ⟨Nat.zero_le _, ⟨⟨rfl, rfl⟩, ⟨rfl, rfl⟩, ⟨rfl, rfl⟩, trivial⟩, ⟨⟨rfl, rfl⟩, trivial⟩⟩ ?_
  clear k1
  rintro i k1 next
  refine ⟨fun hlt => go 60 ?_, fun hge => go 60 ?_⟩
  · have hi : i < acc.length := by simpa using hlt
    have hx : (acc.map opV)[((i : Nat) : Int).toNat]? = some (opV acc[i]) := by simp [hi]
    refine ⟨by decide, ?_⟩
    show Goes _ _ _ _
    refine goes_iter (ι := Nat) (fun k => k ≤ acc.length + 5 ∧ k % 5 = i % 5) (fun k => acc.length + 6 - k) (fun k => [(6, .int .i64 k), (5, .int .i64 i), (3, .sl 11 (acc.map opV)), (1, .ptr (.loc 0) 0)]) (fun _ => [some (.box (nodeV groveT).cells)]) (i % 5) 60 (fun _ => rfl) (fun _ => rfl) ⟨⟨by omega, by omega⟩, ⟨⟨rfl, rfl⟩, ⟨rfl, rfl⟩, ⟨rfl, rfl⟩, ⟨rfl, rfl⟩, trivial⟩, ⟨⟨rfl, rfl⟩, trivial⟩⟩ ?_
    rintro k ⟨j1, j2⟩ next1
    refine ⟨fun hlt => go 60 ?_, fun hge => go 60 ?_⟩
    · have hk : k < acc.length := by simpa using hlt
      have hy : (acc.map opV)[((k : Nat) : Int).toNat]? = some (opV acc[k]) := by simp [hk]
      have cc := hcl i k hi hk j2
      generalize acc[i] = oa at hx cc
      generalize acc[k] = ob at hy cc
      show Goes _ _ _ _
      refine goes_draw 60 ?_
      refine ⟨Int.natCast_nonneg i, _, hx, Int.natCast_nonneg k, _, hy, ?_⟩
      refine ⟨by kernel_rfl, ?_⟩
      refine ⟨by kernel_rfl, ?_⟩
      refine ⟨by kernel_rfl, ?_⟩
      refine ⟨fun q1 => ?_, fun q1 => go 60 ?_⟩
      · refine go 60 ?_
        refine ⟨fun q2 => go 60 ?_, fun q2 => go 60 ?_⟩
        · have e : otherO oa ob = { ob with id := 500 } := by
            unfold otherO
            rw [q1, q2]
            rfl
          rw [e] at cc
          refine ⟨by constructor <;> omega, by decide, ?_⟩
          show CallThen _ _ _ _ _ _
          refine call_pure cc rfl ?_
          rintro z rfl
          refine ⟨fun q => (by cases q), fun _ => go 60 ?_⟩
          refine ⟨by constructor <;> omega, ?_⟩
          show Goes _ _ _ _
          exact next1 (k + 5) _ _ ⟨⟨by omega, by omega⟩, by omega, ⟨⟨rfl, rfl⟩, ⟨rfl, rfl⟩, ⟨rfl, rfl⟩, ⟨rfl, rfl⟩, trivial⟩, ⟨⟨rfl, rfl⟩, trivial⟩⟩
        · have e : otherO oa ob = ob := by
            unfold otherO
            rw [q1, q2]
            rfl
          rw [e] at cc
          refine ⟨by constructor <;> omega, by decide, ?_⟩
          show CallThen _ _ _ _ _ _
          refine call_pure cc rfl ?_
          rintro z rfl
          refine ⟨fun q => (by cases q), fun _ => go 60 ?_⟩
          refine ⟨by constructor <;> omega, ?_⟩
          show Goes _ _ _ _
          exact next1 (k + 5) _ _ ⟨⟨by omega, by omega⟩, by omega, ⟨⟨rfl, rfl⟩, ⟨rfl, rfl⟩, ⟨rfl, rfl⟩, ⟨rfl, rfl⟩, trivial⟩, ⟨⟨rfl, rfl⟩, trivial⟩⟩
      · have e : otherO oa ob = ob := by
          unfold otherO
          rw [q1]
          rfl
        rw [e] at cc
        refine ⟨by constructor <;> omega, by decide, ?_⟩
        show CallThen _ _ _ _ _ _
        refine call_pure cc rfl ?_
        rintro z rfl
        refine ⟨fun q => (by cases q), fun _ => go 60 ?_⟩
        refine ⟨by constructor <;> omega, ?_⟩
        show Goes _ _ _ _
        exact next1 (k + 5) _ _ ⟨⟨by omega, by omega⟩, by omega, ⟨⟨rfl, rfl⟩, ⟨rfl, rfl⟩, ⟨rfl, rfl⟩, ⟨rfl, rfl⟩, trivial⟩, ⟨⟨rfl, rfl⟩, trivial⟩⟩
    clear next1
    have hz1 := at_modM hne ((i : Int) * 7 + 3) (by omega)
    have hz2 := at_modM hne ((i : Int) * 3 + 1) (by omega)
    have hz3 := at_modM hne ((i : Int) * 11 + 2) (by omega)
    have hnz : (((acc.map opV).length : Nat) : Int) ≠ 0 := by rw [List.length_map]; have := List.length_pos_iff.2 hne; omega
    refine Exists.elim hz1.2 fun o1 h1 => Exists.elim hz2.2 fun o2 h2 => Exists.elim hz3.2 fun o3 h3 => ?_
    have cr := refCornerS groveT o2 o3 true (by decide) (hsa o2 h2.1) (hsa o3 h3.1)
    generalize cornerT groveT o2 o3 true = r at cr
    obtain ⟨ct, ce⟩ := r
    have s1 := w_EffectsStands groveT ct acc[i] o1 (decide ((i : Int).tmod 2 = 0))
    have s2 := w_EffectsStands groveT groveT acc[i] o1 (decide ((i : Int).tmod 2 = 0))
    have s3 := w_EffectsCorner groveT acc[i] o1 (decide ((i : Int).tmod 2 = 0))
    have s4 := w_EffectsStands groveT zeroT0 acc[i] o1 true
    generalize acc[i] = oa at hx s1 s2 s3 s4
    show Goes _ _ _ _
    refine goes_draw 60 ?_
    refine ⟨Int.natCast_nonneg i, _, hx, by constructor <;> omega, by constructor <;> omega, hnz, hz1.1, _, h1.2, ?_⟩
    refine ⟨by kernel_rfl, ?_⟩
    refine ⟨by kernel_rfl, ?_⟩
    refine ⟨by kernel_rfl, ?_⟩
    show Goes _ _ _ _
    refine goes_draw 60 ?_
    refine ⟨by constructor <;> omega, by constructor <;> omega, hnz, hz2.1, _, h2.2, by constructor <;> omega, by constructor <;> omega, hnz, hz3.1, _, h3.2, _, pure_args cr ⟨.refl _, .refl _, .refl _, Wk.tt, trivial⟩ rfl rfl, rfl, ?_⟩
    refine ⟨by kernel_rfl, ?_⟩
    refine ⟨by kernel_rfl, ?_⟩
    refine ⟨by decide, ?_⟩
    show CallThen _ _ _ _ _ _
    refine call_pure s1 rfl ?_
    rintro z rfl
    refine ⟨fun q => (by cases q), fun _ => go 60 ?_⟩
    refine ⟨by decide, ?_⟩
    show CallThen _ _ _ _ _ _
    refine call_pure s2 rfl ?_
    rintro z rfl
    refine ⟨fun q => (by cases q), fun _ => go 60 ?_⟩
    refine ⟨by decide, ?_⟩
    show CallThen _ _ _ _ _ _
    refine call_pure s3 rfl ?_
    rintro z rfl
    refine ⟨fun q => (by cases q), fun _ => go 60 ?_⟩
    show CallThen _ _ _ _ _ _
    refine call_pure (pure_args s4 ⟨.refl _, wk_zeroC, .refl _, .refl _, Wk.tt, trivial⟩ rfl rfl) rfl ?_
    rintro z rfl
    refine ⟨fun q => (by cases q), fun _ => go 60 ?_⟩
    refine ⟨by constructor <;> omega, ?_⟩
    show Goes _ _ _ _
    exact next (i + 1) _ _ ⟨hi, by omega, ⟨⟨rfl, rfl⟩, ⟨rfl, rfl⟩, ⟨rfl, rfl⟩, trivial⟩, ⟨⟨rfl, rfl⟩, trivial⟩⟩
  clear next hcl
  have hl0 : 0 < acc.length := List.length_pos_iff.2 hne
  have hx : (acc.map opV)[((0 : Nat) : Int).toNat]? = some (opV acc[0]) := by simp [hl0]
  generalize acc[0] = oa at hx
  have f1 := w_EffectsFind groveT 8 (by decide)
  have f2 := w_EffectsFind groveT 1 (by decide)
  have f3 := w_EffectsFind groveT 99 (by decide)
  have f4 := w_EffectsFind twinT 2 (by decide)
  have f5 := w_EffectsFind twinT 1 (by decide)
  have f6 := w_EffectsStands groveT groveT (noOp 0) oa true
  have f7 := w_EffectsStands groveT twinT oa (noOp 9) true
  have f8 := w_EffectsCorner groveT (noOp 0) oa true
  refine ⟨⟨rfl, trivial⟩, rfl, rfl, ⟨rfl, rfl, trivial⟩, ?_⟩
  show Goes _ _ _ _
  refine goes_freezeIn 2 [3] rfl rfl rfl ?_
  show Goes _ _ _ _
  refine goes_wkbox 3 (nodeV twinT).cells rfl rfl rfl wk_twin ?_
  show Goes _ _ _ _
  refine goes_draw 60 ?_
  have wz : ∀ k : Int, Wk (.agg (opC k .nilsl .nilsl [])) (opV (noOp k)) := fun k => Wk.agg (wk_opC (s := []) (Wk.nil 1) (Wk.nil 1))
  refine ⟨_, f1, rfl, ?_⟩
  refine ⟨fun _ => ?_, fun q => (by cases q)⟩
  refine ⟨_, f2, rfl, ?_⟩
  refine ⟨fun _ => ?_, fun q => (by cases q)⟩
  refine ⟨_, f3, rfl, ?_⟩
  refine ⟨fun _ => ?_, fun q => (by cases q)⟩
  refine ⟨_, f4, rfl, ?_⟩
  refine ⟨fun _ => ?_, fun q => (by cases q)⟩
  refine ⟨_, f5, rfl, ?_⟩
  refine ⟨fun _ => ?_, fun q => (by cases q)⟩
  refine ⟨by decide, _, hx, _, pure_args f6 ⟨.refl _, .refl _, wz 0, .refl _, Wk.tt, trivial⟩ rfl rfl, rfl, ?_⟩
  refine ⟨fun _ => ?_, fun q => (by cases q)⟩
  refine ⟨by decide, _, hx, _, pure_args f7 ⟨.refl _, .refl _, .refl _, wz 9, Wk.tt, trivial⟩ rfl rfl, rfl, ?_⟩
  refine ⟨fun _ => ?_, fun q => (by cases q)⟩
  refine ⟨by decide, _, hx, _, pure_args f8 ⟨.refl _, wz 0, .refl _, Wk.tt, trivial⟩ rfl rfl, rfl, ?_⟩
  refine ⟨fun _ => ?_, fun q => (by cases q)⟩
  refine ⟨_, hw, rfl, ?_⟩
  refine ⟨by kernel_rfl, ?_⟩
  exact ⟨trivial, rfl, rfl, rfl, leaf_b rfl⟩
end Bow
/- TD1: what is read as data at the program's types. -/
namespace Bow
open Go Go.Proofs

end Bow
/- TD2: operations that are read as data. -/
namespace Bow
open Go Go.Proofs

end Bow
