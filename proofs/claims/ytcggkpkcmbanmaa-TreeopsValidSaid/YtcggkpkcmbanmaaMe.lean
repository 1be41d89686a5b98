/- The library, part 5: W19, W20, SP5, W21, W22, SP6, W23, AE40, WB1, W24, SP7, W25, SP8, W26, SP9, W27, W28, W29, W30, TD1, TD2. -/
import Derived.Test.YtcggkpkcmbanmaaMd
import Derived.Shelf.Strings.BuilderK
import Derived.Test.YtcggkpkcmbanmaaProg
import Derived.BigCall
import Derived.Test.YtcggkpkcmbanmaaMc
import Derived.Test.YtcggkpkcmbanmaaRows
import Derived.ChangeShapes
/- W19: nodes put in and taken out. -/
namespace Bow
open Go Go.Proofs

theorem sl_all {sz : Nat} {xs : List V} : V.sl sz (xs.take xs.length) = .sl sz xs := by rw [List.take_length]

set_option maxRecDepth 100000 in
theorem w_insert1 (x y : Tree) (n : Int) (h0 : 0 ≤ n) (h1 : n ≤ y.subs.length) (hl : y.subs.length ≤ 900000) : Fun Try.prog 110 [some (.box (nodeV y).cells)] [.ptr (.loc 0) 0, .iptr [intV n] 0, .iptr (nodeV x).cells 0] (fun _ T => T = [some (.box (nodeV (insT n x y)).cells)]) := by
  refine fun_keep 1 rfl (fun_fn 100 Try.func110 rfl rfl rfl fun imps B hi => ?_)
  obtain ⟨r, rfl⟩ := List.length_eq_one_iff.1 hi
  show Goes _ _ _ _
  have hnl : n ≤ (y.subV.length : Int) := by rw [subV_len]; exact h1
  have hc := w_ConcatNode [(y.subV.drop (Int.toNat 0)).take (n.toNat - Int.toNat 0), [nodeV x], (y.subV.drop n.toNat).take ((y.subV.length : Int).toNat - n.toNat)] (by
    simp [subV_len]; omega) (by simp)
  refine goes_draw 100 ⟨by decide, h0, hnl, ?_⟩
  refine ⟨by kernel_rfl, ⟨rfl, trivial⟩, rfl, h0, hnl, Int.le_refl _, ?_⟩
  refine ⟨by kernel_rfl, rfl, rfl, ⟨rfl, rfl, rfl, trivial⟩, rfl, rfl, rfl, _, hc, rfl, ?_⟩
  refine ⟨by kernel_rfl, ?_⟩
  refine ⟨trivial, rfl, rfl, [some (.box [.int .u64 y.id, .bool y.leaf, .str y.label, .sl 2 (y.attrs.map attrV), .str y.text, .sl 6 [(y.subV.drop (Int.toNat 0)).take (n.toNat - Int.toNat 0), [nodeV x], (y.subV.drop n.toNat).take ((y.subV.length : Int).toNat - n.toNat)].flatten])], rfl, rfl, ⟨⟨rfl, rfl⟩, trivial⟩, ?_⟩
  have e : [(y.subV.drop (Int.toNat 0)).take (n.toNat - Int.toNat 0), [nodeV x], (y.subV.drop n.toNat).take ((y.subV.length : Int).toNat - n.toNat)].flatten = (y.subs.take n.toNat ++ x :: y.subs.drop n.toNat).map nodeV := by
    rw [subV_eq]
    simp [List.map_take, List.map_drop]
    rw [List.take_of_length_le (by simp)]
  rw [e, insT, withSubs_V]
  rfl

set_option maxRecDepth 100000 in
theorem w_remove1 (y : Tree) (n : Int) (h0 : 0 ≤ n) (h1 : n < y.subs.length) (hl : y.subs.length ≤ 900000) : Fun Try.prog 113 [some (.box (nodeV y).cells)] [.ptr (.loc 0) 0, .iptr [intV n] 0] (fun _ T => T = [some (.box (nodeV (delT n y)).cells)]) := by
  refine fun_keep 1 rfl (fun_fn 100 Try.func113 rfl rfl rfl fun imps B hi => ?_)
  obtain ⟨r, rfl⟩ := List.length_eq_one_iff.1 hi
  show Goes _ _ _ _
  have hnl : n ≤ (y.subV.length : Int) := by rw [subV_len]; omega
  have hnl' : n + 1 ≤ (y.subV.length : Int) := by rw [subV_len]; omega
  have hc := w_ConcatNode [(y.subV.drop (Int.toNat 0)).take (n.toNat - Int.toNat 0), (y.subV.drop (n + 1).toNat).take ((y.subV.length : Int).toNat - (n + 1).toNat)] (by
    simp [subV_len]; omega) (by simp)
  refine goes_draw 100 ⟨by decide, h0, hnl, ?_⟩
  refine ⟨⟨by omega, by omega⟩, by omega, hnl', Int.le_refl _, ?_⟩
  refine ⟨by kernel_rfl, ⟨rfl, rfl, trivial⟩, rfl, rfl, rfl, _, hc, rfl, ?_⟩
  refine ⟨by kernel_rfl, ?_⟩
  refine ⟨trivial, rfl, rfl, [some (.box [.int .u64 y.id, .bool y.leaf, .str y.label, .sl 2 (y.attrs.map attrV), .str y.text, .sl 6 [(y.subV.drop (Int.toNat 0)).take (n.toNat - Int.toNat 0), (y.subV.drop (n + 1).toNat).take ((y.subV.length : Int).toNat - (n + 1).toNat)].flatten])], rfl, rfl, ⟨⟨rfl, rfl⟩, trivial⟩, ?_⟩
  have e : [(y.subV.drop (Int.toNat 0)).take (n.toNat - Int.toNat 0), (y.subV.drop (n + 1).toNat).take ((y.subV.length : Int).toNat - (n + 1).toNat)].flatten = (y.subs.take n.toNat ++ y.subs.drop (n.toNat + 1)).map nodeV := by
    have e1 : (n + 1).toNat = n.toNat + 1 := by omega
    rw [subV_eq, e1]
    simp [List.map_take, List.map_drop]
    rw [List.take_of_length_le (by simp)]
  rw [e, delT, withSubs_V]
  rfl

set_option maxRecDepth 100000 in
theorem w_insert (t x y : Tree) (p : List Int) (n : Int) (hp : p.length ≤ 1000000) (ht : t.weight ≤ 900000) (hy : atT t p = some y) (h0 : 0 ≤ n) (h1 : n ≤ y.subs.length) :
    Pure Try.prog 89 [nodeV t, pathV p, intV n, nodeV x] (fun z => z = nodeV (changeT (insT n x) t p)) := by
  have hyw := atT_weight hy
  have hys := subs_le_weight y
  refine pure_fn 100 Try.func89 rfl rfl rfl fun B => ?_
  show CallThen _ _ _ _ _ _
  refine call_freeze 1 rfl rfl ?_
  refine call_freeze 2 rfl rfl ?_
  refine call_pure (w_change2 110 [intV n] (nodeV x).cells (insT n x) y (w_insert1 x y n h0 h1 (by omega)) p t hp (by omega) hy) rfl ?_
  rintro z rfl
  exact ⟨trivial, rfl, rfl, rfl, rfl⟩

set_option maxRecDepth 100000 in
theorem w_remove (t y : Tree) (p : List Int) (hp : p.length ≤ 1000000) (hne : p ≠ []) (ht : t.weight ≤ 900000) (hy : atT t p.dropLast = some y) (h0 : 0 ≤ p.getLast hne) (h1 : p.getLast hne < y.subs.length) :
    Pure Try.prog 90 [nodeV t, pathV p] (fun z => z = nodeV (changeT (delT (p.getLast hne)) t p.dropLast)) := by
  have hyw := atT_weight hy
  have hys := subs_le_weight y
  refine pure_fn 100 Try.func90 rfl rfl rfl fun B => ?_
  show CallThen _ _ _ _ _ _
  refine call_pure (w_Parent p hp hne) rfl ?_
  rintro z rfl
  show CallThen _ _ _ _ _ _
  refine call_freeze 2 rfl rfl ?_
  refine call_pure (w_change1 113 [intV (p.getLast hne)] (delT (p.getLast hne)) y (w_remove1 y _ h0 h1 (by omega)) p.dropLast t (by simp; omega) (by omega) hy) rfl ?_
  rintro z rfl
  exact ⟨trivial, rfl, rfl, rfl, rfl⟩
end Bow
/- W20: where a moved node lands. -/
namespace Bow
open Go Go.Proofs

def landV (r : List Int × Int) : V := .tup [pathV r.1, intV r.2]

set_option maxRecDepth 100000 in
theorem w_landing (p to : List Int) (n : Int) (hp : p.length ≤ 1000000) (ht : to.length ≤ 1000000) (hne : p ≠ []) (hn : inI n) (hr : ∀ x ∈ to, inI x) (h0 : 0 ≤ p.getLast hne) :
    Pure Try.prog 91 [pathV p, pathV to, intV n] (fun z => z = landV (landT p.dropLast (p.getLast hne) to n)) := by
  obtain ⟨hn1, hn2⟩ := hn
  have hq : p.dropLast.length ≤ 1000000 := by simp; omega
  refine pure_fn 100 Try.func91 rfl rfl rfl fun B => ?_
  show CallThen _ _ _ _ _ _
  refine call_pure (w_Parent p hp hne) rfl ?_
  rintro z rfl
  show CallThen _ _ _ _ _ _
  refine call_pure (w_pathSame p.dropLast to hq) rfl ?_
  rintro z rfl
  have other : (decide (p.dropLast = to) && decide (p.getLast hne < n)) = false → landT p.dropLast (p.getLast hne) to n = bif within p.dropLast to && (decide (p.dropLast.length < to.length) && decide (p.getLast hne < to.getD p.dropLast.length 0)) then (to.set p.dropLast.length (to.getD p.dropLast.length 0 - 1), n) else (to, n) := fun h => by
    unfold landT
    rw [h]
    rfl
  have hlen : ((p.dropLast.map intV).length : Int) = (p.dropLast.length : Int) := by simp
  refine ⟨fun g1 => go 100 ⟨fun g2 => go 100 ?_, fun g2 => ?_⟩, fun g1 => ?_⟩
  · have g2' := lt_of g2
    refine ⟨by constructor <;> omega, ?_⟩
    refine ⟨trivial, rfl, rfl, rfl, ?_⟩
    unfold landT
    rw [g1, g2]
    rfl
  case refine_2 =>
    replace other := other (by rw [g1, g2]; rfl)
    refine go 100 ?_
    show CallThen _ _ _ _ _ _
    refine call_pure (w_pathWithin p.dropLast to hq) rfl ?_
    rintro z rfl
    refine ⟨fun g3 => go 100 ⟨fun g4 => go 100 ?_, fun g4 => go 100 ?_⟩, fun g3 => go 100 ?_⟩
    · have g4' := lt_of g4
      rw [hlen] at g4'
      simp only [List.length_map] at g4'
      have g4l : p.dropLast.length < to.length := by omega
      have hx : (to.map intV)[(((p.dropLast.map intV).length : Nat) : Int).toNat]? = some (intV (to.getD p.dropLast.length 0)) := by
        have e : (((p.dropLast.map intV).length : Nat) : Int).toNat = p.dropLast.length := by simp
        rw [e, List.getElem?_map, List.getElem?_eq_getElem g4l, List.getD_eq_getElem?_getD, List.getElem?_eq_getElem g4l]
        rfl
      refine ⟨Int.natCast_nonneg _, _, hx, ?_⟩
      refine ⟨fun g5 => go 100 ?_, fun g5 => go 100 ?_⟩
      · show CallThen _ _ _ _ _ _
        refine call_sub [] (w_CloneInt (to.map intV) (by simpa using ht)) rfl rfl trivial rfl rfl rfl ?_
        rintro z T1 (⟨e, _⟩ | ⟨rfl, rfl⟩)
        · have := congrArg List.length e
          simp at this
          subst this
          simp at g4l
        refine ⟨rfl, ?_⟩
        have hx' : (to.map intV)[0 + (((p.dropLast.map intV).length : Nat) : Int).toNat]? = some (intV (to.getD p.dropLast.length 0)) := by rw [Nat.zero_add]; exact hx
        have hlt : (((p.dropLast.map intV).length : Nat) : Int) < ((to.map intV).length : Nat) := by simp; simp at g4l; omega
        have hr' := hr (to.getD p.dropLast.length 0) (by rw [List.getD_eq_getElem?_getD, List.getElem?_eq_getElem g4l]; exact List.getElem_mem g4l)
        have g5' := lt_of g5
        obtain ⟨r1, r2⟩ := hr'
        refine ⟨rfl, Int.natCast_nonneg _, hlt, rfl, _, hx', ⟨by omega, by omega⟩, rfl, Int.natCast_nonneg _, hlt, rfl, _, hx', ?_⟩
        refine ⟨trivial, rfl, rfl, rfl, by simp, rfl, ?_⟩
        rw [other]
        rw [g3, decide_eq_true g4l, g5]
        have e : 0 + (((p.dropLast.map intV).length : Nat) : Int).toNat = p.dropLast.length := by simp
        show V.tup [V.sl 1 (((to.map intV)).set _ (intV (to.getD p.dropLast.length 0 - 1))), intV n] = landV (to.set p.dropLast.length (to.getD p.dropLast.length 0 - 1), n)
        rw [e, ← List.map_set]
        rfl
      · refine ⟨trivial, rfl, rfl, rfl, ?_⟩
        rw [other, g3, decide_eq_true g4l, g5]
        rfl
    · refine ⟨trivial, rfl, rfl, rfl, ?_⟩
      have g4' := not_lt_of g4
      rw [hlen] at g4'
      simp only [List.length_map] at g4'
      have g4l : ¬ p.dropLast.length < to.length := by omega
      rw [other, g3, decide_eq_false g4l]
      rfl
    · refine ⟨trivial, rfl, rfl, rfl, ?_⟩
      rw [other, g3]
      rfl
  case refine_3 =>
    replace other := other (by rw [g1]; rfl)
    refine go 100 ?_
    show CallThen _ _ _ _ _ _
    refine call_pure (w_pathWithin p.dropLast to hq) rfl ?_
    rintro z rfl
    refine ⟨fun g3 => go 100 ⟨fun g4 => go 100 ?_, fun g4 => go 100 ?_⟩, fun g3 => go 100 ?_⟩
    · have g4' := lt_of g4
      rw [hlen] at g4'
      simp only [List.length_map] at g4'
      have g4l : p.dropLast.length < to.length := by omega
      have hx : (to.map intV)[(((p.dropLast.map intV).length : Nat) : Int).toNat]? = some (intV (to.getD p.dropLast.length 0)) := by
        have e : (((p.dropLast.map intV).length : Nat) : Int).toNat = p.dropLast.length := by simp
        rw [e, List.getElem?_map, List.getElem?_eq_getElem g4l, List.getD_eq_getElem?_getD, List.getElem?_eq_getElem g4l]
        rfl
      refine ⟨Int.natCast_nonneg _, _, hx, ?_⟩
      refine ⟨fun g5 => go 100 ?_, fun g5 => go 100 ?_⟩
      · show CallThen _ _ _ _ _ _
        refine call_sub [] (w_CloneInt (to.map intV) (by simpa using ht)) rfl rfl trivial rfl rfl rfl ?_
        rintro z T1 (⟨e, _⟩ | ⟨rfl, rfl⟩)
        · have := congrArg List.length e
          simp at this
          subst this
          simp at g4l
        refine ⟨rfl, ?_⟩
        have hx' : (to.map intV)[0 + (((p.dropLast.map intV).length : Nat) : Int).toNat]? = some (intV (to.getD p.dropLast.length 0)) := by rw [Nat.zero_add]; exact hx
        have hlt : (((p.dropLast.map intV).length : Nat) : Int) < ((to.map intV).length : Nat) := by simp; simp at g4l; omega
        have hr' := hr (to.getD p.dropLast.length 0) (by rw [List.getD_eq_getElem?_getD, List.getElem?_eq_getElem g4l]; exact List.getElem_mem g4l)
        have g5' := lt_of g5
        obtain ⟨r1, r2⟩ := hr'
        refine ⟨rfl, Int.natCast_nonneg _, hlt, rfl, _, hx', ⟨by omega, by omega⟩, rfl, Int.natCast_nonneg _, hlt, rfl, _, hx', ?_⟩
        refine ⟨trivial, rfl, rfl, rfl, by simp, rfl, ?_⟩
        rw [other]
        rw [g3, decide_eq_true g4l, g5]
        have e : 0 + (((p.dropLast.map intV).length : Nat) : Int).toNat = p.dropLast.length := by simp
        show V.tup [V.sl 1 (((to.map intV)).set _ (intV (to.getD p.dropLast.length 0 - 1))), intV n] = landV (to.set p.dropLast.length (to.getD p.dropLast.length 0 - 1), n)
        rw [e, ← List.map_set]
        rfl
      · refine ⟨trivial, rfl, rfl, rfl, ?_⟩
        rw [other, g3, decide_eq_true g4l, g5]
        rfl
    · refine ⟨trivial, rfl, rfl, rfl, ?_⟩
      have g4' := not_lt_of g4
      rw [hlen] at g4'
      simp only [List.length_map] at g4'
      have g4l : ¬ p.dropLast.length < to.length := by omega
      rw [other, g3, decide_eq_false g4l]
      rfl
    · refine ⟨trivial, rfl, rfl, rfl, ?_⟩
      rw [other, g3]
      rfl
end Bow
/- SP5: right trees, in plain Lean. -/
namespace Bow
open Go

def leS (a b : List UInt8) : Bool := Op.bytesLess a b || decide (a = b)
def ordOk : Option (List UInt8) → List UInt8 → Bool
  | none, _ => true
  | some k, s => !leS s k
def attrOk (k : Option (List UInt8)) (a : List UInt8 × List UInt8) : Bool := keyOk a.1 && (decide ((a.2.length : Int) ≤ 256) && ordOk k a.1)
/-- Attributes that are right, behind one of the key k. -/
def attrsOk : Option (List UInt8) → List (List UInt8 × List UInt8) → Bool
  | _, [] => true
  | k, a :: l => attrOk k a && attrsOk (some a.1) l
def headOk (t : Tree) : Bool := !decide ((64 : Int) < t.label.length) && (!(t.leaf && decide ((0 : Int) < t.subs.length)) && !(!t.leaf && !decide (t.text = [])))
/-- A node itself is right. -/
def rightN (t : Tree) : Bool := headOk t && attrsOk none t.attrs
mutual
def Tree.rightA : Tree → Bool
  | .mk i l a b c ss => rightN (.mk i l a b c ss) && rightsA ss
def rightsA : List Tree → Bool
  | [] => true
  | s :: ss => s.rightA && rightsA ss
end
theorem rightA_eq (t : Tree) : t.rightA = (rightN t && rightsA t.subs) := by cases t; rw [Tree.rightA]; rfl
theorem rightsA_all : ∀ ss : List Tree, rightsA ss = ss.all Tree.rightA
  | [] => by rw [rightsA]; rfl
  | s :: ss => by rw [rightsA, rightsA_all ss]; rfl
mutual
theorem pre_right : ∀ (t : Tree) (d : Int), (t.pre d).all (fun p => rightN p.2) = t.rightA
  | .mk i l a b c ss, d => by rw [Tree.pre, List.all_cons, pres_right ss (d + 1), Tree.rightA]
theorem pres_right : ∀ (ss : List Tree) (d : Int), (pres d ss).all (fun p => rightN p.2) = rightsA ss
  | [], d => by rw [pres]; rfl
  | s :: ss, d => by rw [pres, List.all_append, pre_right s d, pres_right ss d, rightsA]
end
def rightT (t : Tree) : Bool := !t.leaf && t.rightA

/-- The key ahead of place i. -/
def prevK (l : List (List UInt8 × List UInt8)) : Nat → Option (List UInt8)
  | 0 => none
  | i + 1 => some (l.getD i ([], [])).1
theorem attrs_at {l : List (List UInt8 × List UInt8)} {i : Nat} (hi : i < l.length) : attrsOk (prevK l i) (l.drop i) = (attrOk (prevK l i) l[i] && attrsOk (prevK l (i + 1)) (l.drop (i + 1))) := by
  rw [List.drop_eq_getElem_cons hi, attrsOk, prevK, List.getD_eq_getElem?_getD, List.getElem?_eq_getElem hi]
  rfl
end Bow
/- W21: right trees. -/
namespace Bow
open Go Go.Proofs

set_option maxRecDepth 100000 in
theorem w_rightN (t : Tree) (h : t.weight ≤ 1000000) : Pure Try.prog 75 [nodeV t] (fun x => x = .bool (rightN t)) := by
  have hw := weight_eq t
  refine pure_wk (pure_fn 300 Try.func75 rfl rfl rfl fun B => ?_)
  repeat' first
    | (refine ⟨fun _ => go 300 ?_, fun _ => go 300 ?_⟩)
    | (refine ⟨trivial, rfl, rfl, rfl, leaf_ff ?_⟩)
    | (show Goes _ _ _ _
       suffices hr : rightN t = attrsOk none t.attrs by
         refine goes_iter (ι := Nat) (fun i => i ≤ t.attrs.length ∧ attrsOk (prevK t.attrs i) (t.attrs.drop i) = rightN t) (fun i => t.attrs.length - i) (fun i => [(32, .int .i64 i), (31, .int .i64 (t.attrs.map attrV).length), (30, .sl 2 (t.attrs.map attrV)), (1, .ptr (.loc 0) 0)]) (fun i => [some (.box (nodeV t).cells)]) 0 300 (fun _ => rfl) (fun _ => rfl) ⟨⟨Nat.zero_le _, hr.symm⟩, ⟨⟨rfl, rfl⟩, ⟨rfl, rfl⟩, ⟨rfl, rfl⟩, ⟨rfl, rfl⟩, trivial⟩, ⟨⟨rfl, rfl⟩, trivial⟩⟩ ?_
         rintro i ⟨k1, k2⟩ next
         refine ⟨fun hlt => go 300 ?_, fun hge => go 300 ?_⟩
         · have hi : i < t.attrs.length := by simpa using hlt
           have hx : (t.attrs.map attrV)[i]? = some (attrV t.attrs[i]) := by simp [hi]
           rw [attrs_at hi] at k2
           unfold attrOk at k2
           have cont : keyOk t.attrs[i].1 = true → decide ((t.attrs[i].2.length : Int) ≤ 256) = true → ordOk (prevK t.attrs i) t.attrs[i].1 = true → attrsOk (prevK t.attrs (i + 1)) (t.attrs.drop (i + 1)) = rightN t := fun a b c => by rw [a, b, c] at k2; simpa using k2
           have stop1 : keyOk t.attrs[i].1 = false → rightN t = false := fun a => by rw [← k2, a]; rfl
           have stop2 : decide ((t.attrs[i].2.length : Int) ≤ 256) = false → rightN t = false := fun a => by rw [← k2, a]; simp
           have stop3 : ordOk (prevK t.attrs i) t.attrs[i].1 = false → rightN t = false := fun a => by rw [← k2, a]; simp
           refine ⟨Int.natCast_nonneg i, _, hx, ?_⟩
           show Goes _ _ _ _
           refine goes_draw 300 ⟨_, w_Key t.attrs[i].1, rfl, ⟨fun q1 => ?_, fun q1 => ⟨fun q2 => ?_, fun q2 => ⟨fun q3 => ?_, fun q3 => ?_⟩⟩⟩⟩
           · refine ⟨by kernel_rfl, ?_⟩
             exact ⟨trivial, rfl, rfl, rfl, leaf_ff (stop1 (by simpa using q1))⟩
           · refine ⟨by kernel_rfl, ?_⟩
             exact ⟨trivial, rfl, rfl, rfl, leaf_ff (stop2 (by have := lt_of q2; simp; omega))⟩
           · have q3' : 0 < i := by have := lt_of q3; omega
             have hx' : (t.attrs.map attrV)[((i : Int) - 1).toNat]? = some (attrV t.attrs[i - 1]) := by
               have : ((i : Int) - 1).toNat = i - 1 := by omega
               rw [this]
               simp [show i - 1 < t.attrs.length by omega]
             have hp : prevK t.attrs i = some t.attrs[i - 1].1 := by
               obtain ⟨j, rfl⟩ : ∃ j, i = j + 1 := ⟨i - 1, by omega⟩
               rw [prevK, List.getD_eq_getElem?_getD, List.getElem?_eq_getElem (by omega)]
               rfl
             rw [hp] at cont stop3
             refine ⟨⟨by omega, by omega⟩, by omega, _, hx', ?_⟩
             refine ⟨by kernel_rfl, ?_⟩
             refine ⟨fun q4 => go 300 ?_, fun q4 => go 300 ?_⟩
             · exact ⟨trivial, rfl, rfl, rfl, leaf_ff (stop3 (congrArg Bool.not q4))⟩
             · refine ⟨by constructor <;> omega, ?_⟩
               exact next (i + 1) _ _ ⟨⟨hi, cont (by simpa using q1) (by have := not_lt_of q2; simp; omega) (congrArg Bool.not q4)⟩, by omega, ⟨⟨rfl, rfl⟩, ⟨rfl, rfl⟩, ⟨rfl, rfl⟩, ⟨rfl, rfl⟩, trivial⟩, ⟨⟨rfl, rfl⟩, trivial⟩⟩
           · have q3' : i = 0 := by have := not_lt_of q3; omega
             subst q3'
             refine ⟨by kernel_rfl, ?_⟩
             refine ⟨by constructor <;> omega, ?_⟩
             exact next 1 _ _ ⟨⟨hi, cont (by simpa using q1) (by have := not_lt_of q2; simp; omega) rfl⟩, by omega, ⟨⟨rfl, rfl⟩, ⟨rfl, rfl⟩, ⟨rfl, rfl⟩, ⟨rfl, rfl⟩, trivial⟩, ⟨⟨rfl, rfl⟩, trivial⟩⟩
         · have hi : i = t.attrs.length := by have : t.attrs.length ≤ i := by simpa using hge
                                              omega
           subst hi
           rw [List.drop_eq_nil_of_le (Nat.le_refl _), attrsOk] at k2
           exact ⟨trivial, rfl, rfl, rfl, leaf_tt k2.symm⟩)
    | fail
  all_goals (simp_all [rightN, headOk, subV_eq])
def rightUpd (_ : Unit) (p : Int × Tree) : Unit × Option Code := bif rightN p.2 then ((), none) else ((), some .ret)
theorem rightUpd_all : ∀ l : List (Int × Tree), rfold rightUpd () l = bif l.all (fun p => rightN p.2) then ((), none) else ((), some .ret)
  | [] => rfl
  | p :: l => by
    rw [rfold, List.all_cons]
    cases h : rightN p.2 with
    | false => simp [rightUpd, h]
    | true =>
      simp only [rightUpd, h, cond_true, Bool.true_and]
      exact rightUpd_all l

set_option maxRecDepth 100000 in
theorem w_RightT (t : Tree) (h : t.weight ≤ 1000000) : Pure Try.prog 36 [nodeV t] (fun x => x = .bool (rightT t)) := by
  have hs := size_le_weight t
  refine pure_wk (pure_fn 100 Try.func36 rfl rfl rfl fun B => ?_)
  refine ⟨fun g1 => go 100 ?_, fun g1 => go 100 ?_⟩
  · exact ⟨trivial, rfl, rfl, rfl, leaf_ff (by unfold rightT; rw [g1]; rfl)⟩
  show CallThen _ _ _ _ _ _
  refine call_pure (w_nodes t) rfl ?_
  rintro x rfl
  show Goes _ _ _ _
  refine goes_range (σ := Unit) 100 2 (fun _ => [some (.box (nodeV t).cells), some (.box [.ff])]) rightUpd preV (fun _ l => ∀ p ∈ l, p.2.weight ≤ 1000000) () (t.pre 0) rfl rfl rfl (w_iter t (by omega)) rfl (fun _ => rfl) (fun _ => rfl) (fun _ => rfl) rfl (fun _ => rfl) (fun _ _ h => by cases h) ?_ ?_ ?_
  · exact fun p hp => Nat.le_trans (pre_mem_weight t 0 p hp).1 h
  · intro s a l hI
    refine ⟨fun _ p hp => hI p (List.mem_cons_of_mem _ hp), fun imps B r l h1 h2 => ?_⟩
    have h0 := hI a List.mem_cons_self
    have hr := w_rightN a.2 h0
    show Goes _ _ _ _
    refine goes_beginRound 100 rfl h2 rfl ?_
    show CallThen _ _ _ _ _ _
    refine call_pure hr rfl ?_
    rintro x rfl
    unfold rightUpd
    refine ⟨fun g => go 100 ?_, fun g => go 100 ?_⟩
    · have g : rightN a.2 = false := by simpa using g
      rw [g]
      exact ⟨rfl, rfl, trivial, ⟨rfl, rfl⟩, ⟨rfl, rfl⟩, ⟨rfl, rfl⟩, ⟨rfl, rfl⟩, trivial⟩
    · have g : rightN a.2 = true := by simpa using g
      rw [g]
      exact ⟨rfl, rfl, trivial, ⟨rfl, rfl⟩, ⟨rfl, rfl⟩, ⟨rfl, rfl⟩, ⟨rfl, rfl⟩, trivial⟩
  · rw [rightUpd_all, pre_right]
    cases hr : t.rightA with
    | true => exact ⟨trivial, rfl, rfl, rfl, leaf_tt (by unfold rightT; rw [g1, hr]; rfl)⟩
    | false => exact ⟨trivial, rfl, rfl, rfl, leaf_ff (by unfold rightT; rw [g1, hr]; rfl)⟩
end Bow
/- W22: right trees, in the document's words. -/
namespace Bow
open Go Go.Proofs

theorem rightsA_at {l : List Tree} {i : Nat} (hi : i < l.length) : rightsA (l.drop i) = (l[i].rightA && rightsA (l.drop (i + 1))) := by rw [List.drop_eq_getElem_cons hi, rightsA]

set_option maxRecDepth 100000 in
theorem w_refRightA (t : Tree) : t.weight ≤ 1000000 → Pure Try.prog 87 [nodeV t] (fun x => x = .bool t.rightA) := by
  induction t using Tree.ind with
  | _ t ih =>
  intro h
  have hw := weight_eq t
  refine pure_wk (pure_fn 300 Try.func87 rfl rfl rfl fun B => ?_)
  have hA := rightA_eq t
  have no : rightN t = false → t.rightA = false := fun e => by rw [hA, e]; rfl
  repeat' first
    | (refine ⟨fun _ => go 300 ?_, fun _ => go 300 ?_⟩)
    | (refine ⟨trivial, rfl, rfl, rfl, leaf_ff ?_⟩)
    | (show Goes _ _ _ _
       suffices hr : rightN t = attrsOk none t.attrs by
         refine goes_while (ι := Nat) (fun i => i ≤ t.attrs.length ∧ attrsOk (prevK t.attrs i) (t.attrs.drop i) = rightN t) (fun i => t.attrs.length - i) (fun i => [(3, .int .i64 i), (1, .ptr (.loc 0) 0)]) (fun i => [some (.box (nodeV t).cells)]) 0
           (fun _ : Unit => rightN t = true) (fun _ => [(1, .ptr (.loc 0) 0)]) (fun _ => [some (.box (nodeV t).cells)]) 300 (fun _ => rfl) (fun _ => rfl) (fun _ => rfl) (fun _ => rfl) ⟨⟨Nat.zero_le _, hr.symm⟩, ⟨⟨rfl, rfl⟩, ⟨rfl, rfl⟩, trivial⟩, ⟨⟨rfl, rfl⟩, trivial⟩⟩ ?_ ?_
         · rintro ⟨⟩ hN
           show Goes _ _ _ _
           refine goes_iter (ι := Nat) (fun i => i ≤ t.subs.length ∧ rightsA (t.subs.drop i) = rightsA t.subs) (fun i => t.subs.length - i) (fun i => [(4, .int .i64 i), (1, .ptr (.loc 0) 0)]) (fun i => [some (.box (nodeV t).cells)]) 0 300 (fun _ => rfl) (fun _ => rfl) ⟨⟨Nat.zero_le _, rfl⟩, ⟨⟨rfl, rfl⟩, ⟨rfl, rfl⟩, trivial⟩, ⟨⟨rfl, rfl⟩, trivial⟩⟩ ?_
           rintro i ⟨k1, k2⟩ next
           refine ⟨fun hlt => go 300 ?_, fun hge => go 300 ?_⟩
           · have hi : i < t.subs.length := by simpa [subV_eq] using hlt
             have hmem : t.subs[i] ∈ t.subs := List.getElem_mem hi
             have hws := weight_sub hmem
             have hsl := subs_le_weight t
             rw [rightsA_at hi] at k2
             refine ⟨Int.natCast_nonneg i, nodeV t.subs[i], by simp [subV_eq, hi], ?_⟩
             show CallThen _ _ _ _ _ _
             refine call_pure (ih _ hmem (by omega)) rfl ?_
             rintro x rfl
             refine ⟨fun g => go 300 ?_, fun g => go 300 ?_⟩
             · have g : (t.subs[i]).rightA = false := by simpa using g
               exact ⟨trivial, rfl, rfl, rfl, leaf_ff (by rw [hA, ← k2, g]; simp)⟩
             · have g : (t.subs[i]).rightA = true := by simpa using g
               rw [g, Bool.true_and] at k2
               refine ⟨by constructor <;> omega, ?_⟩
               exact next (i + 1) _ _ ⟨⟨hi, k2⟩, by omega, ⟨⟨rfl, rfl⟩, ⟨rfl, rfl⟩, trivial⟩, ⟨⟨rfl, rfl⟩, trivial⟩⟩
           · have hi : t.subs.length ≤ i := by simpa [subV_eq] using hge
             rw [List.drop_eq_nil_of_le hi, rightsA] at k2
             exact ⟨trivial, rfl, rfl, rfl, leaf_tt (by rw [hA, hN, ← k2]; rfl)⟩
         · rintro i ⟨k1, k2⟩ next post
           refine ⟨fun hlt => go 300 ?_, fun hge => go 300 ?_⟩
           · have hi : i < t.attrs.length := by simpa using hlt
             have hx : (t.attrs.map attrV)[i]? = some (attrV t.attrs[i]) := by simp [hi]
             rw [attrs_at hi] at k2
             unfold attrOk at k2
             have cont : keyOk t.attrs[i].1 = true → decide ((t.attrs[i].2.length : Int) ≤ 256) = true → ordOk (prevK t.attrs i) t.attrs[i].1 = true → attrsOk (prevK t.attrs (i + 1)) (t.attrs.drop (i + 1)) = rightN t := fun a b c => by rw [a, b, c] at k2; simpa using k2
             have stop1 : keyOk t.attrs[i].1 = false → rightN t = false := fun a => by rw [← k2, a]; rfl
             have stop2 : decide ((t.attrs[i].2.length : Int) ≤ 256) = false → rightN t = false := fun a => by rw [← k2, a]; simp
             have stop3 : ordOk (prevK t.attrs i) t.attrs[i].1 = false → rightN t = false := fun a => by rw [← k2, a]; simp
             show Goes _ _ _ _
             refine goes_draw 300 ⟨Int.natCast_nonneg i, _, hx, _, w_refKey t.attrs[i].1, rfl, ⟨fun q1 => ?_, fun q1 => ⟨Int.natCast_nonneg i, _, hx, ⟨fun q2 => ?_, fun q2 => ⟨fun q3 => ?_, fun q3 => ?_⟩⟩⟩⟩⟩
             · refine ⟨by kernel_rfl, ?_⟩
               exact ⟨trivial, rfl, rfl, rfl, leaf_ff (no (stop1 (by simpa using q1)))⟩
             · refine ⟨by kernel_rfl, ?_⟩
               exact ⟨trivial, rfl, rfl, rfl, leaf_ff (no (stop2 (by have := lt_of q2; simp; omega)))⟩
             · have q3' : 0 < i := by have := lt_of q3; omega
               have hx' : (t.attrs.map attrV)[((i : Int) - 1).toNat]? = some (attrV t.attrs[i - 1]) := by
                 have : ((i : Int) - 1).toNat = i - 1 := by omega
                 rw [this]
                 simp [show i - 1 < t.attrs.length by omega]
               have hp : prevK t.attrs i = some t.attrs[i - 1].1 := by
                 obtain ⟨j, rfl⟩ : ∃ j, i = j + 1 := ⟨i - 1, by omega⟩
                 rw [prevK, List.getD_eq_getElem?_getD, List.getElem?_eq_getElem (by omega)]
                 rfl
               rw [hp] at cont stop3
               refine ⟨Int.natCast_nonneg i, _, hx, ⟨by omega, by omega⟩, by omega, _, hx', ?_⟩
               refine ⟨by kernel_rfl, ?_⟩
               refine ⟨fun q4 => go 300 ?_, fun q4 => go 300 ?_⟩
               · exact ⟨trivial, rfl, rfl, rfl, leaf_ff (no (stop3 (congrArg Bool.not q4)))⟩
               · refine ⟨by constructor <;> omega, ?_⟩
                 exact next (i + 1) _ _ ⟨⟨hi, cont (by simpa using q1) (by have := not_lt_of q2; simp; omega) (congrArg Bool.not q4)⟩, by omega, ⟨⟨rfl, rfl⟩, ⟨rfl, rfl⟩, trivial⟩, ⟨⟨rfl, rfl⟩, trivial⟩⟩
             · have q3' : i = 0 := by have := not_lt_of q3; omega
               subst q3'
               refine ⟨by kernel_rfl, ?_⟩
               refine ⟨by constructor <;> omega, ?_⟩
               exact next 1 _ _ ⟨⟨hi, cont (by simpa using q1) (by have := not_lt_of q2; simp; omega) rfl⟩, by omega, ⟨⟨rfl, rfl⟩, ⟨rfl, rfl⟩, trivial⟩, ⟨⟨rfl, rfl⟩, trivial⟩⟩
           · have hi : i = t.attrs.length := by have : t.attrs.length ≤ i := by simpa using hge
                                                omega
             subst hi
             rw [List.drop_eq_nil_of_le (Nat.le_refl _), attrsOk] at k2
             exact post () _ _ _ rfl ⟨k2.symm, ⟨⟨rfl, rfl⟩, trivial⟩, ⟨⟨rfl, rfl⟩, trivial⟩⟩)
    | fail
  all_goals (first | refine no ?_ | skip)
  all_goals (simp_all [rightN, headOk, subV_eq])

theorem w_refRightT (t : Tree) (h : t.weight ≤ 1000000) : Pure Try.prog 61 [nodeV t] (fun x => x = .bool (rightT t)) := by
  refine pure_wk (pure_fn 100 Try.func61 rfl rfl rfl fun B => ?_)
  refine ⟨fun g1 => go 100 ?_, fun g1 => go 100 ?_⟩
  · show CallThen _ _ _ _ _ _
    refine call_pure (w_refRightA t h) rfl ?_
    rintro x rfl
    refine ⟨trivial, rfl, rfl, rfl, leaf_b ?_⟩
    unfold rightT
    rw [g1]
    rfl
  · refine ⟨trivial, rfl, rfl, rfl, leaf_ff ?_⟩
    unfold rightT
    rw [g1]
    rfl
end Bow
/- SP6: edits of a text, in plain Lean. -/
namespace Bow
open Go

def extentP (l : List PieceT) : Int := l.foldr (fun p n => p.keep + p.drop + n) 0
def editP : List UInt8 → List PieceT → List UInt8
  | t, [] => t
  | t, p :: l => t.take p.keep.toNat ++ p.put ++ editP (t.drop (p.keep + p.drop).toNat) l
/-- What Apply answers. -/
def applyE (t : List UInt8) (l : List PieceT) : List UInt8 × Int :=
  bif !rightP l then ([], 2) else bif decide ((t.length : Int) < extentP l) then ([], 50) else (editP t l, 0)
def strE (r : List UInt8 × Int) : V := .tup [.str r.1, .int .i64 r.2]
theorem extentP_cons (p : PieceT) (l : List PieceT) : extentP (p :: l) = p.keep + p.drop + extentP l := rfl
structure PieceT.Ok (p : PieceT) : Prop where
  k0 : 0 ≤ p.keep
  k1 : p.keep ≤ 1048576
  d0 : 0 ≤ p.drop
  d1 : p.drop ≤ 1048576
theorem rightGo_ok : ∀ {l : List PieceT} {n : Nat}, rightGo n l = true → (∀ p ∈ l, p.Ok) ∧ (l = [] ∨ n + putsLen l ≤ 1048576)
  | [], n, _ => ⟨(fun p h => by cases h), .inl rfl⟩
  | p :: l, n, h => by
    rw [rightGo] at h
    simp only [Bool.and_eq_true, decide_eq_true_eq] at h
    obtain ⟨⟨⟨⟨⟨h1, h2⟩, h3⟩, h4⟩, h5⟩, h6⟩ := h
    obtain ⟨k1, k2⟩ := rightGo_ok h6
    refine ⟨fun q hq => ?_, .inr ?_⟩
    · rcases List.mem_cons.1 hq with rfl | hq
      · exact ⟨h1, h2, h3, h4⟩
      · exact k1 q hq
    · have e : putsLen (p :: l) = p.put.length + putsLen l := rfl
      rw [e]
      rcases k2 with rfl | k2
      · have : putsLen [] = 0 := rfl
        omega
      · omega
theorem rightP_ok {l : List PieceT} (h : rightP l = true) : l.length ≤ 4096 ∧ (∀ p ∈ l, p.Ok) ∧ putsLen l ≤ 1048576 := by
  unfold rightP at h
  simp only [Bool.and_eq_true, decide_eq_true_eq] at h
  obtain ⟨h1, h2⟩ := h
  obtain ⟨k1, k2⟩ := rightGo_ok h2
  refine ⟨h1, k1, ?_⟩
  rcases k2 with rfl | k2
  · exact Nat.zero_le _
  · omega
theorem extentP_nonneg : ∀ {l : List PieceT}, (∀ p ∈ l, p.Ok) → 0 ≤ extentP l
  | [], _ => Int.le_refl _
  | p :: l, h => by
    have := extentP_nonneg (l := l) fun q hq => h q (List.mem_cons_of_mem _ hq)
    have hp := h p List.mem_cons_self
    have := hp.k0
    have := hp.d0
    rw [extentP_cons]
    omega
theorem extentP_le : ∀ {l : List PieceT}, (∀ p ∈ l, p.Ok) → extentP l ≤ l.length * 2097152
  | [], _ => by simp [extentP]
  | p :: l, h => by
    have := extentP_le (l := l) fun q hq => h q (List.mem_cons_of_mem _ hq)
    have hp := h p List.mem_cons_self
    have := hp.k1
    have := hp.d1
    rw [extentP_cons, List.length_cons]
    omega
theorem editP_len : ∀ {l : List PieceT} {t : List UInt8}, (∀ p ∈ l, p.Ok) → extentP l ≤ t.length → (editP t l).length ≤ t.length + putsLen l
  | [], t, _, _ => by simp [editP, putsLen]
  | p :: l, t, h, he => by
    rw [extentP_cons] at he
    have hp := h p List.mem_cons_self
    have hl := fun q hq => h q (List.mem_cons_of_mem p hq)
    have := extentP_nonneg hl
    have ih := editP_len (l := l) (t := t.drop (p.keep + p.drop).toNat) hl (by have := hp.k0; have := hp.d0; simp; omega)
    have e : putsLen (p :: l) = p.put.length + putsLen l := rfl
    rw [editP, e]
    simp at ih ⊢
    have := hp.k0
    have := hp.d0
    omega
end Bow
/- W23: edits of a text, in the document's words. -/
namespace Bow
open Go Go.Proofs

set_option maxRecDepth 100000 in
theorem w_extent (l : List PieceT) (hl : l.length ≤ 4096) (hok : ∀ p ∈ l, p.Ok) : Pure Try.prog 107 [piecesV l] (fun x => x = .int .i64 (extentP l)) := by
  refine pure_fn 100 Try.func107 rfl rfl rfl fun B => ?_
  show Goes _ _ _ _
  refine goes_iter (ι := Nat × Int) (fun i => i.1 ≤ l.length ∧ 0 ≤ i.2 ∧ i.2 + extentP (l.drop i.1) = extentP l) (fun i => l.length - i.1) (fun i => [(8, .int .i64 i.1), (7, .int .i64 (l.map pieceV).length), (6, piecesV l), (3, .int .i64 i.2)]) (fun _ => []) (0, 0) 100 (fun _ => rfl) (fun _ => rfl) ⟨⟨Nat.zero_le _, Int.le_refl _, by simp⟩, ⟨⟨rfl, rfl⟩, ⟨rfl, rfl⟩, ⟨rfl, rfl⟩, ⟨rfl, rfl⟩, trivial⟩, trivial⟩ ?_
  rintro ⟨i, n⟩ ⟨k1, k2, k3⟩ next
  simp only at k1 k2 k3
  have hle := extentP_le hok
  refine ⟨fun hlt => go 100 ?_, fun hge => go 100 ?_⟩
  · have hi : i < l.length := by simpa using hlt
    have hx : (l.map pieceV)[i]? = some (pieceV l[i]) := by simp [hi]
    have hp := hok l[i] (List.getElem_mem hi)
    have := hp.k0
    have := hp.d0
    have hn := extentP_nonneg (l := l.drop (i + 1)) fun q hq => hok q (List.mem_of_mem_drop hq)
    rw [drop_cons hi, extentP_cons] at k3
    refine ⟨Int.natCast_nonneg i, _, hx, ⟨by omega, by omega⟩, ⟨by omega, by omega⟩, ⟨by omega, by omega⟩, ?_⟩
    exact next (i + 1, n + (l[i].keep + l[i].drop)) _ _ ⟨⟨hi, by simp only; omega, by simp only; omega⟩, by simp only; omega, ⟨⟨rfl, rfl⟩, ⟨rfl, rfl⟩, ⟨rfl, rfl⟩, ⟨rfl, rfl⟩, trivial⟩, trivial⟩
  · have hi : l.length ≤ i := by simpa using hge
    rw [List.drop_eq_nil_of_le hi] at k3
    exact ⟨trivial, rfl, rfl, rfl, by rw [← k3]; simp [extentP]; rfl⟩

set_option maxRecDepth 100000 in
theorem w_refExtent (l : List PieceT) (hl : l.length ≤ 4096) (hok : ∀ p ∈ l, p.Ok) : Pure Try.prog 88 [piecesV l] (fun x => x = .int .i64 (extentP l)) := by
  refine pure_fn 100 Try.func88 rfl rfl rfl fun B => ?_
  show Goes _ _ _ _
  refine goes_iter (ι := Nat × Int) (fun i => i.1 ≤ l.length ∧ 0 ≤ i.2 ∧ i.2 + extentP (l.drop i.1) = extentP l) (fun i => l.length - i.1) (fun i => [(4, .int .i64 i.1), (0, piecesV l), (3, .int .i64 i.2)]) (fun _ => []) (0, 0) 100 (fun _ => rfl) (fun _ => rfl) ⟨⟨Nat.zero_le _, Int.le_refl _, by simp⟩, ⟨⟨rfl, rfl⟩, ⟨rfl, rfl⟩, ⟨rfl, rfl⟩, trivial⟩, trivial⟩ ?_
  rintro ⟨i, n⟩ ⟨k1, k2, k3⟩ next
  simp only at k1 k2 k3
  have hle := extentP_le hok
  refine ⟨fun hlt => go 100 ?_, fun hge => go 100 ?_⟩
  · have hi : i < l.length := by simpa using hlt
    have hx : (l.map pieceV)[i]? = some (pieceV l[i]) := by simp [hi]
    have hp := hok l[i] (List.getElem_mem hi)
    have := hp.k0
    have := hp.d0
    have hn := extentP_nonneg (l := l.drop (i + 1)) fun q hq => hok q (List.mem_of_mem_drop hq)
    rw [drop_cons hi, extentP_cons] at k3
    show Goes _ _ _ _
    refine goes_draw 100 ⟨Int.natCast_nonneg i, _, hx, ⟨by omega, by omega⟩, Int.natCast_nonneg i, _, hx, ⟨by omega, by omega⟩, ?_⟩
    refine ⟨by kernel_rfl, ?_⟩
    refine ⟨⟨by omega, by omega⟩, ?_⟩
    exact next (i + 1, n + l[i].keep + l[i].drop) _ _ ⟨⟨hi, by simp only; omega, by simp only; omega⟩, by simp only; omega, ⟨⟨rfl, rfl⟩, ⟨rfl, rfl⟩, ⟨rfl, rfl⟩, trivial⟩, trivial⟩
  · have hi : l.length ≤ i := by simpa using hge
    rw [List.drop_eq_nil_of_le hi] at k3
    exact ⟨trivial, rfl, rfl, rfl, by rw [← k3]; simp [extentP]; rfl⟩

set_option maxRecDepth 100000 in
theorem w_refEdit (t : List UInt8) (l : List PieceT) (ht : t.length ≤ 1000000000) (hl : l.length ≤ 1000000) (hpl : ∀ p ∈ l, p.put.length ≤ 1000000000) :
    Pure Try.prog 65 [.str t, piecesV l] (fun x => x = strE (applyE t l)) := by
  refine pure_fn 100 Try.func65 rfl rfl rfl fun B => ?_
  show CallThen _ _ _ _ _ _
  refine call_pure (w_refRight l hl hpl) rfl ?_
  rintro x rfl
  refine ⟨fun g1 => go 100 ?_, fun g1 => go 100 ?_⟩
  · exact ⟨trivial, rfl, rfl, rfl, by unfold applyE; rw [g1]; rfl⟩
  have hr : rightP l = true := by simpa using g1
  obtain ⟨r1, r2, r3⟩ := rightP_ok hr
  show CallThen _ _ _ _ _ _
  refine call_pure (w_refExtent l r1 r2) rfl ?_
  rintro x rfl
  refine ⟨fun g2 => go 100 ?_, fun g2 => go 100 ?_⟩
  · exact ⟨trivial, rfl, rfl, rfl, by unfold applyE; rw [g1, g2]; rfl⟩
  have g2' := not_lt_of g2
  have hfin : applyE t l = (editP t l, 0) := by unfold applyE; rw [g1, g2]; rfl
  show Goes _ _ _ _
  refine goes_iter (ι := Nat × List UInt8 × List UInt8) (fun i => i.1 ≤ l.length ∧ extentP (l.drop i.1) ≤ i.2.2.length ∧ i.2.1.length + i.2.2.length + putsLen (l.drop i.1) ≤ t.length + putsLen l ∧ i.2.1 ++ editP i.2.2 (l.drop i.1) = editP t l) (fun i => l.length - i.1)
    (fun i => [(7, .int .i64 i.1), (6, .str i.2.1), (0, .str i.2.2), (1, piecesV l)]) (fun _ => []) (0, [], t) 100 (fun _ => rfl) (fun _ => rfl) ⟨⟨Nat.zero_le _, g2', by simp, rfl⟩, ⟨⟨rfl, rfl⟩, ⟨rfl, rfl⟩, ⟨rfl, rfl⟩, ⟨rfl, rfl⟩, trivial⟩, trivial⟩ ?_
  rintro ⟨i, o, u⟩ ⟨k1, k2, k3, k4⟩ next
  simp only at k1 k2 k3 k4
  refine ⟨fun hlt => go 100 ?_, fun hge => go 100 ?_⟩
  · have hi : i < l.length := by simpa using hlt
    have hx : (l.map pieceV)[i]? = some (pieceV l[i]) := by simp [hi]
    have hp := r2 l[i] (List.getElem_mem hi)
    have p1 := hp.k0
    have p2 := hp.d0
    have p3 := hp.k1
    have p4 := hp.d1
    have hn := extentP_nonneg (l := l.drop (i + 1)) fun q hq => r2 q (List.mem_of_mem_drop hq)
    have e : putsLen (l[i] :: l.drop (i + 1)) = l[i].put.length + putsLen (l.drop (i + 1)) := rfl
    rw [drop_cons hi, extentP_cons] at k2
    rw [drop_cons hi, e] at k3
    rw [drop_cons hi, editP] at k4
    have hlen1 : ((u.drop (Int.toNat 0)).take (l[i].keep.toNat - Int.toNat 0)).length = l[i].keep.toNat := by simp; omega
    show Goes _ _ _ _
    refine goes_draw 100 ⟨Int.natCast_nonneg i, _, hx, by decide, p1, by simp only; omega, ?_, Int.natCast_nonneg i, _, hx, ?_, ?_⟩
    · simp only; rw [List.length_append, hlen1]; omega
    · simp only; rw [List.length_append, List.length_append, hlen1]; omega
    refine ⟨by kernel_rfl, ?_⟩
    show Goes _ _ _ _
    refine goes_draw 100 ⟨Int.natCast_nonneg i, _, hx, Int.natCast_nonneg i, _, hx, ⟨by omega, by omega⟩, by omega, by simp only; omega, Int.le_refl _, ?_⟩
    refine ⟨by kernel_rfl, ?_⟩
    refine ⟨⟨by omega, by omega⟩, ?_⟩
    have hlen2 : ((u.drop (l[i].keep + l[i].drop).toNat).take ((u.length : Int).toNat - (l[i].keep + l[i].drop).toNat)) = u.drop (l[i].keep + l[i].drop).toNat := List.take_of_length_le (by simp)
    refine next (i + 1, o ++ (u.drop (Int.toNat 0)).take (l[i].keep.toNat - Int.toNat 0) ++ l[i].put, (u.drop (l[i].keep + l[i].drop).toNat).take ((u.length : Int).toNat - (l[i].keep + l[i].drop).toNat)) _ _ ⟨⟨hi, ?_, ?_, ?_⟩, by simp only; omega, ⟨⟨rfl, rfl⟩, ⟨rfl, rfl⟩, ⟨rfl, rfl⟩, ⟨rfl, rfl⟩, trivial⟩, trivial⟩
    · simp only
      rw [hlen2, List.length_drop]
      omega
    · simp only
      rw [hlen2, List.length_drop, List.length_append, List.length_append, hlen1]
      omega
    · simp only
      rw [hlen2, ← k4]
      simp
  · have hi : l.length ≤ i := by simpa using hge
    rw [List.drop_eq_nil_of_le hi, editP] at k4
    rw [List.drop_eq_nil_of_le hi] at k3
    have e : putsLen [] = 0 := rfl
    rw [e] at k3
    refine ⟨by simp only; rw [List.length_append]; omega, ?_⟩
    exact ⟨trivial, rfl, rfl, rfl, by rw [hfin, ← k4]; rfl⟩
end Bow
/- AE40: a function's contract out of a walk by the kit's own tactics: all that it wrote lies in new memory. -/
namespace Bow
open Go

theorem Fr.of_below {w w' : World} {β : Nat → Loc} {H : Heap} (h : RowKit.Below w.heap.size w w') : Fr w β H w' β H :=
  ⟨⟨h.os, h.tape, h.output, h.size, Nat.le_refl _, fun r o' _ ho => ⟨o', ho, Evo.refl o', fun _ _ => rfl⟩, fun b hb _ => h.block b hb, fun b hb => .inr hb, fun _ _ => rfl⟩, fun _ _ h => h⟩

theorem HRel.of_below {w w' : World} {β : Nat → Loc} {H : Heap} (hr : HRel w β H) (h : RowKit.Below w.heap.size w w') : HRel w' β H :=
  ⟨fun r o ho => (hr.obj r o ho).mono (Fr.of_below h).toFr0 (fun b N hb => h.block b (by
    have := hr.obj r o ho
    rw [hb] at this
    exact this.lt)), hr.inj⟩

theorem pure_of_calls {P : Program} {f : FuncId} {args : List V} {Q : V → Prop} (he : Enterable P f) (hp : V.pureL args = true)
    (h : ∀ (w : World) (β : Nat → Loc) (H : Heap) (vals : Array Value), args.length = vals.size → (∀ (j : Nat) (x : V) (v : Value), args[j]? = some x → vals[j]? = some v → Rep w β H x v) →
      Calls P f vals w fun e w' => RowKit.Below w.heap.size w w' ∧ ∃ (x : V) (v : Value), e = .returned v ∧ Q x ∧ x.pureB = true ∧ Rep w' β H x v) : Pure P f args Q := by
  unfold Pure Fun
  refine ⟨he, fun w β H m B vals cs hs hl hr => ?_⟩
  obtain ⟨e, w', fr, ⟨hb, x, v, rfl, hq, hx, hv⟩, k1, k2, k3⟩ := h w β H vals hl (fun j x v hj hv => by
    have := hr j x v hj hv
    rwa [pure_conv _ _ (pureL_mem _ hp x (List.mem_of_getElem? hj))] at this) cs
  refine ⟨x, [], v, w', β, H, m, fr, ⟨rfl, hx, hq⟩, hs.same (Fr.of_below hb) (hs.hrel.of_below hb), Fr.of_below hb, ?_, k1, k2, k3⟩
  rwa [pure_conv _ _ hx]

/-- Of one cell, and nothing behind it. -/
def flatB : V → Bool
  | .int .. => true
  | .bool _ => true
  | .str _ => true
  | _ => false
def flatL : List V → Bool
  | [] => true
  | v :: vs => flatB v && flatL vs
theorem flatL_get : ∀ {vs : List V}, flatL vs = true → ∀ v ∈ vs, flatB v = true
  | [], _, v, h => by cases h
  | x :: vs, hg, v, h => by
    simp only [flatL, Bool.and_eq_true] at hg
    rcases List.mem_cons.1 h with rfl | h
    · exact hg.1
    · exact flatL_get hg.2 v h

section
variable {P : Program} {w w' : World} {β β' : Nat → Loc} {H H' : Heap}
theorem Rep.flat {x : V} {v : Value} (hx : flatB x = true) (h : Rep w β H x v) : Rep w' β' H' x v := by
  cases h <;> first | exact Rep.int .. | exact Rep.bool _ | exact Rep.str _ (by assumption) | cases hx
theorem Rep.flat_sl {sz : Nat} {xs : List V} {v : Value} (hx : ∀ x ∈ xs, flatL x.cells = true) (h : Rep w β H (.sl sz xs) v) : Rep w β0 [] (.sl sz xs) v := by
  cases h with
  | sl _ _ a cap vals hcap hmax hsz ha hr =>
    refine .sl sz xs a cap vals hcap hmax hsz (fun hne => ?_) (fun i x j c hi hj => ?_)
    · obtain ⟨ad, h1, _, h3⟩ := ha hne
      exact ⟨ad, h1, notOwn0 _, h3⟩
    · exact (hr i x j c hi hj).flat (flatL_get (hx x (List.mem_of_getElem? hi)) c (List.mem_of_getElem? hj))
/-- What a slice's cells hold. -/
theorem sl_cells {sz : Nat} {xs : List V} {v : Value} (h : Rep w β H (.sl sz xs) v) : ∃ (a : Option Addr) (cap : Nat), v = .slice a xs.length cap ∧ xs.length ≤ cap ∧ cap ≤ maxLen ∧
    (xs ≠ [] → ∃ ad, a = some ad ∧ ad.block < w.heap.size ∧ ∀ (i : Nat) (x : V) (j : Nat) (c : V), xs[i]? = some x → x.cells[j]? = some c → ∃ u, w.cell? (ad.add (i * sz + j)) = some u ∧ Rep w β H c u) := by
  cases h with
  | sl _ _ a cap vals hcap hmax hsz ha hr =>
    refine ⟨a, cap, rfl, hcap, hmax, fun hne => ?_⟩
    obtain ⟨ad, h1, _, h3, h4⟩ := ha hne
    refine ⟨ad, h1, h3, fun i x j c hi hj => ⟨_, h4 _ ?_, hr i x j c hi hj⟩⟩
    have h5 : i < xs.length := lt_of_get hi
    have h6 : j < sz := by rw [← (hsz x (List.mem_of_getElem? hi)).1]; exact lt_of_get hj
    have : (i + 1) * sz ≤ xs.length * sz := Nat.mul_le_mul_right sz h5
    rw [Nat.succ_mul] at this
    omega

theorem calls_of_pureQ {f : FuncId} {args : List V} {vals : Array Value} {Q : V → Prop} {c : Value} (h : Pure P f args Q) (hc : ∀ (x : V) (v : Value) (w' : World) (β' : Nat → Loc) (H' : Heap), Q x → Rep w' β' H' x v → v = c) (hp : V.pureL args = true) (hl : args.length = vals.size)
    (hr : ∀ (j : Nat) (x : V) (v : Value), args[j]? = some x → vals[j]? = some v → Rep w β0 [] x v) : Calls P f vals w fun e w' => e = .returned c ∧ RowKit.Below w.heap.size w w' := by
  intro cs
  have hrel : HRel w β0 [] := ⟨fun r o h => by simp at h, fun r r' b N N' hl => by obtain ⟨o, h⟩ := hl; simp at h⟩
  have hs : SRel [] 0 w β0 [] [] ⟨[], [], fun _ => none, []⟩ bare := by
    refine ⟨hrel, rfl, fun k => by simp [lk, V.conv]; exact .undef _, rfl, List.nodup_nil, by simp, rfl, fun r h _ => by simp at h, fun r _ => rfl, by simp, by simp, by simp, rfl, by simp⟩
  obtain ⟨x, v, w', β', H', fr, hq, _, _, k2, k3, k4, k5, k6⟩ := pure_step h hp hs cs hl (fun j x v hj hv => by
    rw [pure_conv _ _ (pureL_mem _ hp x (List.mem_of_getElem? hj))]
    exact hr j x v hj hv)
  have hv := hc x v _ _ _ hq k3
  subst hv
  exact ⟨.returned v, w', fr, ⟨rfl, k2.os, k2.tape, k2.output, k2.size, fun q hq => k2.keep q hq (notOwn0 q)⟩, k4, k5, k6⟩
end
end Bow
/- WB1: strings.Builder's methods at this program: by the kit's own tactics. -/
namespace Bow
open Go Go.Proofs Go.RowKit Go.Shelf

def bPtr (b : Nat) : Value := .pointer (some ⟨b, 0, none⟩)
theorem b_size : ((Try.prog).info? 110).map (·.size) = some 2 := by kernel_rfl
theorem b_lies : liesAt Try.prog Try.prog.depth 110 (2 / (Try.prog).cellsOf 110) 0 110 1 = true := by kernel_rfl
theorem b_byte : ((Try.prog).info? 5).map (fun i => (i.zero, i.size, i.bytes)) = some (some (.int .u8 0), 1, 1) := by kernel_rfl

set_option maxHeartbeats 1000000 in
set_option maxRecDepth 100000 in
theorem b_copyCheck_used (b : Nat) (w : World) (h0 : w.cell? ⟨b, 0, none⟩ = some (.pointer (some ⟨b, 0, none⟩))) :
    Calls Try.prog 120 #[.pointer (some ⟨b, 0, none⟩)] w fun e w' => e = .returned (.tuple #[]) ∧ w' = w := by
  obtain ⟨j, hj, _⟩ := Option.map_eq_some_iff.1 b_size
  go_enter Try.func120, Try.ntmps120
  go_wp2
  rw [Lib.run_neq_ptr_same w _ Try.underlying108 hj]
  go_wp2
  go_end0
  exact ⟨rfl, rfl⟩

set_option maxHeartbeats 1000000 in
set_option maxRecDepth 100000 in
theorem b_copyCheck_fresh (b : Nat) (w : World) (h0 : w.cell? ⟨b, 0, none⟩ = some (.pointer none)) (hsh : w.shape? b = some (110, 2)) (hfz : w.frozen? ⟨b, 0, none⟩ = false) :
    Calls Try.prog 120 #[.pointer (some ⟨b, 0, none⟩)] w fun e w' => e = .returned (.tuple #[]) ∧ w' = w.setCell ⟨b, 0, none⟩ (.pointer (some ⟨b, 0, none⟩)) := by
  obtain ⟨j, hj, hjs⟩ := Option.map_eq_some_iff.1 b_size
  go_enter Try.func120, Try.ntmps120
  go_wp2
  rw [Lib.run_to_unsafe w ⟨b, 0, none⟩ Try.underlying108 Try.underlying131 hj (by rw [hjs]; decide) hsh (Nat.zero_lt_succ 1)]
  simp only [Result.andThen]
  rw [Oper.upon_value]
  go_wp2
  rw [run_callFunc_extern Try.func124 (by kernel_rfl) (by kernel_rfl) (by kernel_rfl) (e := Extern.AbiNoEscape.same) (by kernel_rfl)]
  rw [Lib.run_noEscape]
  simp only [Result.andThen]
  rw [Oper.upon_value]
  go_wp2
  rw [Lib.run_from_unsafe w ⟨b, 0, none⟩ Try.underlying131 Try.underlying108 hj hsh b_lies]
  simp only [Result.andThen]
  rw [Oper.upon_value]
  go_wp2
  go_end0
  exact ⟨rfl, rfl⟩

theorem b_copyCheck (B b : Nat) (bs : List Value) (w : World) (h : Lib.IsBuilderF 110 5 B b bs w) :
    Calls Try.prog 120 #[.pointer (some ⟨b, 0, none⟩)] w fun e w' => e = .returned (.tuple #[]) ∧ (Lib.BuilderAtF 110 5 B b (.pointer (some ⟨b, 0, none⟩)) bs w' ∧ Below B w w' ∧ Lib.OthersKept 5 (some b) w w') := by
  rcases h with h | h
  · refine (b_copyCheck_fresh b w h.cell0 h.shape h.frozen0).mono ?_
    rintro e w' ⟨rfl, rfl⟩
    exact ⟨rfl, h.used _, (Below.refl B w).setCell (p := ⟨b, 0, none⟩) h.1 _, (Lib.OthersKept.refl _ _ w).setCell ⟨b, 0, none⟩ rfl _⟩
  · refine (b_copyCheck_used b w h.cell0).mono ?_
    rintro e w' ⟨rfl, rfl⟩
    exact ⟨rfl, h, Below.refl B _, Lib.OthersKept.refl _ _ _⟩

set_option maxHeartbeats 2000000 in
set_option maxRecDepth 100000 in
theorem b_WriteString (B b : Nat) (bs : List Value) (s : ByteArray) (w : World) (h : Lib.IsBuilderF 110 5 B b bs w) (hlen : bs.length + s.size ≤ 140737488355328) (hBw : B ≤ w.heap.size) :
    Calls Try.prog 108 #[.pointer (some ⟨b, 0, none⟩), .string s] w fun e w' => e = .returned (.tuple #[.int .i64 s.size, .nilIface]) ∧ (Lib.BuilderAtF 110 5 B b (.pointer (some ⟨b, 0, none⟩)) (bs ++ Lib.strCells s) w' ∧ Below B w w' ∧ Lib.OthersKept 5 (some b) w w') := by
  obtain ⟨i0, hi, hz0, hz1, hz2⟩ := info_parts b_byte
  go_enter Try.func108, Try.ntmps108
  go_wp2_with (go_at_call 120; refine (b_copyCheck B b bs _ h).mono ?_)
  rintro e w1 ⟨rfl, h1, hb1, hk1⟩
  obtain ⟨hB, v, hbk, hown, hne⟩ := h1
  have c0 : w1.cell? ⟨b, 0, none⟩ = some (.pointer (some ⟨b, 0, none⟩)) := by rw [Lib.cell_of_heap hbk]; rfl
  have c1 : w1.cell? ⟨b, 1, none⟩ = some v := by rw [Lib.cell_of_heap hbk]; rfl
  go_wp2_with (at_builtin; refine Lib.wpList_append_own_stringF _ rfl _ _ 91 9 rfl B 5 i0 Try.underlying91 Try.underlying9 hi hz0 hz1 hz2 _ _ _ rfl hown s rfl ?c3 ?c4 ?c5 ?_)
  case c3 => unfold maxLen; omega
  case c4 => omega
  case c5 => have := hb1.size; omega
  intro v' w2 hown' hgrow _
  have hlt : b < w1.heap.size := by
    rcases Nat.lt_or_ge b w1.heap.size with h' | h'
    · exact h'
    · simp [Array.getElem?_eq_none h'] at hbk
  have hb2 : w2.heap[b]? = some (.cells #[.pointer (some ⟨b, 0, none⟩), v] 110 (0, 0)) := by
    rw [hgrow.block b hlt (fun e => hne e.symm)]
    exact hbk
  have d0 : w2.cell? ⟨b, 0, none⟩ = some (.pointer (some ⟨b, 0, none⟩)) := by rw [Lib.cell_of_heap hb2]; rfl
  have d1 : w2.cell? ⟨b, 1, none⟩ = some v := by rw [Lib.cell_of_heap hb2]; rfl
  have f1 : w2.frozen? ⟨b, 1, none⟩ = false := Lib.frozen_of_heap hb2 1
  obtain ⟨ao, n', cap, rfl⟩ : ∃ ao n' cap, v' = .slice ao n' cap := by
    rcases hown'.2 with ⟨hv, _⟩ | ⟨g, cap, cur, fz, hv, _⟩
    · exact ⟨_, _, _, hv⟩
    · exact ⟨_, _, _, hv⟩
  go_wp2
  go_ret2
  refine ⟨rfl, ?_, ?_, (hk1.grown hgrow (Lib.ownsRowF_kind hown)).setCell ⟨b, 1, none⟩ rfl _⟩
  · exact Lib.BuilderAtF.put (T := 110) (e := 5) hB hb2 (bs' := bs ++ Lib.strCells s) (by simpa [Lib.strCells_length] using hown') (by decide)
  · exact (hb1.grown hgrow (by have := hb1.size; omega) (fun k hk => (hown.lt k hk).1)).setCell (p := ⟨b, 1, none⟩) hB _

def bRen : Ren where
  f := fun | 169 => 109 | n => n
  t := fun | 0 => 0 | 3 => 3 | 9 => 9 | 37 => 91 | 70 => 108 | 72 => 110 | 127 => 125 | 5 => 5 | n => n
  g := fun n => n
theorem bLays : Lays.n169 Try.prog bRen := {
  mixed := by kernel_rfl
  f169 := Try.func109.trans (congrArg some (by kernel_rfl))
  t0 := Try.underlying0
  a0 := Try.isAgg0
  z0 := Try.sizeOf0
  v0 := Try.zeroValue0
  t3 := Try.underlying3
  a3 := Try.isAgg3
  z3 := Try.sizeOf3
  v3 := Try.zeroValue3
  t9 := Try.underlying9
  a9 := Try.isAgg9
  z9 := Try.sizeOf9
  v9 := Try.zeroValue9
  t37 := Try.underlying91
  a37 := Try.isAgg91
  z37 := Try.sizeOf91
  v37 := Try.zeroValue91
  t70 := Try.underlying108
  a70 := Try.isAgg108
  z70 := Try.sizeOf108
  v70 := Try.zeroValue108
  t72 := Try.underlying110
  a72 := Try.isAgg110
  z72 := Try.sizeOf110
  v72 := Try.zeroValue110
  t127 := Try.underlying125
  a127 := Try.isAgg125
  z127 := Try.sizeOf125
  v127 := Try.zeroValue125
}
theorem bExtra : Builder.Extra Try.prog bRen := {
  sizeBuilder := by kernel_rfl
  liesBuilder := by kernel_rfl
  t5 := Try.underlying5
  a5 := Try.isAgg5
  z5 := Try.sizeOf5
  v5 := Try.zeroValue5
  infoByte := by kernel_rfl
  cellsByte := by kernel_rfl
  sizeByte := by kernel_rfl
  neB5 := by decide
}
theorem b_String (B b : Nat) (l : List UInt8) (w : World) (h : Lib.IsBuilderF 110 5 B b (Lib.byteCells l) w) (hBw : B ≤ w.heap.size) :
    Calls Try.prog 109 #[.pointer (some ⟨b, 0, none⟩)] w fun e w' => e = .returned (.string ⟨l.toArray⟩) ∧ (Lib.IsBuilderF 110 5 B b (Lib.byteCells l) w' ∧ Below B w w' ∧ Lib.OthersKept 5 (some b) w w') :=
  Any.Builder_String_any_k bLays bExtra B b l w h hBw
end Bow
/- W24: leaftext.Apply, by the kit's own tactics. -/
namespace Bow
open Go Go.Proofs Go.RowKit

theorem pieces_flat (l : List PieceT) : ∀ x ∈ l.map pieceV, flatL x.cells = true := by
  intro x hx
  obtain ⟨p, _, rfl⟩ := List.mem_map.1 hx
  rfl

theorem c_right (l : List PieceT) (hl : l.length ≤ 1000000) (hpl : ∀ p ∈ l, p.put.length ≤ 1000000000) (v : Value) (w : World) (h : Rep w β0 [] (piecesV l) v) :
    Calls Try.prog 56 #[v] w fun e w' => e = .returned (.bool (rightP l)) ∧ Below w.heap.size w w' := by
  refine calls_of_pureQ (w_Right l hl hpl) (fun x u w' β' H' hx hu => ?_) rfl rfl ?_
  · subst hx
    exact rep_bool (m := []) hu
  · intro j x u hj hu
    cases j with
    | zero => simp at hj hu; subst hj hu; exact h
    | succ j => simp at hj
theorem c_extent (l : List PieceT) (hl : l.length ≤ 4096) (hok : ∀ p ∈ l, p.Ok) (v : Value) (w : World) (h : Rep w β0 [] (piecesV l) v) :
    Calls Try.prog 107 #[v] w fun e w' => e = .returned (.int .i64 (extentP l)) ∧ Below w.heap.size w w' := by
  refine calls_of_pureQ (w_extent l hl hok) (fun x u w' β' H' hx hu => ?_) rfl rfl ?_
  · subst hx
    exact rep_int (m := []) hu
  · intro j x u hj hu
    cases j with
    | zero => simp at hj hu; subst hj hu; exact h
    | succ j => simp at hj

theorem rep_below {w w' : World} {x : V} {v : Value} (h : Rep w β0 [] x v) (hb : Below w.heap.size w w') : Rep w' β0 [] x v := h.mono (Fr.of_below hb)

theorem ba_of (x : ByteArray) (y : List UInt8) (h : x.data.toList = y) : x = ⟨y.toArray⟩ := by
  obtain ⟨⟨l⟩⟩ := x
  subst h
  rfl
theorem hidU {p : Prop} (h : p) : Hid p := h

set_option maxHeartbeats 4000000 in
set_option maxRecDepth 1000000 in
theorem edit_walk (S : ByteArray) (l : List PieceT) (ht : S.size ≤ 1000000000) (hl : l.length ≤ 1000000) (hpl : ∀ p ∈ l, p.put.length ≤ 1000000000) (ao : Option Addr) (cap : Nat) (w : World) (hrep : Rep w β0 [] (piecesV l) (.slice ao l.length cap)) :
    Calls Try.prog 86 #[.string S, .slice ao l.length cap] w fun e w' => e = .returned (.tuple #[.string ⟨(applyE S.data.toList l).1.toArray⟩, .int .i64 (applyE S.data.toList l).2]) ∧ Below w.heap.size w w' := by
  go_enter Try.func86, Try.ntmps86
  have cR := c_right l hl hpl _ w hrep
  go_wp2_with (go_at_call 56; refine cR.mono ?_)
  rintro e w1 ⟨rfl, hb1⟩
  clear cR
  cases hr : rightP l with
  | false =>
    go_wp2
    go_ret2
    refine ⟨?_, hb1⟩
    unfold applyE
    rw [hr]
    rfl
  | true =>
    obtain ⟨r1, r2, r3⟩ := rightP_ok hr
    have cE := c_extent l r1 r2 _ w1 (rep_below hrep hb1)
    go_wp2_with (go_at_call 107; refine cE.mono ?_)
    rintro e w2 ⟨rfl, hb2⟩
    clear cE
    have hb12 : Below w.heap.size w w2 := hb1.trans (hb2.mono hb1.size)
    by_cases hx : (S.size : Int) < extentP l
    · go_wp2
      go_ret2
      refine ⟨?_, hb12⟩
      unfold applyE
      rw [hr, decide_eq_true (by simpa using hx)]
      rfl
    · go_wp2
      go_loopw [0, 21] (fun text i wr => ∃ (k : Nat) (T acc : List UInt8), k ≤ l.length ∧ text = .string ⟨T.toArray⟩ ∧ i = .int .i64 k ∧ Lib.IsBuilderF 110 5 w2.heap.size w2.heap.size (Lib.byteCells acc) wr ∧ Below w2.heap.size w2 wr ∧ acc ++ editP T (l.drop k) = editP S.data.toList l ∧ extentP (l.drop k) ≤ T.length ∧ acc.length + T.length + putsLen (l.drop k) ≤ S.data.toList.length + putsLen l) (fun _ i _ => l.length - (intOf i).toNat)
      case atStart =>
        refine ⟨0, S.data.toList, [], Nat.zero_le _, rfl, rfl, Lib.IsBuilderF.of (Lib.fresh_isBuilder _ _ w2), (Below.refl _ _).alloc (Nat.le_refl _) _, rfl, ?_, ?_⟩
        · simpa using hx
        · simp
      case round =>
        obtain ⟨k, T, acc, hk, rfl, rfl, hI, hbw, hacc, hext, hsz⟩ := hrel
        by_cases hlt : k < l.length
        · obtain ⟨a, cap', hv, hcap, hmax, hc⟩ := sl_cells (rep_below (rep_below hrep hb12) hbw)
          obtain ⟨e1, e2, e3⟩ : ao = a ∧ l.length = (l.map pieceV).length ∧ cap = cap' := by injection hv with e1 e2 e3; exact ⟨e1, e2, e3⟩
          obtain ⟨ad, rfl, hblk, hc⟩ := hc (by intro h; simp at h; subst h; simp at hlt)
          subst e1
          have hg : (l.map pieceV)[k]? = some (pieceV l[k]) := by simp [hlt]
          obtain ⟨u0, h0, q0⟩ := hc k _ 0 _ hg rfl
          obtain ⟨u1, h1, q1⟩ := hc k _ 1 _ hg rfl
          obtain ⟨u2, h2, q2⟩ := hc k _ 2 _ hg rfl
          cases rep_int (m := []) q0
          cases rep_int (m := []) q1
          obtain ⟨q2, hput⟩ := rep_str (m := []) q2
          subst q2
          rw [← add_add'] at h1 h2
          have h0 : wr.cell? (ad.add (k * 3)) = some (.int .i64 l[k].keep) := h0
          have h1 : wr.cell? ⟨(ad.add (k * 3)).block, (ad.add (k * 3)).off + 1, none⟩ = some (.int .i64 l[k].drop) := h1
          have h2 : wr.cell? ⟨(ad.add (k * 3)).block, (ad.add (k * 3)).off + 2, none⟩ = some (.string ⟨l[k].put.toArray⟩) := h2
          clear q0 q1 hc hg hcap hmax hv e2 e3
          have hd : l.drop k = l[k] :: l.drop (k + 1) := drop_cons hlt
          have hok := r2 l[k] (List.getElem_mem hlt)
          have k0 := hok.k0; have k1 := hok.k1; have d0 := hok.d0; have d1 := hok.d1
          have hen : 0 ≤ extentP (l.drop (k + 1)) := extentP_nonneg fun q hq => r2 q (List.mem_of_mem_drop hq)
          rw [hd, extentP_cons] at hext
          have hpt : putsLen (l[k] :: l.drop (k + 1)) = l[k].put.length + putsLen (l.drop (k + 1)) := rfl
          rw [hd, hpt] at hsz
          rw [hd] at hacc
          have hacc := hidU hacc
          have hN := hidU hsz
          clear hsz
          obtain ⟨p, hp⟩ : ∃ p, l[k] = p := ⟨_, rfl⟩
          simp only [hp] at *
          have hsT : (⟨T.toArray⟩ : ByteArray).size = T.length := by simp [ByteArray.size]
          have hI1 := Lib.IsBuilderF.alloc hI (.cells #[.int .i64 p.keep, .int .i64 p.drop, .string ⟨p.put.toArray⟩] 63)
          have hw1 : Below w2.heap.size w2 (wr.alloc (.cells #[.int .i64 p.keep, .int .i64 p.drop, .string ⟨p.put.toArray⟩] 63)) := hbw.alloc hbw.size _
          have hbl : w2.heap.size < wr.heap.size := by
            have : ∀ q, Lib.BuilderAtF 110 5 w2.heap.size w2.heap.size q (Lib.byteCells acc) wr → w2.heap.size < wr.heap.size := by
              rintro q ⟨_, v, hbk, _⟩
              exact (Array.getElem?_eq_some_iff.1 hbk).1
            rcases hI with h | h
            · exact this _ h
            · exact this _ h
          have hbox : (wr.alloc (.cells #[.int .i64 p.keep, .int .i64 p.drop, .string ⟨p.put.toArray⟩] 63)).heap[wr.heap.size]? = some (.cells #[.int .i64 p.keep, .int .i64 p.drop, .string ⟨p.put.toArray⟩] 63 (0, 0)) := heap_alloc_new wr _
          have hne : ∀ (c : Array Value) (fz : Nat × Nat), (Obj.cells #[.int .i64 p.keep, .int .i64 p.drop, .string ⟨p.put.toArray⟩] 63 (0, 0)) ≠ Obj.cells c 5 fz := fun c fz h => by
            injection h with h1 h2 h3
            exact absurd h2 (by decide)
          have hne := hidU hne
          have hI1 := hidU hI1
          have hN2 := hN.out
          have hx1 : (ByteArray.extract ⟨T.toArray⟩ 0 p.keep.toNat).data.toList = T.take p.keep.toNat := by rw [Lib.extract_data]; simp
          have hx1s : (ByteArray.extract ⟨T.toArray⟩ 0 p.keep.toNat).size = p.keep.toNat := by
            rw [Lib.size_eq, hx1, List.length_take]
            omega
          have hsz' : S.data.toList.length + putsLen l ≤ 1000000000 + 1048576 := by rw [← Lib.size_eq]; omega
          have hsz'' : acc.length + (T.length + (p.put.length + putsLen (l.drop (k + 1)))) ≤ 1000000000 + 1048576 := by omega
          have hsz'' := hidU hsz''
          clear hN2 hsz'
          go_wp2_with fail
          refine (b_WriteString w2.heap.size w2.heap.size _ _ _ hI1.out (by rw [Lib.byteCells_length, hx1s]; have := hsz''.out; omega) (Nat.le_trans (Nat.le_of_lt hbl) (by simp))).mono ?_
          rintro e W1 ⟨rfl, hA1, b1, q1⟩
          have hbox1 := q1 _ _ hbox (by simp; omega) hne.out
          have c2 : W1.cell? ⟨wr.heap.size, 2, none⟩ = some (.string ⟨p.put.toArray⟩) := by rw [Lib.cell_of_heap hbox1]; rfl
          have hsz1 : w2.heap.size ≤ W1.heap.size := Nat.le_trans hw1.size b1.size
          have hA1 : Lib.IsBuilderF 110 5 w2.heap.size w2.heap.size _ W1 := .inr hA1
          have hA1 := hidU hA1
          have hbox1 := hidU hbox1
          have hq : Below w2.heap.size w2 W1 := hw1.trans b1
          clear b1 q1 hw1 hbox
          go_wp2_with fail
          refine (b_WriteString w2.heap.size w2.heap.size _ _ _ hA1.out (by rw [List.length_append, Lib.byteCells_length, Lib.strCells_eq, Lib.byteCells_length, hx1, List.length_take, Lib.size_eq]; have := hsz''.out; simp only []; omega) hsz1).mono ?_
          rintro e W2 ⟨rfl, hA2, b2, q2⟩
          have hbox2 := q2 _ _ hbox1.out (by simp; omega) hne.out
          have c3 : W2.cell? ⟨wr.heap.size, 0, none⟩ = some (.int .i64 p.keep) := by rw [Lib.cell_of_heap hbox2]; rfl
          have c4 : W2.cell? ⟨wr.heap.size, 1, none⟩ = some (.int .i64 p.drop) := by rw [Lib.cell_of_heap hbox2]; rfl
          have hA2 : Lib.IsBuilderF 110 5 w2.heap.size w2.heap.size _ W2 := .inr hA2
          have hA2 := hidU hA2
          have hq2 : Below w2.heap.size w2 W2 := hq.trans b2
          clear b2 q2 hbox2 c2
          go_wp2_with fail
          refine ⟨⟨k + 1, T.drop (p.keep + p.drop).toNat, acc ++ T.take p.keep.toNat ++ p.put, hlt, ?_, rfl, ?_, hq2, ?_, ?_, ?_⟩, ?_⟩
          · congr 1
            refine ba_of _ _ ?_
            rw [Lib.extract_data]
            exact List.take_of_length_le (by simp)
          · have := hA2.out
            rw [Lib.strCells_eq, Lib.strCells_eq, hx1, ← Lib.byteCells_append, ← Lib.byteCells_append] at this
            exact this
          · rw [← hacc.out]
            show _ = acc ++ editP T (p :: l.drop (k + 1))
            rw [editP]
            simp only [List.append_assoc]
          · rw [List.length_drop]
            omega
          · have := hN.out
            simp only [List.length_append, List.length_take, List.length_drop]
            omega
          · show l.length - (k + 1 : Int).toNat < l.length - (k : Int).toNat
            omega
        · have hke : k = l.length := by omega
          have hd : l.drop k = [] := List.drop_eq_nil_of_le (by omega)
          rw [hd] at hacc hsz hext
          have hacc : acc ++ T = editP S.data.toList l := hacc
          have hsz : acc.length + T.length + 0 ≤ S.data.toList.length + putsLen l := hsz
          have hS : S.data.toList.length ≤ 1000000000 := by rw [← Lib.size_eq]; omega
          have hI := hidU hI
          have hacc := hidU hacc
          have hN : Hid (acc.length + T.length ≤ 1000000000 + 1048576) := hidU (by omega)
          clear hsz hext hS
          go_wp2_with fail
          refine (b_WriteString w2.heap.size w2.heap.size _ _ _ hI.out (by rw [Lib.byteCells_length, Lib.size_eq]; have := hN.out; simp only []; omega) hbw.size).mono ?_
          rintro e W1 ⟨rfl, hA1, b1, q1⟩
          have hq : Below w2.heap.size w2 W1 := hbw.trans b1
          have hA1 : Lib.IsBuilderF 110 5 w2.heap.size w2.heap.size _ W1 := .inr hA1
          rw [Lib.strCells_eq, ← Lib.byteCells_append] at hA1
          have hA1 := hidU hA1
          clear b1 q1
          go_wp2_with fail
          refine (b_String w2.heap.size w2.heap.size _ _ hA1.out hq.size).mono ?_
          rintro e W2 ⟨rfl, _, b2, _⟩
          have hq2 : Below w2.heap.size w2 W2 := hq.trans b2
          clear b2
          go_wp2
          go_ret2
          refine ⟨?_, hb12.trans (hq2.mono hb12.size)⟩
          have : applyE S.data.toList l = (editP S.data.toList l, 0) := by
            unfold applyE
            rw [hr, decide_eq_false (by rw [← Lib.size_eq]; simpa using hx)]
            rfl
          rw [this, ← hacc.out]
          rfl

theorem editP_length : ∀ (t : List UInt8) (l : List PieceT), (∀ p ∈ l, p.Ok) → (editP t l).length ≤ t.length + putsLen l
  | t, [], _ => Nat.le_refl _
  | t, p :: l, h => by
    have ih := editP_length (t.drop (p.keep + p.drop).toNat) l fun q hq => h q (List.mem_cons_of_mem _ hq)
    have hp := h p List.mem_cons_self
    have := hp.k0
    have := hp.d0
    have e : putsLen (p :: l) = p.put.length + putsLen l := rfl
    rw [editP, e]
    rw [List.length_drop] at ih
    simp only [List.length_append, List.length_take]
    omega
theorem applyE_len (t : List UInt8) (l : List PieceT) : (applyE t l).1.length ≤ t.length + 1048576 := by
  unfold applyE
  cases hr : rightP l with
  | false => simp
  | true =>
    obtain ⟨r1, r2, r3⟩ := rightP_ok hr
    cases decide ((t.length : Int) < extentP l) with
    | false =>
      have := editP_length t l r2
      simp only [Bool.not_true, cond_false]
      omega
    | true => simp

theorem w_edit (t : List UInt8) (l : List PieceT) (ht : t.length ≤ 1000000000) (hl : l.length ≤ 1000000) (hpl : ∀ p ∈ l, p.put.length ≤ 1000000000) :
    Pure Try.prog 86 [.str t, piecesV l] (fun x => x = strE (applyE t l)) := by
  refine pure_of_calls ?_ rfl fun w β H vals hv hr => ?_
  · exact ⟨_, Try.func86, rfl, rfl⟩
  · obtain ⟨v0, v1, rfl⟩ : ∃ v0 v1, vals = #[v0, v1] := by
      obtain ⟨l⟩ := vals
      match l, hv with
      | [v0, v1], _ => exact ⟨v0, v1, rfl⟩
    have h0 := hr 0 _ v0 rfl rfl
    have h1 := hr 1 _ v1 rfl rfl
    obtain ⟨rfl, _⟩ := rep_str (m := []) h0
    have h1 := Rep.flat_sl (pieces_flat l) h1
    obtain ⟨a, cap, rfl, _⟩ := sl_cells h1
    have e : (l.map pieceV).length = l.length := by simp
    rw [e] at h1 ⊢
    refine (edit_walk ⟨t.toArray⟩ l (by simpa [ByteArray.size] using ht) hl hpl a cap w h1).mono ?_
    rintro e w' ⟨rfl, hb⟩
    have hm := applyE_len t l
    have hS : (⟨t.toArray⟩ : ByteArray).data.toList = t := rfl
    rw [hS]
    refine ⟨hb, strE (applyE t l), _, rfl, rfl, rfl, .tup _ _ rfl fun j c v hc hv => ?_⟩
    match j, hc, hv with
    | 0, hc, hv =>
      simp at hc hv
      subst hc hv
      exact .str _ (by unfold maxLen; omega)
    | 1, hc, hv =>
      simp at hc hv
      subst hc hv
      exact .int _ _
    | j + 2, hc, hv => simp at hc
end Bow
/- SP7: which operations are valid, and what becomes of a tree. -/
namespace Bow
open Go

/-- Of an operation that is formed, on a tree that is right. -/
def validE (t : Tree) (o : OpT) : Int :=
  bif (decide (o.kind = 2) || decide (o.kind = 3)) && decide (o.path = []) then 82
  else match atT t o.path with
    | none => 81
    | some x => bif decide (o.kind = 1) then intoE x o.at_
      else bif decide (o.kind = 3) then (bif within o.path o.to then 84 else match atT t o.to with
        | none => 81
        | some y => intoE y o.at_)
      else bif decide (o.kind = 6) then (bif !x.leaf then 83 else (applyE x.text o.pieces).2)
      else 0
def ValidE (t : Tree) (o : OpT) : Int := bif !rightT t then 2 else bif !formedB o then 80 else validE t o
end Bow
/- W25: which operations are valid. -/
namespace Bow
open Go Go.Proofs

theorem text_le_weight (t : Tree) : t.text.length < t.weight := by have := weight_eq t; omega
theorem path_nil {p : List Int} (h : decide ((((p.map intV).length : Nat) : Int) = 0) = true) : p = [] := by
  have := eq_of h
  simpa using this
theorem path_ne {p : List Int} (h : decide ((((p.map intV).length : Nat) : Int) = 0) = false) : p ≠ [] := by
  have := ne_of h
  simpa using this

set_option maxRecDepth 100000 in
theorem w_valid (t : Tree) (o : OpT) (ht : t.weight ≤ 1000000) (ho : o.Ok) : Pure Try.prog 60 [nodeV t, opV o] (fun x => x = .int .i64 (validE t o)) := by
  have hp := ho.lt.path
  have hto := ho.lt.to
  have hpc := ho.lt.pieces
  have hpl := ho.each
  refine pure_fn 300 Try.func60 rfl rfl rfl fun B => ?_
  show CallThen _ _ _ _ _ _
  refine call_pure (w_At t o.path hp) rfl ?_
  rintro x rfl
  cases hat : atT t o.path with
  | none =>
    repeat' first
      | (refine ⟨fun _ => go 300 ?_, fun _ => go 300 ?_⟩)
      | (refine ⟨trivial, rfl, rfl, rfl, ?_⟩)
      | fail
    all_goals (show V.int _ _ = _; simp_all [validE]; done)
  | some x =>
    have hxw := atT_weight hat
    have hxt := text_le_weight x
    repeat' first
      | (refine ⟨fun _ => go 300 ?_, fun _ => go 300 ?_⟩)
      | (show CallThen _ _ _ _ _ _; refine call_pure (w_into x o.at_) rfl ?_; rintro z rfl)
      | (show CallThen _ _ _ _ _ _; refine call_pure (w_pathWithin o.path o.to hp) rfl ?_; rintro z rfl)
      | (show CallThen _ _ _ _ _ _; refine call_pure (w_edit x.text o.pieces (by omega) (by omega) hpl) rfl ?_; rintro z rfl)
      | (show CallThen _ _ _ _ _ _; refine call_pure (w_At t o.to hto) rfl ?_; rintro z rfl; cases hat2 : atT t o.to with
          | none => exact ⟨trivial, rfl, rfl, rfl, (by show V.int _ _ = _; simp_all [validE])⟩
          | some y =>
            show CallThen _ _ _ _ _ _
            refine call_pure (w_into y o.at_) rfl ?_
            rintro z rfl
            exact ⟨trivial, rfl, rfl, rfl, (by show V.int _ _ = _; simp_all [validE])⟩)
      | (refine ⟨trivial, rfl, rfl, rfl, ?_⟩)
      | fail
    all_goals (show V.int _ _ = _; simp_all [validE])

set_option maxRecDepth 100000 in
theorem w_Valid (t : Tree) (o : OpT) (ht : t.weight ≤ 1000000) (ho : o.Ok) : Pure Try.prog 25 [nodeV t, opV o] (fun x => x = .int .i64 (ValidE t o)) := by
  refine pure_fn 300 Try.func25 rfl rfl rfl fun B => ?_
  show CallThen _ _ _ _ _ _
  refine call_pure (w_RightT t ht) rfl ?_
  rintro x rfl
  refine ⟨fun g1 => go 300 ?_, fun g1 => go 300 ?_⟩
  · exact ⟨trivial, rfl, rfl, rfl, by unfold ValidE; rw [g1]; rfl⟩
  show CallThen _ _ _ _ _ _
  refine call_pure (w_Formed o ho.lt ho.each) rfl ?_
  rintro x rfl
  refine ⟨fun g2 => go 300 ?_, fun g2 => go 300 ?_⟩
  · exact ⟨trivial, rfl, rfl, rfl, by unfold ValidE; rw [g1, g2]; rfl⟩
  show CallThen _ _ _ _ _ _
  refine call_pure (w_valid t o ht ho) rfl ?_
  rintro x rfl
  exact ⟨trivial, rfl, rfl, rfl, by unfold ValidE; rw [g1, g2]; rfl⟩

set_option maxHeartbeats 4000000 in
set_option maxRecDepth 100000 in
theorem w_refValid (t : Tree) (o : OpT) (ht : t.weight ≤ 1000000) (ho : o.Ok) : Pure Try.prog 26 [nodeV t, opV o] (fun x => x = .int .i64 (ValidE t o)) := by
  have hp := ho.lt.path
  have hto := ho.lt.to
  have hpc := ho.lt.pieces
  have hpl := ho.each
  refine pure_fn 300 Try.func26 rfl rfl rfl fun B => ?_
  show CallThen _ _ _ _ _ _
  refine call_pure (w_refRightT t ht) rfl ?_
  rintro x rfl
  refine ⟨fun g1 => go 300 ?_, fun g1 => go 300 ?_⟩
  · exact ⟨trivial, rfl, rfl, rfl, by unfold ValidE; rw [g1]; rfl⟩
  show CallThen _ _ _ _ _ _
  refine call_pure (w_refFormed o ho.lt ho.each) rfl ?_
  rintro x rfl
  refine ⟨fun g2 => go 300 ?_, fun g2 => go 300 ?_⟩
  · exact ⟨trivial, rfl, rfl, rfl, by unfold ValidE; rw [g1, g2]; rfl⟩
  have hV : ValidE t o = validE t o := by unfold ValidE; rw [g1, g2]; rfl
  rw [hV]
  clear hV g1 g2
  repeat' first
    | (refine ⟨fun _ => go 300 ?_, fun _ => go 300 ?_⟩)
    | (show CallThen _ _ _ _ _ _; refine call_pure (w_refAt t o.path hp) rfl ?_; rintro z rfl; cases hat : atT t o.path with
        | none => exact ⟨trivial, rfl, rfl, rfl, (by show V.int _ _ = _; simp_all [validE])⟩
        | some x =>
          have hxw := atT_weight hat
          have hxt := text_le_weight x
          repeat' first
            | (refine ⟨fun _ => go 300 ?_, fun _ => go 300 ?_⟩)
            | (show CallThen _ _ _ _ _ _; refine call_pure (w_refInto x o.at_) rfl ?_; rintro z rfl)
            | (show CallThen _ _ _ _ _ _; refine call_pure (w_refWithin o.path o.to hp) rfl ?_; rintro z rfl)
            | (show CallThen _ _ _ _ _ _; refine call_pure (w_refEdit x.text o.pieces (by omega) (by omega) hpl) rfl ?_; rintro z rfl)
            | (show CallThen _ _ _ _ _ _; refine call_pure (w_refAt t o.to hto) rfl ?_; rintro z rfl; cases hat2 : atT t o.to with
                | none => exact ⟨trivial, rfl, rfl, rfl, (by show V.int _ _ = _; simp_all [validE])⟩
                | some y =>
                  show CallThen _ _ _ _ _ _
                  refine call_pure (w_refInto y o.at_) rfl ?_
                  rintro z rfl
                  exact ⟨trivial, rfl, rfl, rfl, (by show V.int _ _ = _; simp_all [validE])⟩)
            | (refine ⟨trivial, rfl, rfl, rfl, ?_⟩)
            | fail
          all_goals (show V.int _ _ = _; simp_all [validE]))
    | (refine ⟨trivial, rfl, rfl, rfl, ?_⟩)
    | fail
  all_goals (show V.int _ _ = _; simp_all [validE])
end Bow
/- SP8: a moved node's landing, in plain Lean. -/
namespace Bow
open Go

theorem weights_append : ∀ (a b : List Tree), weights (a ++ b) = weights a + weights b
  | [], b => by rw [weights]; simp
  | x :: a, b => by rw [List.cons_append, weights, weights, weights_append a b]; omega
theorem weights_set {s u : Tree} : ∀ {l : List Tree} {i : Nat}, l[i]? = some s → u.weight ≤ s.weight → weights (l.set i u) ≤ weights l
  | [], i, h, _ => by simp at h
  | x :: l, 0, h, hu => by
    simp at h
    subst h
    rw [List.set_cons_zero, weights, weights]
    omega
  | x :: l, i + 1, h, hu => by
    simp at h
    have := weights_set (l := l) h hu
    rw [List.set_cons_succ, weights, weights]
    omega
theorem withSubs_weight (t : Tree) (ss : List Tree) : (t.withSubs ss).weight + weights t.subs = t.weight + weights ss := by
  cases t
  rw [weight_eq, weight_eq]
  simp only [Tree.withSubs, Tree.label, Tree.text, Tree.attrs, Tree.subs]
  omega
theorem change_weight {F : Tree → Tree} (hF : ∀ y, (F y).weight ≤ y.weight) : ∀ (p : List Int) (t : Tree), (changeT F t p).weight ≤ t.weight
  | [], t => hF t
  | i :: p, t => by
    rw [changeT]
    cases hs : subT t i with
    | none => exact Nat.le_refl _
    | some s =>
      have ih := change_weight hF p s
      have h := weights_set (subT_some hs).2.1 ih
      have := withSubs_weight t (t.subs.set i.toNat (changeT F s p))
      simp only
      omega
theorem del_weight (i : Int) (y : Tree) : (delT i y).weight ≤ y.weight := by
  have h1 := withSubs_weight y (y.subs.take i.toNat ++ y.subs.drop (i.toNat + 1))
  have h2 : weights (y.subs.take i.toNat ++ y.subs.drop (i.toNat + 1)) ≤ weights y.subs := by
    conv => rhs; rw [← List.take_append_drop i.toNat y.subs]
    rw [weights_append, weights_append]
    have h3 : weights (y.subs.drop (i.toNat + 1)) ≤ weights (y.subs.drop i.toNat) := by
      rw [← List.drop_drop]
      cases y.subs.drop i.toNat with
      | nil => simp
      | cons a l => rw [weights]; simp
    omega
  unfold delT
  omega

theorem subT_with (t : Tree) (ss : List Tree) (j : Int) (h : 0 ≤ j) : subT (t.withSubs ss) j = ss[j.toNat]? := by
  unfold subT
  rw [withSubs_subs, decide_eq_false (by omega)]
  rfl
theorem subT_eq {t : Tree} {j : Int} (h : 0 ≤ j) : subT t j = t.subs[j.toNat]? := by
  unfold subT
  rw [decide_eq_false (by omega)]
  rfl
theorem within_cons (k j : Int) (p q : List Int) : within (k :: p) (j :: q) = (decide (k = j) && within p q) := by
  unfold within
  simp
theorem within_nil (q : List Int) : within [] q = true := by unfold within; simp
theorem within_cons_nil (k : Int) (p : List Int) : within (k :: p) [] = false := by unfold within; simp
theorem landT_cons (k i at_ : Int) (q to : List Int) : landT (k :: q) i (k :: to) at_ = (k :: (landT q i to at_).1, (landT q i to at_).2) := by
  unfold landT
  rw [within_cons]
  simp only [List.cons.injEq, true_and, decide_true, Bool.true_and, List.length_cons, Nat.add_lt_add_iff_right, List.getD_cons_succ, List.set_cons_succ]
  cases (decide (q = to) && decide (i < at_)) <;> cases (within q to && (decide (q.length < to.length) && decide (i < to.getD q.length 0))) <;> rfl
theorem landT_other {k j i at_ : Int} {q to : List Int} (h : k ≠ j) : landT (k :: q) i (j :: to) at_ = (j :: to, at_) := by
  unfold landT
  rw [within_cons]
  simp [h]
theorem landT_top (k i at_ : Int) (q : List Int) : landT (k :: q) i [] at_ = ([], at_) := by
  unfold landT
  rw [within_cons_nil]
  simp

/-- Where a moved node lands there is a node, with such a gap. -/
theorem land_at {i at_ : Int} (hi : 0 ≤ i) (h0 : 0 ≤ at_) : ∀ (q to : List Int) (t y z : Tree), atT t q = some y → i < y.subs.length → within (q ++ [i]) to = false → atT t to = some z → at_ ≤ z.subs.length →
    ∃ z', atT (changeT (delT i) t q) (landT q i to at_).1 = some z' ∧ 0 ≤ (landT q i to at_).2 ∧ (landT q i to at_).2 ≤ z'.subs.length
  | [], [], t, y, z, hy, hiy, hw, hz, hat => by
    rw [atT] at hy hz
    injection hy with hy
    injection hz with hz
    subst hy hz
    have hl : (delT i t).subs.length + 1 = t.subs.length := by
      unfold delT
      rw [withSubs_subs]
      simp
      omega
    unfold landT
    rw [changeT]
    by_cases h : i < at_
    · rw [decide_eq_true h]
      exact ⟨_, rfl, by show 0 ≤ at_ - 1; omega, by show at_ - 1 ≤ _; omega⟩
    · rw [decide_eq_false h]
      simp only [decide_true, Bool.true_and, Bool.and_false, within_nil, List.length_nil, cond_false, Nat.lt_irrefl, decide_false, Bool.false_and]
      exact ⟨_, rfl, h0, by omega⟩
  | [], j :: to, t, y, z, hy, hiy, hw, hz, hat => by
    rw [atT] at hy
    injection hy with hy
    subst hy
    rw [atT] at hz
    cases hs : subT t j with
    | none => rw [hs] at hz; cases hz
    | some s =>
    rw [hs] at hz
    simp only at hz
    obtain ⟨hj, hsj, _⟩ := subT_some hs
    have hji : j ≠ i := by
      rintro rfl
      simp [within] at hw
    rw [changeT]
    have e : landT [] i (j :: to) at_ = (bif decide (i < j) then ((j - 1) :: to, at_) else (j :: to, at_)) := by
      unfold landT
      simp [within_nil]
    rw [e]
    by_cases h : i < j
    · rw [decide_eq_true h]
      refine ⟨z, ?_, h0, hat⟩
      simp only [cond_true]
      rw [atT]
      have : subT (delT i t) (j - 1) = some s := by
        unfold delT
        rw [subT_with _ _ _ (by omega), List.getElem?_append_right (by simp; omega), List.getElem?_drop, ← hsj]
        congr 1
        simp
        omega
      rw [this]
      exact hz
    · rw [decide_eq_false h]
      refine ⟨z, ?_, h0, hat⟩
      simp only [cond_false]
      rw [atT]
      have : subT (delT i t) j = some s := by
        unfold delT
        rw [subT_with _ _ _ hj, List.getElem?_append_left (by simp; omega), List.getElem?_take, if_pos (by omega), hsj]
      rw [this]
      exact hz
  | k :: q, [], t, y, z, hy, hiy, hw, hz, hat => by
    rw [atT] at hz
    injection hz with hz
    subst hz
    rw [landT_top, atT]
    refine ⟨_, rfl, h0, ?_⟩
    rw [changeT]
    cases subT t k with
    | none => exact hat
    | some s =>
      simp only
      rw [withSubs_subs, List.length_set]
      exact hat
  | k :: q, j :: to, t, y, z, hy, hiy, hw, hz, hat => by
    rw [atT] at hy hz
    cases hs : subT t k with
    | none => rw [hs] at hy; cases hy
    | some s =>
    rw [hs] at hy
    simp only at hy
    obtain ⟨hk, hsk, _⟩ := subT_some hs
    have hkl := lt_of_get hsk
    rw [changeT, hs]
    simp only
    by_cases h : k = j
    · subst h
      rw [hs] at hz
      simp only at hz
      rw [List.cons_append, within_cons] at hw
      simp only [decide_true, Bool.true_and] at hw
      rw [landT_cons]
      obtain ⟨z', h1, h2, h3⟩ := land_at hi h0 q to s y z hy hiy hw hz hat
      refine ⟨z', ?_, h2, h3⟩
      simp only
      rw [atT, subT_with _ _ _ hk, List.getElem?_set_self hkl]
      exact h1
    · rw [landT_other h]
      refine ⟨z, ?_, h0, hat⟩
      cases hs2 : subT t j with
      | none => rw [hs2] at hz; cases hz
      | some s2 =>
      rw [hs2] at hz
      simp only at hz
      obtain ⟨hj, hsj, _⟩ := subT_some hs2
      simp only
      rw [atT, subT_with _ _ _ hj, List.getElem?_set_ne (by omega), hsj]
      exact hz

/-! ### The path of a node's parent -/
theorem at_parent : ∀ {p : List Int} (hne : p ≠ []) {t x : Tree}, atT t p = some x → ∃ y, atT t p.dropLast = some y ∧ 0 ≤ p.getLast hne ∧ p.getLast hne < y.subs.length ∧ y.subs[(p.getLast hne).toNat]? = some x
  | [i], _, t, x, h => by
    rw [atT] at h
    cases hs : subT t i with
    | none => rw [hs] at h; cases h
    | some s =>
      rw [hs] at h
      simp only [atT] at h
      injection h with h
      subst h
      obtain ⟨h1, h2, _⟩ := subT_some hs
      have := lt_of_get h2
      exact ⟨t, rfl, h1, by show i < _; omega, h2⟩
  | i :: j :: p, hne, t, x, h => by
    rw [atT] at h
    cases hs : subT t i with
    | none => rw [hs] at h; cases h
    | some s =>
      rw [hs] at h
      obtain ⟨y, h1, h2, h3, h4⟩ := at_parent (p := j :: p) (by simp) h
      refine ⟨y, ?_, ?_⟩
      · rw [List.dropLast_cons_of_ne_nil (by simp), atT, hs]
        exact h1
      · rw [List.getLast_cons (by simp)]
        exact ⟨h2, h3, h4⟩
/-! ### What becomes of a tree -/
/-- A node new. -/
def freshT (o : OpT) : Tree := .mk o.id o.leaf o.label [] [] []
def relabelT (s : List UInt8) : Tree → Tree
  | .mk i l _ a c ss => .mk i l s a c ss
def retextT (l : List PieceT) : Tree → Tree
  | .mk i lf b a c ss => .mk i lf b a (applyE c l).1 ss
def lastP (p : List Int) : Int := p.getLastD 0
theorem lastP_eq {p : List Int} (h : p ≠ []) : p.getLast h = lastP p := by
  unfold lastP
  cases p with
  | nil => exact absurd rfl h
  | cons a p => rw [List.getLastD_eq_getLast?, List.getLast?_eq_some_getLast h]; rfl
def moveT (x t : Tree) (o : OpT) : Tree :=
  changeT (insT (landT o.path.dropLast (lastP o.path) o.to o.at_).2 x) (changeT (delT (lastP o.path)) t o.path.dropLast) (landT o.path.dropLast (lastP o.path) o.to o.at_).1
theorem land_len (q : List Int) (i : Int) (to : List Int) (n : Int) : (landT q i to n).1.length = to.length := by
  unfold landT
  cases (decide (q = to) && decide (i < n)) <;> cases (within q to && (decide (q.length < to.length) && decide (i < to.getD q.length 0))) <;> simp
end Bow
/- W26: what becomes of a tree. -/
namespace Bow
open Go Go.Proofs

theorem w_apply2 (o : OpT) (y : Tree) : Fun Try.prog 95 [some (.box (nodeV y).cells)] [.ptr (.loc 0) 0, .iptr (opV o).cells 0] (fun _ T => T = [some (.box (nodeV (relabelT o.label y)).cells)]) := by
  refine fun_fn 100 Try.func95 rfl rfl rfl fun imps B hi => ?_
  obtain ⟨r, rfl⟩ := List.length_eq_one_iff.1 hi
  refine ⟨trivial, rfl, rfl, ?_⟩
  cases y
  rfl
set_option maxRecDepth 100000 in
theorem w_apply3 (o : OpT) (y : Tree) (ho : o.Ok) (hy : y.weight ≤ 1000000) : Fun Try.prog 96 [some (.box (nodeV y).cells)] [.ptr (.loc 0) 0, .iptr (opV o).cells 0] (fun _ T => T = [some (.box (nodeV (retextT o.pieces y)).cells)]) := by
  refine fun_fn 100 Try.func96 rfl rfl rfl fun imps B hi => ?_
  obtain ⟨r, rfl⟩ := List.length_eq_one_iff.1 hi
  have := text_le_weight y
  show Goes _ _ _ _
  refine goes_draw 100 ⟨_, w_edit y.text o.pieces (by omega) ho.lt.pieces ho.each, rfl, ?_⟩
  refine ⟨by kernel_rfl, ?_⟩
  refine ⟨trivial, rfl, rfl, ?_⟩
  cases y
  rfl
/-- What an operation's walk asks: it is formed, and valid on the tree; and what it makes of it. -/
inductive Does (t : Tree) (o : OpT) : Tree → Prop
  | ins (y) (hk : o.kind = 1) (hy : atT t o.path = some y) (h0 : 0 ≤ o.at_) (h1 : o.at_ ≤ y.subs.length) : Does t o (changeT (insT o.at_ (freshT o)) t o.path)
  | del (x) (hk : o.kind = 2) (hne : o.path ≠ []) (hx : atT t o.path = some x) : Does t o (changeT (delT (lastP o.path)) t o.path.dropLast)
  | mov (x z) (hk : o.kind = 3) (hne : o.path ≠ []) (hx : atT t o.path = some x) (hw : within o.path o.to = false) (hz : atT t o.to = some z) (h0 : 0 ≤ o.at_) (h1 : o.at_ ≤ z.subs.length) : Does t o (moveT x t o)
  | lab (y) (hk : o.kind = 5) (hy : atT t o.path = some y) : Does t o (changeT (relabelT o.label) t o.path)
  | edt (y) (hk : o.kind = 6) (hy : atT t o.path = some y) : Does t o (changeT (retextT o.pieces) t o.path)

theorem wk_fresh (o : OpT) : Wk (.agg [.int .u64 o.id, .bool o.leaf, .str o.label, .nilsl, .str [], .nilsl]) (nodeV (freshT o)) :=
  Wk.agg ⟨.refl _, .refl _, .refl _, Wk.nil 2, .refl _, Wk.nil 6, trivial⟩

set_option maxHeartbeats 1000000 in
set_option maxRecDepth 100000 in
theorem w_apply (t : Tree) (o : OpT) (m : Tree) (ht : t.weight ≤ 900000) (ho : o.Ok) (hto : ∀ x ∈ o.to, inI x) (h : Does t o m) : Pure Try.prog 66 [nodeV t, opV o] (fun x => x = nodeV m) := by
  have hp := ho.lt.path
  have hpt := ho.lt.to
  refine pure_fn 300 Try.func66 rfl rfl rfl fun B => ?_
  cases h with
  | ins y hk hy h0 h1 =>
    refine ⟨fun g1 => go 300 ?_, fun g1 => absurd hk (ne_of g1)⟩
    show CallThen _ _ _ _ _ _
    refine call_pure (pure_args (w_insert t (freshT o) y o.path o.at_ hp ht hy h0 h1) ⟨.refl _, .refl _, .refl _, wk_fresh o, trivial⟩ rfl rfl) rfl ?_
    rintro z rfl
    exact ⟨trivial, rfl, rfl, rfl, rfl⟩
  | del x hk hne hx =>
    obtain ⟨y, y1, y2, y3, y4⟩ := at_parent hne hx
    refine ⟨fun g1 => absurd (hk.symm.trans (eq_of g1)) (by decide), fun g1 => go 300 ?_⟩
    refine ⟨fun g1 => go 300 ?_, fun g1 => absurd hk (ne_of g1)⟩
    show CallThen _ _ _ _ _ _
    refine call_pure (w_remove t y o.path hp hne ht y1 y2 y3) rfl ?_
    rintro z rfl
    exact ⟨trivial, rfl, rfl, rfl, by rw [lastP_eq]; rfl⟩
  | mov x z hk hne hx hw hz h0 h1 =>
    obtain ⟨y, y1, y2, y3, y4⟩ := at_parent hne hx
    refine ⟨fun g1 => absurd (hk.symm.trans (eq_of g1)) (by decide), fun g1 => go 300 ?_⟩
    refine ⟨fun g1 => absurd (hk.symm.trans (eq_of g1)) (by decide), fun g1 => go 300 ?_⟩
    refine ⟨fun g1 => go 300 ?_, fun g1 => absurd hk (ne_of g1)⟩
    show CallThen _ _ _ _ _ _
    refine call_pure (w_At t o.path hp) rfl ?_
    rintro _ rfl
    rw [hx]
    have hzl := subs_le_weight z
    have hzw := atT_weight hz
    show CallThen _ _ _ _ _ _
    refine call_pure (w_landing o.path o.to o.at_ hp hpt hne ⟨by omega, by omega⟩ hto y2) rfl ?_
    rintro _ rfl
    show Goes _ _ _ _
    have hlast := lastP_eq hne
    have hw' : within (o.path.dropLast ++ [lastP o.path]) o.to = false := by rw [← hlast, List.dropLast_concat_getLast]; exact hw
    obtain ⟨z', z1, z2, z3⟩ := land_at (by rw [← hlast]; exact y2) h0 o.path.dropLast o.to t y z y1 (by rw [← hlast]; exact y3) hw' hz h1
    have hmw := change_weight (del_weight (lastP o.path)) o.path.dropLast t
    have hrem := w_remove t y o.path hp hne ht y1 y2 y3
    have hins := w_insert (changeT (delT (lastP o.path)) t o.path.dropLast) x z' (landT o.path.dropLast (lastP o.path) o.to o.at_).1 (landT o.path.dropLast (lastP o.path) o.to o.at_).2 (by rw [land_len]; exact hpt) (by omega) z1 z2 z3
    rw [← hlast] at hins
    refine goes_draw 300 ⟨_, hrem, rfl, _, hins, rfl, ?_⟩
    refine ⟨by kernel_rfl, ?_⟩
    refine ⟨trivial, rfl, rfl, rfl, ?_⟩
    unfold moveT
    rw [← hlast]
    rfl
  | lab y hk hy =>
    refine ⟨fun g1 => absurd (hk.symm.trans (eq_of g1)) (by decide), fun g1 => go 300 ?_⟩
    refine ⟨fun g1 => absurd (hk.symm.trans (eq_of g1)) (by decide), fun g1 => go 300 ?_⟩
    refine ⟨fun g1 => absurd (hk.symm.trans (eq_of g1)) (by decide), fun g1 => go 300 ?_⟩
    refine ⟨fun g1 => absurd (hk.symm.trans (eq_of g1)) (by decide), fun g1 => go 300 ?_⟩
    refine ⟨fun g1 => go 300 ?_, fun g1 => absurd hk (ne_of g1)⟩
    show CallThen _ _ _ _ _ _
    refine call_freeze 1 rfl rfl ?_
    refine call_pure (w_change1 95 (opV o).cells (relabelT o.label) y (w_apply2 o y) o.path t hp (by omega) hy) rfl ?_
    rintro z rfl
    exact ⟨trivial, rfl, rfl, rfl, rfl⟩
  | edt y hk hy =>
    have hyw := atT_weight hy
    refine ⟨fun g1 => absurd (hk.symm.trans (eq_of g1)) (by decide), fun g1 => go 300 ?_⟩
    refine ⟨fun g1 => absurd (hk.symm.trans (eq_of g1)) (by decide), fun g1 => go 300 ?_⟩
    refine ⟨fun g1 => absurd (hk.symm.trans (eq_of g1)) (by decide), fun g1 => go 300 ?_⟩
    refine ⟨fun g1 => absurd (hk.symm.trans (eq_of g1)) (by decide), fun g1 => go 300 ?_⟩
    refine ⟨fun g1 => absurd (hk.symm.trans (eq_of g1)) (by decide), fun g1 => go 300 ?_⟩
    show CallThen _ _ _ _ _ _
    refine call_freeze 1 rfl rfl ?_
    refine call_pure (w_change1 96 (opV o).cells (retextT o.pieces) y (w_apply3 o y ho (by omega)) o.path t hp (by omega) hy) rfl ?_
    rintro z rfl
    exact ⟨trivial, rfl, rfl, rfl, rfl⟩
/-! ### Apply -/
def ApplyV (r : Tree × Int) : V := .tup [nodeV r.1, .int .i64 r.2]
set_option maxRecDepth 100000 in
theorem w_Apply_bad (t : Tree) (o : OpT) (ht : t.weight ≤ 1000000) (ho : o.Ok) (h : ValidE t o ≠ 0) : Pure Try.prog 29 [nodeV t, opV o] (fun x => x = ApplyV (zeroT [], ValidE t o)) := by
  refine pure_wk (pure_fn 300 Try.func29 rfl rfl rfl fun B => ?_)
  show CallThen _ _ _ _ _ _
  refine call_pure (w_Valid t o ht ho) rfl ?_
  rintro x rfl
  refine ⟨fun g1 => go 300 ?_, fun g1 => absurd (eq_of' g1) h⟩
  exact ⟨trivial, rfl, rfl, rfl, ApplyV (zeroT [], ValidE t o), Wk.tup ⟨wk_zero (ss := []) (Wk.nil 6), .refl _, trivial⟩, rfl, rfl⟩
set_option maxRecDepth 100000 in
theorem w_Apply_ok (t : Tree) (o : OpT) (m : Tree) (ht : t.weight ≤ 1000000) (ho : o.Ok) (h : ValidE t o = 0) (hm : Pure Try.prog 66 [nodeV t, opV o] (fun x => x = nodeV m)) : Pure Try.prog 29 [nodeV t, opV o] (fun x => x = ApplyV (m, 0)) := by
  refine pure_fn 300 Try.func29 rfl rfl rfl fun B => ?_
  show CallThen _ _ _ _ _ _
  refine call_pure (w_Valid t o ht ho) rfl ?_
  rintro x rfl
  refine ⟨fun g1 => absurd h (ne_of' g1), fun g1 => go 300 ?_⟩
  show CallThen _ _ _ _ _ _
  refine call_pure hm rfl ?_
  rintro x rfl
  exact ⟨trivial, rfl, rfl, rfl, rfl⟩
end Bow
/- SP9: trees that are the same, in plain Lean. -/
namespace Bow
open Go

mutual
def sameT (ids : Bool) : Tree → Tree → Bool
  | .mk i l b a t ss, u => (!ids || decide (i = u.id)) && ((l == u.leaf) && (decide (b = u.label) && (decide (t = u.text) && (decide (a = u.attrs) && sameTs ids ss u.subs))))
def sameTs (ids : Bool) : List Tree → List Tree → Bool
  | [], [] => true
  | s :: ss, u :: us => sameT ids s u && sameTs ids ss us
  | _, _ => false
end
theorem sameT_eq (ids : Bool) (t u : Tree) : sameT ids t u = ((!ids || decide (t.id = u.id)) && ((t.leaf == u.leaf) && (decide (t.label = u.label) && (decide (t.text = u.text) && (decide (t.attrs = u.attrs) && sameTs ids t.subs u.subs))))) := by
  cases t
  rw [sameT]
  rfl
theorem sameTs_len {ids : Bool} : ∀ {ss us : List Tree}, sameTs ids ss us = true → ss.length = us.length
  | [], [], _ => rfl
  | [], _ :: _, h => by simp [sameTs] at h
  | _ :: _, [], h => by simp [sameTs] at h
  | s :: ss, u :: us, h => by
    rw [sameTs, Bool.and_eq_true] at h
    simp [sameTs_len h.2]
theorem sameTs_at {ids : Bool} {ss us : List Tree} {i : Nat} (h1 : i < ss.length) (h2 : i < us.length) : sameTs ids (ss.drop i) (us.drop i) = (sameT ids ss[i] us[i] && sameTs ids (ss.drop (i + 1)) (us.drop (i + 1))) := by
  rw [List.drop_eq_getElem_cons h1, List.drop_eq_getElem_cons h2, sameTs]
mutual
theorem sameT_true : ∀ {t u : Tree}, sameT true t u = true → t = u
  | .mk i l b a c ss, .mk i' l' b' a' c' us, h => by
    rw [sameT_eq] at h
    simp only [Tree.id, Tree.leaf, Tree.label, Tree.text, Tree.attrs, Tree.subs, Bool.and_eq_true, Bool.not_true, Bool.false_or, decide_eq_true_eq, beq_iff_eq] at h
    obtain ⟨h1, h2, h3, h4, h5, h6⟩ := h
    rw [show i = i' from of_decide_eq_true h1, show l = l' from h2, show b = b' from of_decide_eq_true h3, show c = c' from of_decide_eq_true h4, show a = a' from of_decide_eq_true h5, sameTs_true h6]
theorem sameTs_true : ∀ {ss us : List Tree}, sameTs true ss us = true → ss = us
  | [], [], _ => rfl
  | [], _ :: _, h => by simp [sameTs] at h
  | _ :: _, [], h => by simp [sameTs] at h
  | s :: ss, u :: us, h => by
    rw [sameTs, Bool.and_eq_true] at h
    rw [sameT_true h.1, sameTs_true h.2]
end
mutual
theorem sameT_refl (ids : Bool) : ∀ t : Tree, sameT ids t t = true
  | .mk i l b a c ss => by
    rw [sameT_eq]
    simp only [Tree.id, Tree.leaf, Tree.label, Tree.text, Tree.attrs, Tree.subs]
    rw [sameTs_refl ids ss]
    simp
theorem sameTs_refl (ids : Bool) : ∀ ss : List Tree, sameTs ids ss ss = true
  | [] => by rw [sameTs]
  | s :: ss => by rw [sameTs, sameT_refl ids s, sameTs_refl ids ss]; rfl
end
end Bow
/- W27: trees that are the same. -/
namespace Bow
open Go Go.Proofs

def bV : Bool → V
  | true => .tt
  | false => .ff

set_option maxRecDepth 100000 in
theorem w_EqualNodes (ids : Bool) (t u : Tree) (ht : t.weight ≤ 1000000)
    (hg : ∀ s ∈ t.subs, ∀ v : Tree, Pure Try.prog 102 [nodeV s, nodeV v, .iptr [bV ids] 0] (fun x => x = .bool (sameT ids s v))) :
    Pure Try.prog 101 [.sl 6 t.subV, .sl 6 u.subV, .fn (.func 102) [] [.iptr [bV ids] 0]] (fun x => x = .bool (sameTs ids t.subs u.subs)) := by
  have hsl := subs_le_weight t
  refine pure_wk (pure_fn 300 Try.func101 rfl rfl rfl fun B => ?_)
  refine ⟨fun g1 => go 300 ?_, fun g1 => go 300 ?_⟩
  · have g1 := ne_of' g1
    rw [subV_len, subV_len] at g1
    refine ⟨trivial, rfl, rfl, rfl, leaf_ff ?_⟩
    cases h : sameTs ids t.subs u.subs with
    | false => rfl
    | true => exact absurd (congrArg Nat.cast (sameTs_len h)) g1
  have g1 : t.subs.length = u.subs.length := by have := eq_of' g1; rw [subV_len, subV_len] at this; omega
  show Goes _ _ _ _
  refine goes_iter (ι := Nat) (fun i => i ≤ t.subs.length ∧ sameTs ids (t.subs.drop i) (u.subs.drop i) = sameTs ids t.subs u.subs) (fun i => t.subs.length - i) (fun i => [(17, .int .i64 i), (16, .int .i64 t.subV.length), (15, .sl 6 t.subV), (1, .sl 6 u.subV), (2, .fn (.func 102) [] [.iptr [bV ids] 0])]) (fun _ => []) 0 300 (fun _ => rfl) (fun _ => rfl) ⟨⟨Nat.zero_le _, rfl⟩, ⟨⟨rfl, rfl⟩, ⟨rfl, rfl⟩, ⟨rfl, rfl⟩, ⟨rfl, rfl⟩, ⟨rfl, rfl⟩, trivial⟩, trivial⟩ ?_
  rintro i ⟨k1, k2⟩ next
  refine ⟨fun hlt => go 300 ?_, fun hge => go 300 ?_⟩
  · have hi : i < t.subs.length := by simpa [subV_eq] using hlt
    have hi' : i < u.subs.length := by omega
    have hx : t.subV[i]? = some (nodeV t.subs[i]) := by simp [subV_eq, hi]
    have hy : u.subV[i]? = some (nodeV u.subs[i]) := by simp [subV_eq, hi']
    rw [sameTs_at hi hi'] at k2
    refine ⟨Int.natCast_nonneg i, _, hx, Int.natCast_nonneg i, _, hy, ?_⟩
    show CallThen _ _ _ _ _ _
    refine call_pure (hg _ (List.getElem_mem hi) _) rfl ?_
    rintro x rfl
    refine ⟨fun g => go 300 ?_, fun g => go 300 ?_⟩
    · have g : sameT ids t.subs[i] u.subs[i] = false := by simpa using g
      exact ⟨trivial, rfl, rfl, rfl, leaf_ff (by rw [← k2, g]; rfl)⟩
    · have g : sameT ids t.subs[i] u.subs[i] = true := by simpa using g
      rw [g, Bool.true_and] at k2
      refine ⟨by constructor <;> omega, ?_⟩
      exact next (i + 1) _ _ ⟨⟨hi, k2⟩, by omega, ⟨⟨rfl, rfl⟩, ⟨rfl, rfl⟩, ⟨rfl, rfl⟩, ⟨rfl, rfl⟩, ⟨rfl, rfl⟩, trivial⟩, trivial⟩
  · have hi : t.subs.length ≤ i := by simpa [subV_eq] using hge
    rw [List.drop_eq_nil_of_le hi, List.drop_eq_nil_of_le (by omega), sameTs] at k2
    exact ⟨trivial, rfl, rfl, rfl, leaf_tt k2.symm⟩

set_option maxRecDepth 100000 in
theorem w_same1 (ids : Bool) (t u : Tree) (h : Pure Try.prog 73 [nodeV t, nodeV u, bV ids] (fun x => x = .bool (sameT ids t u))) :
    Pure Try.prog 102 [nodeV t, nodeV u, .iptr [bV ids] 0] (fun x => x = .bool (sameT ids t u)) := by
  cases ids <;>
  · refine pure_fn 300 Try.func102 rfl rfl rfl fun B => ?_
    show CallThen _ _ _ _ _ _
    refine call_pure h rfl ?_
    rintro x rfl
    exact ⟨trivial, rfl, rfl, rfl, rfl⟩

set_option maxHeartbeats 1000000 in
set_option maxRecDepth 100000 in
theorem w_same (ids : Bool) (t : Tree) : ∀ u : Tree, t.weight ≤ 1000000 → Pure Try.prog 73 [nodeV t, nodeV u, bV ids] (fun x => x = .bool (sameT ids t u)) := by
  induction t using Tree.ind with
  | _ t ih =>
  intro u ht
  have hE := w_EqualNodes ids t u ht fun s hs v => w_same1 ids s v (ih s hs v (by have := weight_sub hs; omega))
  have hwt := weight_eq t
  have hA := w_EqualAttr t.attrs u.attrs (by omega)
  clear ih
  have e := sameT_eq ids t u
  cases ids
  all_goals
    refine pure_wk (pure_fn 300 Try.func73 rfl rfl rfl fun B => ?_)
    repeat' first
      | (refine ⟨fun _ => go 300 ?_, fun _ => go 300 ?_⟩)
      | (show CallThen _ _ _ _ _ _; refine call_pure hA rfl ?_; rintro z rfl)
      | (show CallThen _ _ _ _ _ _; refine call_freeze 2 rfl rfl ?_; refine call_pure hE rfl ?_; rintro z rfl)
      | (refine ⟨trivial, rfl, rfl, rfl, leaf_ff ?_⟩)
      | (refine ⟨trivial, rfl, rfl, rfl, leaf_b ?_⟩)
      | fail
  all_goals (rw [e]; simp_all)

theorem w_Same (t u : Tree) (ht : t.weight ≤ 1000000) : Pure Try.prog 32 [nodeV t, nodeV u] (fun x => x = .bool (sameT true t u)) := by
  refine pure_fn 300 Try.func32 rfl rfl rfl fun B => ?_
  show CallThen _ _ _ _ _ _
  refine call_pure (w_same true t u ht) rfl ?_
  rintro x rfl
  exact ⟨trivial, rfl, rfl, rfl, rfl⟩
end Bow
/- W28: the chapter's examples. -/
namespace Bow
open Go Go.Proofs

def leafT (l t : List UInt8) : Tree := .mk 0 true l [] t []
def nodeT (l : List UInt8) (ss : List Tree) : Tree := .mk 0 false l [] [] ss
def workT : Tree := nodeT [114] [nodeT [97] [leafT [120] [104, 105], nodeT [99] []], leafT [98] [98, 101, 101]]
def work1 : OpT := { noOp 1 with path := [0], at_ := 1, label := [110] }
def work2 : OpT := { noOp 3 with path := [0, 0], at_ := 2 }
def work3 : OpT := { noOp 3 with path := [0], at_ := 1 }
def work4 : OpT := { noOp 6 with path := [0, 0], pieces := [⟨2, 0, [33]⟩] }
def made1 : Tree := nodeT [114] [nodeT [97] [leafT [120] [104, 105], nodeT [110] [], nodeT [99] []], leafT [98] [98, 101, 101]]
def made2 : Tree := nodeT [114] [nodeT [97] [nodeT [99] []], leafT [98] [98, 101, 101], leafT [120] [104, 105]]
def made4 : Tree := nodeT [114] [nodeT [97] [leafT [120] [104, 105, 33], nodeT [99] []], leafT [98] [98, 101, 101]]

theorem okOp {o : OpT} (h : (Nat.ble o.path.length 1000000 && Nat.ble o.to.length 1000000 && Nat.ble o.label.length 1000000 && Nat.ble o.key.length 1000000 && Nat.ble o.value.length 1000000 && Nat.ble o.pieces.length 1000000 && Nat.ble (putsLen o.pieces) 1000000) = true) : o.Ok := by
  simp only [Bool.and_eq_true, Nat.ble_eq] at h
  obtain ⟨⟨⟨⟨⟨⟨h1, h2⟩, h3⟩, h4⟩, h5⟩, h6⟩, h7⟩ := h
  exact ⟨⟨h1, h2, h3, h4, h5, h6⟩, h7⟩
theorem work_weight : workT.weight ≤ 900000 := by decide

theorem w_work1 : Pure Try.prog 29 [nodeV workT, opV work1] (fun x => x = ApplyV (made1, 0)) :=
  w_Apply_ok workT work1 made1 (by decide) (okOp (by decide)) (by decide) (w_apply workT work1 made1 (by decide) (okOp (by decide)) (by intro x h; cases h) (Does.ins (nodeT [97] [leafT [120] [104, 105], nodeT [99] []]) rfl rfl (by decide) (by decide)))
theorem w_work2 : Pure Try.prog 29 [nodeV workT, opV work2] (fun x => x = ApplyV (made2, 0)) :=
  w_Apply_ok workT work2 made2 (by decide) (okOp (by decide)) (by decide) (w_apply workT work2 made2 (by decide) (okOp (by decide)) (by intro x h; cases h) (Does.mov (leafT [120] [104, 105]) workT rfl (by decide) rfl (by decide) rfl (by decide) (by decide)))
theorem w_work3 : Pure Try.prog 29 [nodeV workT, opV work3] (fun x => x = ApplyV (workT, 0)) :=
  w_Apply_ok workT work3 workT (by decide) (okOp (by decide)) (by decide) (w_apply workT work3 workT (by decide) (okOp (by decide)) (by intro x h; cases h) (Does.mov (nodeT [97] [leafT [120] [104, 105], nodeT [99] []]) workT rfl (by decide) rfl (by decide) rfl (by decide) (by decide)))
theorem w_work4 : Pure Try.prog 29 [nodeV workT, opV work4] (fun x => x = ApplyV (made4, 0)) :=
  w_Apply_ok workT work4 made4 (by decide) (okOp (by decide)) (by decide) (w_apply workT work4 made4 (by decide) (okOp (by decide)) (by intro x h; cases h) (Does.edt (leafT [120] [104, 105]) rfl rfl))
end Bow
/- W29: the chapter's examples, all. -/
namespace Bow
open Go Go.Proofs

/-- A node as a literal lays it. -/
def litV (leaf l t k : V) : V := .agg [.int .u64 0, leaf, l, .nilsl, t, k]
theorem wkL_lit {lf : Bool} {lv : V} {l t : List UInt8} {k : V} {ss : List Tree} (h1 : Wk lv (.bool lf)) (h2 : Wk k (.sl 6 (ss.map nodeV))) : WkL (litV lv (.str l) (.str t) k).cells (nodeV (.mk 0 lf l [] t ss)).cells := by
  refine ⟨.refl _, h1, .refl _, Wk.nil 2, .refl _, ?_, trivial⟩
  show Wk k (.sl 6 (Tree.subV _))
  rw [subV_eq]
  exact h2

theorem wk_work : WkL [.int .u64 0, .ff, .str [114], .nilsl, .str [], .sl 6 [litV .ff (.str [97]) (.str []) (.sl 6 [litV .tt (.str [120]) (.str [104, 105]) .nilsl, litV .ff (.str [99]) (.str []) .nilsl]), litV .tt (.str [98]) (.str [98, 101, 101]) .nilsl]] (nodeV workT).cells := by
  refine wkL_lit (lv := .ff) Wk.ff (Wk.sl ?_)
  refine ⟨⟨wkL_lit Wk.ff (Wk.sl ?_), okE_node _⟩, ⟨wkL_lit (ss := []) Wk.tt (Wk.nil 6), okE_node _⟩, trivial⟩
  exact ⟨⟨wkL_lit (ss := []) Wk.tt (Wk.nil 6), okE_node _⟩, ⟨wkL_lit (ss := []) Wk.ff (Wk.nil 6), okE_node _⟩, trivial⟩

theorem w_workV1 : Pure Try.prog 25 [nodeV workT, opV { noOp 3 with path := [0], to := [0, 0] }] (fun x => x = .int .i64 84) :=
  w_Valid workT _ (by decide) (okOp (by decide))
theorem w_workV2 : Pure Try.prog 25 [nodeV workT, opV (noOp 2)] (fun x => x = .int .i64 82) :=
  w_Valid workT _ (by decide) (okOp (by decide))

set_option maxRecDepth 100000 in
theorem w_works08 : Pure Try.prog 24 [] (fun x => x = .bool true) := by
  refine pure_wk (pure_fn 17 Try.func24 rfl rfl rfl fun B => ?_)
  refine ⟨⟨rfl, rfl, trivial⟩, rfl, rfl, ⟨rfl, rfl, trivial⟩, ?_⟩
  show Goes _ _ _ _
  refine goes_freezeIn 1 [2] rfl rfl rfl ?_
  show Goes _ _ _ _
  refine goes_wkbox 2 (nodeV workT).cells rfl rfl rfl wk_work ?_
  refine go 300 ?_
  refine ⟨⟨rfl, trivial⟩, ?_⟩
  show CallThen _ _ _ _ _ _
  refine call_pure_frz ?_
  refine ⟨rfl, rfl, _, pure_args w_work1 ⟨.refl _, wk_op ⟨.refl _, .refl _, .refl _, Wk.nil 1, .refl _, Wk.ff, .refl _, .refl _, .refl _, Wk.ff, Wk.nil 3, trivial⟩, trivial⟩ rfl rfl, rfl, ?_⟩
  rintro x rfl
  refine ⟨⟨rfl, rfl, trivial⟩, ?_⟩
  show CallThen _ _ _ _ _ _
  refine call_pure_frz ?_
  refine ⟨rfl, rfl, _, pure_args w_work2 ⟨.refl _, wk_op ⟨.refl _, .refl _, .refl _, Wk.nil 1, .refl _, Wk.ff, .refl _, .refl _, .refl _, Wk.ff, Wk.nil 3, trivial⟩, trivial⟩ rfl rfl, rfl, ?_⟩
  rintro x rfl
  refine ⟨⟨rfl, trivial⟩, ?_⟩
  show CallThen _ _ _ _ _ _
  refine call_pure_frz ?_
  refine ⟨rfl, rfl, _, pure_args w_work3 ⟨.refl _, wk_op ⟨.refl _, .refl _, .refl _, Wk.nil 1, .refl _, Wk.ff, .refl _, .refl _, .refl _, Wk.ff, Wk.nil 3, trivial⟩, trivial⟩ rfl rfl, rfl, ?_⟩
  rintro x rfl
  refine ⟨⟨rfl, rfl, trivial⟩, ⟨rfl, trivial⟩, ?_⟩
  show CallThen _ _ _ _ _ _
  refine call_pure_frz ?_
  refine ⟨rfl, rfl, rfl, rfl, _, pure_args w_work4 ⟨.refl _, wk_op ⟨.refl _, .refl _, .refl _, Wk.nil 1, .refl _, Wk.ff, .refl _, .refl _, .refl _, Wk.ff, .refl _, trivial⟩, trivial⟩ rfl rfl, rfl, ?_⟩
  rintro x rfl
  iterate 5 refine ⟨fun g => absurd rfl (ne_of' g), fun _ => go 300 ?_⟩
  refine ⟨Int.le_refl 0, _, rfl, ⟨fun g => absurd rfl (ne_of' g), fun _ => go 300 ?_⟩⟩
  refine ⟨fun g => absurd rfl (ne_of' g), fun _ => go 300 ?_⟩
  refine ⟨Int.le_refl 0, _, rfl, ⟨fun g => absurd rfl (ne_of' g), fun _ => go 300 ?_⟩⟩
  refine ⟨Int.le_refl 0, _, rfl, ⟨fun g => absurd rfl (ne_of' g), fun _ => go 300 ?_⟩⟩
  refine ⟨Int.le_refl 0, _, rfl, by decide, _, rfl, ?_⟩
  refine ⟨fun _ => go 300 ?_, fun g => absurd rfl (of_decide_eq_false g)⟩
  refine ⟨by decide, _, rfl, ?_⟩
  refine ⟨fun _ => go 300 ?_, fun g => absurd rfl (of_decide_eq_false g)⟩
  show CallThen _ _ _ _ _ _
  refine call_pure (w_Same workT workT (by decide)) rfl ?_
  rintro x rfl
  refine ⟨fun _ => go 300 ?_, fun g => absurd ((sameT_refl true workT).symm.trans g) (by decide)⟩
  refine ⟨by decide, _, rfl, by decide, _, rfl, ?_⟩
  refine ⟨fun _ => go 300 ?_, fun g => absurd rfl (of_decide_eq_false g)⟩
  refine ⟨⟨rfl, trivial⟩, ⟨rfl, rfl, trivial⟩, ?_⟩
  show CallThen _ _ _ _ _ _
  refine call_pure_frz ?_
  refine ⟨rfl, rfl, rfl, rfl, _, pure_args w_workV1 ⟨.refl _, wk_op ⟨.refl _, .refl _, .refl _, .refl _, .refl _, Wk.ff, .refl _, .refl _, .refl _, Wk.ff, Wk.nil 3, trivial⟩, trivial⟩ rfl rfl, rfl, ?_⟩
  rintro x rfl
  refine ⟨fun _ => go 300 ?_, fun g => absurd g (by decide)⟩
  show CallThen _ _ _ _ _ _
  refine call_pure_frz ?_
  refine ⟨_, pure_args w_workV2 ⟨.refl _, wk_op ⟨.refl _, Wk.nil 1, .refl _, Wk.nil 1, .refl _, Wk.ff, .refl _, .refl _, .refl _, Wk.ff, Wk.nil 3, trivial⟩, trivial⟩ rfl rfl, rfl, ?_⟩
  rintro x rfl
  exact ⟨trivial, rfl, rfl, rfl, leaf_b rfl⟩
end Bow
/- W30: the laws' functions: TreeopsFormed, TreeopsValid. -/
namespace Bow
open Go Go.Proofs

def lightB (o : OpT) (top : Nat) : Bool := decide (o.path.length ≤ top) && decide (o.to.length ≤ top) && decide (o.label.length ≤ top) && decide (o.key.length ≤ top) && decide (o.value.length ≤ top) && decide (o.pieces.length ≤ top) && decide (putsLen o.pieces ≤ top)
theorem lightB_iff (o : OpT) (top : Nat) : lightB o top = true ↔ o.Lt top ∧ putsLen o.pieces ≤ top := by
  unfold lightB
  simp only [Bool.and_eq_true, decide_eq_true_eq]
  constructor
  · rintro ⟨⟨⟨⟨⟨⟨h1, h2⟩, h3⟩, h4⟩, h5⟩, h6⟩, h7⟩
    exact ⟨⟨h1, h2, h3, h4, h5, h6⟩, h7⟩
  · rintro ⟨⟨h1, h2, h3, h4, h5, h6⟩, h7⟩
    exact ⟨⟨⟨⟨⟨⟨h1, h2⟩, h3⟩, h4⟩, h5⟩, h6⟩, h7⟩
theorem Lt_mono {o : OpT} {a b : Nat} (h : o.Lt a) (hab : a ≤ b) : o.Lt b := by
  have := h.path; have := h.to; have := h.label; have := h.key; have := h.value; have := h.pieces
  exact ⟨by omega, by omega, by omega, by omega, by omega, by omega⟩
theorem light_ok {o : OpT} {top : Nat} (h : lightB o top = true) (ht : top ≤ 1000000) : o.Ok := by
  obtain ⟨h1, h2⟩ := (lightB_iff o top).1 h
  exact ⟨Lt_mono h1 ht, by omega⟩

set_option maxRecDepth 100000 in
/-- Light: within the bound, the lengths and what is put. -/
theorem w_LightX (o : OpT) (top : Nat) (ht : top ≤ 1000000) : Pure Try.prog 21 [opV o, .int .i64 top] (fun x => x = .bool (lightB o top)) := by
  have bad : ¬ (o.Lt top ∧ putsLen o.pieces ≤ top) → ∃ y, Wk .ff y ∧ y.pureB = true ∧ y = .bool (lightB o top) := fun h => leaf_ff (Bool.eq_false_iff.2 fun h' => h ((lightB_iff o top).1 h'))
  refine pure_wk (pure_fn 300 Try.func21 rfl rfl rfl fun B => ?_)
  refine ⟨fun g1 => go 300 ?_, fun g1 => go 300 ?_⟩
  · exact ⟨trivial, rfl, rfl, rfl, bad fun ⟨h, _⟩ => by have := lt_of g1; have := h.path; have := h.to; have := h.label; have := h.key; have := h.value; have := h.pieces; simp only [List.length_map] at *; omega⟩
  refine ⟨fun g2 => go 300 ?_, fun g2 => go 300 ?_⟩
  · exact ⟨trivial, rfl, rfl, rfl, bad fun ⟨h, _⟩ => by have := lt_of g2; have := h.path; have := h.to; have := h.label; have := h.key; have := h.value; have := h.pieces; simp only [List.length_map] at *; omega⟩
  refine ⟨fun g3 => go 300 ?_, fun g3 => go 300 ?_⟩
  · exact ⟨trivial, rfl, rfl, rfl, bad fun ⟨h, _⟩ => by have := lt_of g3; have := h.path; have := h.to; have := h.label; have := h.key; have := h.value; have := h.pieces; simp only [List.length_map] at *; omega⟩
  refine ⟨fun g4 => go 300 ?_, fun g4 => go 300 ?_⟩
  · exact ⟨trivial, rfl, rfl, rfl, bad fun ⟨h, _⟩ => by have := lt_of g4; have := h.path; have := h.to; have := h.label; have := h.key; have := h.value; have := h.pieces; simp only [List.length_map] at *; omega⟩
  refine ⟨fun g5 => go 300 ?_, fun g5 => go 300 ?_⟩
  · exact ⟨trivial, rfl, rfl, rfl, bad fun ⟨h, _⟩ => by have := lt_of g5; have := h.path; have := h.to; have := h.label; have := h.key; have := h.value; have := h.pieces; simp only [List.length_map] at *; omega⟩
  refine ⟨fun g6 => go 300 ?_, fun g6 => go 300 ?_⟩
  · exact ⟨trivial, rfl, rfl, rfl, bad fun ⟨h, _⟩ => by have := lt_of g6; have := h.path; have := h.to; have := h.label; have := h.key; have := h.value; have := h.pieces; simp only [List.length_map] at *; omega⟩
  have g1 := not_lt_of g1
  have g2 := not_lt_of g2
  have g3 := not_lt_of g3
  have g4 := not_lt_of g4
  have g5 := not_lt_of g5
  have g6 := not_lt_of g6
  simp only [List.length_map] at g1 g2 g6
  have hlt : o.Lt top := ⟨by omega, by omega, by omega, by omega, by omega, by omega⟩
  show Goes _ _ _ _
  refine goes_iter (ι := Nat × Nat) (fun i => i.1 ≤ o.pieces.length ∧ i.2 ≤ top ∧ putsLen o.pieces = i.2 + putsLen (o.pieces.drop i.1)) (fun i => o.pieces.length - i.1) (fun i => [(6, .int .i64 i.1), (5, .int .i64 i.2), (1, .int .i64 top), (2, .ptr (.loc 0) 0)]) (fun _ => [some (.box (opV o).cells)]) (0, 0) 200 (fun _ => rfl) (fun _ => rfl) ⟨⟨Nat.zero_le _, Nat.zero_le _, by simp⟩, ?_, ?_⟩ ?_
  · exact ⟨⟨rfl, rfl⟩, ⟨rfl, rfl⟩, ⟨rfl, rfl⟩, ⟨rfl, rfl⟩, trivial⟩
  · exact ⟨⟨rfl, rfl⟩, trivial⟩
  · rintro ⟨i, n⟩ ⟨h1, h3, h2⟩ next
    simp only at h1 h2 h3
    refine ⟨fun hlt => go 200 ?_, fun hge => go 200 ?_⟩
    · have hi : i < o.pieces.length := by simpa using hlt
      have hx : (o.pieces.map pieceV)[i]? = some (pieceV o.pieces[i]) := by simp [hi]
      rw [drop_cons hi] at h2
      have h2 : putsLen o.pieces = n + ((o.pieces[i]).put.length + putsLen (o.pieces.drop (i + 1))) := h2
      refine ⟨Int.natCast_nonneg i, _, hx, ?_⟩
      refine ⟨by constructor <;> omega, ?_⟩
      refine ⟨fun g7 => go 200 ?_, fun g7 => go 200 ?_⟩
      · exact ⟨trivial, rfl, rfl, rfl, bad fun ⟨h, _⟩ => by have := lt_of g7; have := h.path; have := h.to; have := h.label; have := h.key; have := h.value; have := h.pieces; simp only [List.length_map] at *; omega⟩
      have g7 := not_lt_of g7
      refine ⟨Int.natCast_nonneg i, _, hx, ?_⟩
      refine ⟨by constructor <;> omega, ?_⟩
      refine ⟨by constructor <;> omega, ?_⟩
      show Goes _ _ _ _
      refine next (i + 1, n + (o.pieces[i]).put.length) _ _ ⟨⟨hi, by simp only; omega, by simp only; omega⟩, ?_, ⟨⟨rfl, rfl⟩, ⟨rfl, rfl⟩, ⟨rfl, rfl⟩, ⟨rfl, rfl⟩, trivial⟩, ⟨⟨rfl, rfl⟩, trivial⟩⟩
      simp only; omega
    · have hi : o.pieces.length ≤ i := by simpa using hge
      rw [List.drop_eq_nil_of_le hi] at h2
      have h2 : putsLen o.pieces = n + 0 := h2
      exact ⟨trivial, rfl, rfl, rfl, leaf_tt ((lightB_iff o top).2 ⟨hlt, by omega⟩)⟩


set_option maxRecDepth 100000 in
theorem w_TreeopsFormed (o : OpT) : Pure Try.prog 5 [opV o] (fun x => x = .bool true) := by
  refine pure_wk (pure_fn 300 Try.func5 rfl rfl rfl fun B => ?_)
  refine goes_draw 300 ?_
  refine ⟨_, w_LightX o 500 (by decide), rfl, ?_⟩
  have ok : (!lightB o 500) = false → o.Ok := fun g => light_ok (by simpa using g) (by decide)
  have pl : ∀ h : o.Ok, ∀ p ∈ o.pieces, p.put.length ≤ 1000000000 := fun h p hp => by have := put_le p hp; have := h.puts; omega
  refine ⟨fun g => ⟨_, w_works08, rfl, ?_⟩, fun g => ⟨_, w_Formed o (ok g).lt (pl (ok g)), rfl, _, w_refFormed o (ok g).lt (pl (ok g)), rfl, ⟨fun q => ⟨_, w_works08, rfl, ?_⟩, fun q => ?_⟩⟩⟩
  · exact ⟨by kernel_rfl, trivial, rfl, rfl, rfl, leaf_b rfl⟩
  · exact ⟨by kernel_rfl, trivial, rfl, rfl, rfl, leaf_b rfl⟩
  · exact absurd q (by simp)

set_option maxRecDepth 100000 in
theorem w_TreeopsValid (t : Tree) (o : OpT) : Pure Try.prog 6 [nodeV t, opV o] (fun x => x = .bool true) := by
  refine pure_wk (pure_fn 300 Try.func6 rfl rfl rfl fun B => ?_)
  show CallThen _ _ _ _ _ _
  refine call_pure (w_Weight t 600 (by decide)) rfl ?_
  rintro x ⟨w, rfl, w1, w2, w3⟩
  refine ⟨fun g => go 300 ?_, fun g => go 300 ?_⟩
  · show CallThen _ _ _ _ _ _
    refine call_pure w_works08 rfl ?_
    rintro x rfl
    exact ⟨trivial, rfl, rfl, rfl, leaf_b rfl⟩
  have g : (w : Int) ≤ 600 := not_lt_of g
  have hw : t.weight ≤ 600 := by have := w3 (by omega); omega
  have hw' : t.weight ≤ 1000000 := by omega
  show CallThen _ _ _ _ _ _
  refine call_pure (w_LightX o 500 (by decide)) rfl ?_
  rintro x rfl
  refine ⟨fun g => go 300 ?_, fun g => go 300 ?_⟩
  · show CallThen _ _ _ _ _ _
    refine call_pure w_works08 rfl ?_
    rintro x rfl
    exact ⟨trivial, rfl, rfl, rfl, leaf_b rfl⟩
  have ok : o.Ok := light_ok (by simpa using g) (by decide)
  refine goes_draw 300 ?_
  refine ⟨_, w_Valid t o hw' ok, rfl, _, w_refValid t o hw' ok, rfl, ⟨fun q => ⟨_, w_works08, rfl, ?_⟩, fun q => ?_⟩⟩
  · exact ⟨by kernel_rfl, trivial, rfl, rfl, rfl, leaf_b rfl⟩
  · exact absurd q (by simp)
end Bow
/- TD1: what is read as data at the program's types. -/
namespace Bow
open Go Go.Proofs

theorem take1 {vs : List V} {c : V} (h : vs.take 1 = [c]) : ∃ r, vs = c :: r ∧ vs.drop 1 = r := by
  cases vs with
  | nil => simp at h
  | cons x r => simp at h; subst h; exact ⟨r, rfl, rfl⟩

theorem map_exists {α β : Type} {f : α → V} {g : β → V} : ∀ {xs : List α}, (∀ x ∈ xs, ∃ y, f x = g y) → ∃ ys : List β, xs.map f = ys.map g
  | [], _ => ⟨[], rfl⟩
  | x :: xs, h => by
    obtain ⟨y, hy⟩ := h x List.mem_cons_self
    obtain ⟨ys, hys⟩ := map_exists (xs := xs) fun z hz => h z (List.mem_cons_of_mem _ hz)
    exact ⟨y :: ys, by simp [hy, hys]⟩

theorem vt_str {n : Nat} {vs : List V} (h : VT Try.prog n 9 vs) : ∃ s, vs = [.str s] := by
  cases n with
  | zero => exact h.elim
  | succ n =>
    obtain ⟨s, e, _⟩ : ∃ s : List UInt8, vs = [.str s] ∧ s.length ≤ maxLen := h
    exact ⟨s, e⟩
theorem vt_bool {n : Nat} {vs : List V} (h : VT Try.prog n 4 vs) : ∃ b, vs = [.bool b] := by
  cases n with
  | zero => exact h.elim
  | succ n => exact h
theorem vt_int {n : Nat} {vs : List V} (h : VT Try.prog n 3 vs) : ∃ i, vs = [.int .i64 i] ∧ (Lit.int .i64 i).wf = true := by
  cases n with
  | zero => exact h.elim
  | succ n => exact h
theorem vt_u64 {n : Nat} {vs : List V} (h : VT Try.prog n 22 vs) : ∃ i, vs = [.int .u64 i] := by
  cases n with
  | zero => exact h.elim
  | succ n =>
    obtain ⟨s, e, _⟩ : ∃ s : Int, vs = [.int .u64 s] ∧ (Lit.int .u64 s).wf = true := h
    exact ⟨s, e⟩
theorem vt_u8 {n : Nat} {vs : List V} (h : VT Try.prog n 5 vs) : ∃ i, vs = [.int .u8 i] := by
  cases n with
  | zero => exact h.elim
  | succ n =>
    obtain ⟨s, e, _⟩ : ∃ s : Int, vs = [.int .u8 s] ∧ (Lit.int .u8 s).wf = true := h
    exact ⟨s, e⟩
set_option maxRecDepth 100000 in
theorem vt_attr {n : Nat} {vs : List V} (h : VT Try.prog n 67 vs) : ∃ a, vs = (attrV a).cells := by
  cases n with
  | zero => exact h.elim
  | succ n =>
    obtain ⟨h0, h1, h2⟩ : VT Try.prog n 9 (vs.take 1) ∧ VT Try.prog n 9 ((vs.drop 1).take 1) ∧ (vs.drop 1).drop 1 = [] := h
    obtain ⟨a, e0⟩ := vt_str h0
    obtain ⟨b, e1⟩ := vt_str h1
    obtain ⟨r, rfl, d0⟩ := take1 e0
    rw [d0] at e1 h2
    obtain ⟨r1, rfl, d1⟩ := take1 e1
    rw [d1] at h2
    subst h2
    exact ⟨(a, b), rfl⟩
set_option maxRecDepth 100000 in
theorem vt_attrs {n : Nat} {vs : List V} (h : VT Try.prog n 23 vs) : ∃ l : List (List UInt8 × List UInt8), vs = [.sl 2 (l.map attrV)] := by
  cases n with
  | zero => exact h.elim
  | succ n =>
    obtain ⟨xs, e, _, hx⟩ : ∃ xs : List (List V), vs = [.sl 2 (xs.map (mkX Try.prog 67))] ∧ xs.length ≤ maxLen ∧ ∀ x ∈ xs, VT Try.prog n 67 x := h
    obtain ⟨l, hl⟩ := map_exists (f := mkX Try.prog 67) (g := attrV) (xs := xs) fun x hm => by
      obtain ⟨a, rfl⟩ := vt_attr (hx x hm)
      exact ⟨a, rfl⟩
    exact ⟨l, by rw [e, hl]⟩

set_option maxRecDepth 100000 in
theorem vt_node : ∀ (n : Nat) (vs : List V), VT Try.prog n 26 vs → ∃ t : Tree, vs = (nodeV t).cells := by
  intro n
  induction n using Nat.strongRecOn with
  | _ n ih =>
    intro vs h
    cases n with
    | zero => exact h.elim
    | succ n =>
      obtain ⟨h0, h1, h2, h3, h4, h5, h6⟩ : VT Try.prog n 22 (vs.take 1) ∧ VT Try.prog n 4 ((vs.drop 1).take 1) ∧ VT Try.prog n 9 (((vs.drop 1).drop 1).take 1) ∧ VT Try.prog n 23 ((((vs.drop 1).drop 1).drop 1).take 1) ∧
        VT Try.prog n 9 (((((vs.drop 1).drop 1).drop 1).drop 1).take 1) ∧ VT Try.prog n 24 ((((((vs.drop 1).drop 1).drop 1).drop 1).drop 1).take 1) ∧ (((((vs.drop 1).drop 1).drop 1).drop 1).drop 1).drop 1 = [] := h
      obtain ⟨i, e0⟩ := vt_u64 h0
      obtain ⟨l, e1⟩ := vt_bool h1
      obtain ⟨s, e2⟩ := vt_str h2
      obtain ⟨a, e3⟩ := vt_attrs h3
      obtain ⟨x, e4⟩ := vt_str h4
      obtain ⟨r, rfl, d0⟩ := take1 e0
      rw [d0] at e1 e2 e3 e4 h5 h6
      obtain ⟨r, rfl, d0⟩ := take1 e1
      rw [d0] at e2 e3 e4 h5 h6
      obtain ⟨r, rfl, d0⟩ := take1 e2
      rw [d0] at e3 e4 h5 h6
      obtain ⟨r, rfl, d0⟩ := take1 e3
      rw [d0] at e4 h5 h6
      obtain ⟨r, rfl, d0⟩ := take1 e4
      rw [d0] at h5 h6
      cases n with
      | zero => exact h5.elim
      | succ n =>
        obtain ⟨xs, e5, _, hx⟩ : ∃ xs : List (List V), r.take 1 = [.sl 6 (xs.map (mkX Try.prog 26))] ∧ xs.length ≤ maxLen ∧ ∀ x ∈ xs, VT Try.prog n 26 x := h5
        obtain ⟨ts, hts⟩ := map_exists (f := mkX Try.prog 26) (g := nodeV) (xs := xs) fun x hm => by
          obtain ⟨t, rfl⟩ := ih n (by omega) x (hx x hm)
          exact ⟨t, rfl⟩
        obtain ⟨r, rfl, d0⟩ := take1 e5
        rw [d0] at h6
        subst h6
        refine ⟨.mk i l s a x ts, ?_⟩
        rw [hts]
        simp only [nodeV, Tree.id, Tree.leaf, Tree.label, Tree.attrs, Tree.text, subV_eq, Tree.subs, V.cells]

theorem rep_of_cells {w : World} {vs : List V} {cs : Array Value} (h : RowRep w β0 [] vs cs.toList) : Rep w β0 [] (.agg vs) (.agg cs) :=
  .agg vs cs (by simpa using h.1) fun j c v hj hv => h.2 j c v hj (by simpa using hv)

set_option maxRecDepth 100000 in
/-- A node that is handed over. -/
theorem node_arg {H : Type} {enc : TypeId × Value → H} {w : World} {r : Reach} {base b0 : Nat} {sp : Nat → Bool} {held : Bool} {v : Value} {d : DataW H} {p : List MemPlace} (ho : Value.okWide Try.prog w r b0 26 v) (h : DataW.Trod enc Try.prog w base sp held 26 v d p) :
    ∃ t : Tree, Rep w β0 [] (nodeV t) v := by
  obtain ⟨fuel, hf⟩ := h
  obtain ⟨cs, rfl, _, _⟩ : ∃ cs, v = .agg cs ∧ cs.size = Try.prog.cellsOf 26 ∧ Row.okWide Try.prog w r b0 26 cs := ho
  obtain ⟨vs, h1, _, h3⟩ := read_data (G := [26, 24, 23, 67, 9, 22, 4]) (by kernel_rfl) fuel _ _ _ (by kernel_rfl) hf
  obtain ⟨t, rfl⟩ := vt_node _ _ h3
  exact ⟨t, rep_of_cells h1⟩
end Bow
/- TD2: operations that are read as data. -/
namespace Bow
open Go Go.Proofs

set_option maxRecDepth 100000 in
theorem vt_path {n : Nat} {vs : List V} (h : VT Try.prog n 37 vs) : ∃ l : List Int, vs = [pathV l] ∧ l.length ≤ maxLen ∧ ∀ i ∈ l, (Lit.int .i64 i).wf = true := by
  cases n with
  | zero => exact h.elim
  | succ n =>
    obtain ⟨xs, e, hl, hx⟩ : ∃ xs : List (List V), vs = [.sl 1 (xs.map (mkX Try.prog 3))] ∧ xs.length ≤ maxLen ∧ ∀ x ∈ xs, VT Try.prog n 3 x := h
    have key : ∀ xs : List (List V), (∀ x ∈ xs, VT Try.prog n 3 x) → ∃ l : List Int, xs.map (mkX Try.prog 3) = l.map intV ∧ ∀ i ∈ l, (Lit.int .i64 i).wf = true := by
      intro xs
      induction xs with
      | nil => intro _; exact ⟨[], rfl, by simp⟩
      | cons x xs ih =>
        intro hx
        obtain ⟨i, rfl, hw⟩ := vt_int (hx x List.mem_cons_self)
        obtain ⟨l, e, hl⟩ := ih fun z hz => hx z (List.mem_cons_of_mem _ hz)
        refine ⟨i :: l, by simp only [List.map_cons, e]; rfl, fun j hj => ?_⟩
        rcases List.mem_cons.1 hj with rfl | hj
        · exact hw
        · exact hl j hj
    obtain ⟨l, e1, e2⟩ := key xs hx
    refine ⟨l, by rw [e, e1]; rfl, ?_, e2⟩
    have := congrArg List.length e1
    simp at this
    omega
set_option maxRecDepth 100000 in
theorem vt_piece {n : Nat} {vs : List V} (h : VT Try.prog n 63 vs) : ∃ p, vs = (pieceV p).cells := by
  cases n with
  | zero => exact h.elim
  | succ n =>
    obtain ⟨h0, h1, h2, h3⟩ : VT Try.prog n 3 (vs.take 1) ∧ VT Try.prog n 3 ((vs.drop 1).take 1) ∧ VT Try.prog n 9 (((vs.drop 1).drop 1).take 1) ∧ ((vs.drop 1).drop 1).drop 1 = [] := h
    obtain ⟨a, e0, _⟩ := vt_int h0
    obtain ⟨b, e1, _⟩ := vt_int h1
    obtain ⟨s, e2⟩ := vt_str h2
    obtain ⟨r, rfl, d0⟩ := take1 e0
    rw [d0] at e1 e2 h3
    obtain ⟨r1, rfl, d1⟩ := take1 e1
    rw [d1] at e2 h3
    obtain ⟨r2, rfl, d2⟩ := take1 e2
    rw [d2] at h3
    subst h3
    exact ⟨⟨a, b, s⟩, rfl⟩
set_option maxRecDepth 100000 in
theorem vt_pieces {n : Nat} {vs : List V} (h : VT Try.prog n 38 vs) : ∃ l : List PieceT, vs = [piecesV l] := by
  cases n with
  | zero => exact h.elim
  | succ n =>
    obtain ⟨xs, e, _, hx⟩ : ∃ xs : List (List V), vs = [.sl 3 (xs.map (mkX Try.prog 63))] ∧ xs.length ≤ maxLen ∧ ∀ x ∈ xs, VT Try.prog n 63 x := h
    obtain ⟨l, hl⟩ := map_exists (f := mkX Try.prog 63) (g := pieceV) (xs := xs) fun x hm => by
      obtain ⟨a, rfl⟩ := vt_piece (hx x hm)
      exact ⟨a, rfl⟩
    exact ⟨l, by rw [e, hl]; rfl⟩

set_option maxRecDepth 100000 in
theorem vt_op {n : Nat} {vs : List V} (h : VT Try.prog n 40 vs) : ∃ o, vs = (opV o).cells := by
  cases n with
  | zero => exact h.elim
  | succ n =>
    obtain ⟨h0, h⟩ : VT Try.prog n 5 (vs.take 1) ∧ _ := h
    obtain ⟨a0, e0⟩ := vt_u8 h0
    obtain ⟨r, rfl, d0⟩ := take1 e0
    obtain ⟨h1, h⟩ : VT Try.prog n 37 (r.take 1) ∧ _ := h
    obtain ⟨a1, e1, _⟩ := vt_path h1
    obtain ⟨r, rfl, d0⟩ := take1 e1
    obtain ⟨h2, h⟩ : VT Try.prog n 3 (r.take 1) ∧ _ := h
    obtain ⟨a2, e2, _⟩ := vt_int h2
    obtain ⟨r, rfl, d0⟩ := take1 e2
    obtain ⟨h3, h⟩ : VT Try.prog n 37 (r.take 1) ∧ _ := h
    obtain ⟨a3, e3, _⟩ := vt_path h3
    obtain ⟨r, rfl, d0⟩ := take1 e3
    obtain ⟨h4, h⟩ : VT Try.prog n 22 (r.take 1) ∧ _ := h
    obtain ⟨a4, e4⟩ := vt_u64 h4
    obtain ⟨r, rfl, d0⟩ := take1 e4
    obtain ⟨h5, h⟩ : VT Try.prog n 4 (r.take 1) ∧ _ := h
    obtain ⟨a5, e5⟩ := vt_bool h5
    obtain ⟨r, rfl, d0⟩ := take1 e5
    obtain ⟨h6, h⟩ : VT Try.prog n 9 (r.take 1) ∧ _ := h
    obtain ⟨a6, e6⟩ := vt_str h6
    obtain ⟨r, rfl, d0⟩ := take1 e6
    obtain ⟨h7, h⟩ : VT Try.prog n 9 (r.take 1) ∧ _ := h
    obtain ⟨a7, e7⟩ := vt_str h7
    obtain ⟨r, rfl, d0⟩ := take1 e7
    obtain ⟨h8, h⟩ : VT Try.prog n 9 (r.take 1) ∧ _ := h
    obtain ⟨a8, e8⟩ := vt_str h8
    obtain ⟨r, rfl, d0⟩ := take1 e8
    obtain ⟨h9, h⟩ : VT Try.prog n 4 (r.take 1) ∧ _ := h
    obtain ⟨a9, e9⟩ := vt_bool h9
    obtain ⟨r, rfl, d0⟩ := take1 e9
    obtain ⟨h10, h⟩ : VT Try.prog n 38 (r.take 1) ∧ _ := h
    obtain ⟨a10, e10⟩ := vt_pieces h10
    obtain ⟨r, rfl, d0⟩ := take1 e10
    have h : r = [] := h
    subst h
    exact ⟨⟨a0, a1, a2, a3, a4, a5, a6, a7, a8, a9, a10⟩, rfl⟩
set_option maxRecDepth 100000 in
theorem vt_ops {n : Nat} {vs : List V} (h : VT Try.prog n 33 vs) : ∃ l : List OpT, vs = [.sl 11 (l.map opV)] ∧ l.length ≤ maxLen := by
  cases n with
  | zero => exact h.elim
  | succ n =>
    obtain ⟨xs, e, hl, hx⟩ : ∃ xs : List (List V), vs = [.sl 11 (xs.map (mkX Try.prog 40))] ∧ xs.length ≤ maxLen ∧ ∀ x ∈ xs, VT Try.prog n 40 x := h
    obtain ⟨l, e1⟩ := map_exists (f := mkX Try.prog 40) (g := opV) (xs := xs) fun x hm => by
      obtain ⟨a, rfl⟩ := vt_op (hx x hm)
      exact ⟨a, rfl⟩
    refine ⟨l, by rw [e, e1], ?_⟩
    have := congrArg List.length e1
    simp at this
    omega

set_option maxRecDepth 100000 in
/-- An operation that is handed over. -/
theorem op_arg {H : Type} {enc : TypeId × Value → H} {w : World} {r : Reach} {base b0 : Nat} {sp : Nat → Bool} {held : Bool} {v : Value} {d : DataW H} {p : List MemPlace} (ho : Value.okWide Try.prog w r b0 40 v) (h : DataW.Trod enc Try.prog w base sp held 40 v d p) :
    ∃ o : OpT, Rep w β0 [] (opV o) v := by
  obtain ⟨fuel, hf⟩ := h
  obtain ⟨cs, rfl, _, _⟩ : ∃ cs, v = .agg cs ∧ cs.size = Try.prog.cellsOf 40 ∧ Row.okWide Try.prog w r b0 40 cs := ho
  obtain ⟨vs, h1, _, h3⟩ := read_data (G := [40, 37, 38, 63, 3, 9, 22, 5, 4]) (by kernel_rfl) fuel _ _ _ (by kernel_rfl) hf
  obtain ⟨t, rfl⟩ := vt_op h3
  exact ⟨t, rep_of_cells h1⟩
set_option maxRecDepth 100000 in
/-- A list of operations that is handed over. -/
theorem ops_arg {H : Type} {enc : TypeId × Value → H} {w : World} {r : Reach} {base b0 : Nat} {sp : Nat → Bool} {held : Bool} {v : Value} {d : DataW H} {p : List MemPlace} (ho : Value.okWide Try.prog w r b0 33 v) (h : DataW.Trod enc Try.prog w base sp held 33 v d p) :
    ∃ l : List OpT, Rep w β0 [] (.sl 11 (l.map opV)) v ∧ l.length ≤ maxLen := by
  obtain ⟨a, len, cap, rfl⟩ := WideShapes.okWide_slice Try.underlying33 ho
  obtain ⟨fuel, hf⟩ := h
  obtain ⟨vs, h1, _, h3⟩ := read_data (G := [33, 40, 37, 38, 63, 3, 9, 22, 5, 4]) (by kernel_rfl) fuel _ _ _ (by kernel_rfl) hf
  obtain ⟨l, rfl, hl⟩ := vt_ops h3
  exact ⟨l, h1.2 0 _ _ rfl rfl, hl⟩
set_option maxRecDepth 100000 in
/-- A path that is handed over. -/
theorem path_arg {H : Type} {enc : TypeId × Value → H} {w : World} {r : Reach} {base b0 : Nat} {sp : Nat → Bool} {held : Bool} {v : Value} {d : DataW H} {p : List MemPlace} (ho : Value.okWide Try.prog w r b0 37 v) (h : DataW.Trod enc Try.prog w base sp held 37 v d p) :
    ∃ l : List Int, Rep w β0 [] (pathV l) v ∧ l.length ≤ maxLen ∧ ∀ i ∈ l, (Lit.int .i64 i).wf = true := by
  obtain ⟨a, len, cap, rfl⟩ := WideShapes.okWide_slice Try.underlying37 ho
  obtain ⟨fuel, hf⟩ := h
  obtain ⟨vs, h1, _, h3⟩ := read_data (G := [37, 3]) (by kernel_rfl) fuel _ _ _ (by kernel_rfl) hf
  obtain ⟨l, rfl, hl⟩ := vt_path h3
  exact ⟨l, h1.2 0 _ _ rfl rfl, hl⟩
end Bow
