/- The library, part 5: W20, SP5, W21, W22, SP6, W23, AE39, AE40, WB1, W24, SP7, W25, SP8, W26, SP9, W27, W30a, SP10, SP11, AE41, W31, W32, SP12, SP13, W33, W34, WB2, W35, W36, W37, W38, SP14. -/
import Derived.Test.YtpcjbccldpddjaaGreatMd
import Derived.Shelf.Strings.BuilderK
import Derived.Test.YtpcjbccldpddjaaGreatProg
import Derived.BigCall
import Derived.Lib.Bytealg
import Derived.Laws.Shifts
/- W20: where a moved node lands. -/
namespace Bow
open Go Go.Proofs

def landV (r : List Int × Int) : V := .tup [pathV r.1, intV r.2]

set_option maxRecDepth 100000 in
theorem w_landing (p to : List Int) (n : Int) (hp : p.length ≤ 1000000) (ht : to.length ≤ 1000000) (hne : p ≠ []) (hn : inI n) (hr : ∀ x ∈ to, inI x) (h0 : 0 ≤ p.getLast hne) :
    Pure Tryz.prog 71 [pathV p, pathV to, intV n] (fun z => z = landV (landT p.dropLast (p.getLast hne) to n)) := by
  obtain ⟨hn1, hn2⟩ := hn
  have hq : p.dropLast.length ≤ 1000000 := by simp; omega
  refine pure_fn 100 Tryz.func71 rfl rfl rfl fun B => ?_
  show CallThen _ _ _ _ _ _
  refine call_pure (w_Parent p hp hne) rfl ?_
  rintro z rfl
  show CallThen _ _ _ _ _ _
  refine call_pure (w_pathSame p.dropLast to hq) rfl ?_
  rintro z rfl
  have other : (decide (p.dropLast = to) && decide (p.getLast hne < n)) = false → landT p.dropLast (p.getLast hne) to n = bif within p.dropLast to && (decide (p.dropLast.length < to.length) && decide (p.getLast hne < to.getD p.dropLast.length 0)) then (to.set p.dropLast.length (to.getD p.dropLast.length 0 - 1), n) else (to, n) := fun h => by
    unfold landT
    rw [h]
    rfl
  have hlen : ((p.dropLast.map intV).length : Int) = (p.dropLast.length : Int) := by simp
  refine ⟨fun g1 => go 100 ⟨fun g2 => go 100 ?_, fun g2 => ?_⟩, fun g1 => ?_⟩
  · have g2' := lt_of g2
    refine ⟨by constructor <;> omega, ?_⟩
    refine ⟨trivial, rfl, rfl, rfl, ?_⟩
    unfold landT
    rw [g1, g2]
    rfl
  case refine_2 =>
    replace other := other (by rw [g1, g2]; rfl)
    refine go 100 ?_
    show CallThen _ _ _ _ _ _
    refine call_pure (w_pathWithin p.dropLast to hq) rfl ?_
    rintro z rfl
    refine ⟨fun g3 => go 100 ⟨fun g4 => go 100 ?_, fun g4 => go 100 ?_⟩, fun g3 => go 100 ?_⟩
    · have g4' := lt_of g4
      rw [hlen] at g4'
      simp only [List.length_map] at g4'
      have g4l : p.dropLast.length < to.length := by omega
      have hx : (to.map intV)[(((p.dropLast.map intV).length : Nat) : Int).toNat]? = some (intV (to.getD p.dropLast.length 0)) := by
        have e : (((p.dropLast.map intV).length : Nat) : Int).toNat = p.dropLast.length := by simp
        rw [e, List.getElem?_map, List.getElem?_eq_getElem g4l, List.getD_eq_getElem?_getD, List.getElem?_eq_getElem g4l]
        rfl
      refine ⟨Int.natCast_nonneg _, _, hx, ?_⟩
      refine ⟨fun g5 => go 100 ?_, fun g5 => go 100 ?_⟩
      · show CallThen _ _ _ _ _ _
        refine call_sub [] (w_CloneInt (to.map intV) (by simpa using ht)) rfl rfl trivial rfl rfl rfl ?_
        rintro z T1 (⟨e, _⟩ | ⟨rfl, rfl⟩)
        · have := congrArg List.length e
          simp at this
          subst this
          simp at g4l
        refine ⟨rfl, ?_⟩
        have hx' : (to.map intV)[0 + (((p.dropLast.map intV).length : Nat) : Int).toNat]? = some (intV (to.getD p.dropLast.length 0)) := by rw [Nat.zero_add]; exact hx
        have hlt : (((p.dropLast.map intV).length : Nat) : Int) < ((to.map intV).length : Nat) := by simp; simp at g4l; omega
        have hr' := hr (to.getD p.dropLast.length 0) (by rw [List.getD_eq_getElem?_getD, List.getElem?_eq_getElem g4l]; exact List.getElem_mem g4l)
        have g5' := lt_of g5
        obtain ⟨r1, r2⟩ := hr'
        refine ⟨rfl, Int.natCast_nonneg _, hlt, rfl, _, hx', ⟨by omega, by omega⟩, rfl, Int.natCast_nonneg _, hlt, rfl, _, hx', ?_⟩
        refine ⟨trivial, rfl, rfl, rfl, by simp, rfl, ?_⟩
        rw [other]
        rw [g3, decide_eq_true g4l, g5]
        have e : 0 + (((p.dropLast.map intV).length : Nat) : Int).toNat = p.dropLast.length := by simp
        show V.tup [V.sl 1 (((to.map intV)).set _ (intV (to.getD p.dropLast.length 0 - 1))), intV n] = landV (to.set p.dropLast.length (to.getD p.dropLast.length 0 - 1), n)
        rw [e, ← List.map_set]
        rfl
      · refine ⟨trivial, rfl, rfl, rfl, ?_⟩
        rw [other, g3, decide_eq_true g4l, g5]
        rfl
    · refine ⟨trivial, rfl, rfl, rfl, ?_⟩
      have g4' := not_lt_of g4
      rw [hlen] at g4'
      simp only [List.length_map] at g4'
      have g4l : ¬ p.dropLast.length < to.length := by omega
      rw [other, g3, decide_eq_false g4l]
      rfl
    · refine ⟨trivial, rfl, rfl, rfl, ?_⟩
      rw [other, g3]
      rfl
  case refine_3 =>
    replace other := other (by rw [g1]; rfl)
    refine go 100 ?_
    show CallThen _ _ _ _ _ _
    refine call_pure (w_pathWithin p.dropLast to hq) rfl ?_
    rintro z rfl
    refine ⟨fun g3 => go 100 ⟨fun g4 => go 100 ?_, fun g4 => go 100 ?_⟩, fun g3 => go 100 ?_⟩
    · have g4' := lt_of g4
      rw [hlen] at g4'
      simp only [List.length_map] at g4'
      have g4l : p.dropLast.length < to.length := by omega
      have hx : (to.map intV)[(((p.dropLast.map intV).length : Nat) : Int).toNat]? = some (intV (to.getD p.dropLast.length 0)) := by
        have e : (((p.dropLast.map intV).length : Nat) : Int).toNat = p.dropLast.length := by simp
        rw [e, List.getElem?_map, List.getElem?_eq_getElem g4l, List.getD_eq_getElem?_getD, List.getElem?_eq_getElem g4l]
        rfl
      refine ⟨Int.natCast_nonneg _, _, hx, ?_⟩
      refine ⟨fun g5 => go 100 ?_, fun g5 => go 100 ?_⟩
      · show CallThen _ _ _ _ _ _
        refine call_sub [] (w_CloneInt (to.map intV) (by simpa using ht)) rfl rfl trivial rfl rfl rfl ?_
        rintro z T1 (⟨e, _⟩ | ⟨rfl, rfl⟩)
        · have := congrArg List.length e
          simp at this
          subst this
          simp at g4l
        refine ⟨rfl, ?_⟩
        have hx' : (to.map intV)[0 + (((p.dropLast.map intV).length : Nat) : Int).toNat]? = some (intV (to.getD p.dropLast.length 0)) := by rw [Nat.zero_add]; exact hx
        have hlt : (((p.dropLast.map intV).length : Nat) : Int) < ((to.map intV).length : Nat) := by simp; simp at g4l; omega
        have hr' := hr (to.getD p.dropLast.length 0) (by rw [List.getD_eq_getElem?_getD, List.getElem?_eq_getElem g4l]; exact List.getElem_mem g4l)
        have g5' := lt_of g5
        obtain ⟨r1, r2⟩ := hr'
        refine ⟨rfl, Int.natCast_nonneg _, hlt, rfl, _, hx', ⟨by omega, by omega⟩, rfl, Int.natCast_nonneg _, hlt, rfl, _, hx', ?_⟩
        refine ⟨trivial, rfl, rfl, rfl, by simp, rfl, ?_⟩
        rw [other]
        rw [g3, decide_eq_true g4l, g5]
        have e : 0 + (((p.dropLast.map intV).length : Nat) : Int).toNat = p.dropLast.length := by simp
        show V.tup [V.sl 1 (((to.map intV)).set _ (intV (to.getD p.dropLast.length 0 - 1))), intV n] = landV (to.set p.dropLast.length (to.getD p.dropLast.length 0 - 1), n)
        rw [e, ← List.map_set]
        rfl
      · refine ⟨trivial, rfl, rfl, rfl, ?_⟩
        rw [other, g3, decide_eq_true g4l, g5]
        rfl
    · refine ⟨trivial, rfl, rfl, rfl, ?_⟩
      have g4' := not_lt_of g4
      rw [hlen] at g4'
      simp only [List.length_map] at g4'
      have g4l : ¬ p.dropLast.length < to.length := by omega
      rw [other, g3, decide_eq_false g4l]
      rfl
    · refine ⟨trivial, rfl, rfl, rfl, ?_⟩
      rw [other, g3]
      rfl
end Bow
/- SP5: right trees, in plain Lean. -/
namespace Bow
open Go

def leS (a b : List UInt8) : Bool := Op.bytesLess a b || decide (a = b)
def ordOk : Option (List UInt8) → List UInt8 → Bool
  | none, _ => true
  | some k, s => !leS s k
def attrOk (k : Option (List UInt8)) (a : List UInt8 × List UInt8) : Bool := keyOk a.1 && (decide ((a.2.length : Int) ≤ 256) && ordOk k a.1)
/-- Attributes that are right, behind one of the key k. -/
def attrsOk : Option (List UInt8) → List (List UInt8 × List UInt8) → Bool
  | _, [] => true
  | k, a :: l => attrOk k a && attrsOk (some a.1) l
def headOk (t : Tree) : Bool := !decide ((64 : Int) < t.label.length) && (!(t.leaf && decide ((0 : Int) < t.subs.length)) && !(!t.leaf && !decide (t.text = [])))
/-- A node itself is right. -/
def rightN (t : Tree) : Bool := headOk t && attrsOk none t.attrs
mutual
def Tree.rightA : Tree → Bool
  | .mk i l a b c ss => rightN (.mk i l a b c ss) && rightsA ss
def rightsA : List Tree → Bool
  | [] => true
  | s :: ss => s.rightA && rightsA ss
end
theorem rightA_eq (t : Tree) : t.rightA = (rightN t && rightsA t.subs) := by cases t; rw [Tree.rightA]; rfl
theorem rightsA_all : ∀ ss : List Tree, rightsA ss = ss.all Tree.rightA
  | [] => by rw [rightsA]; rfl
  | s :: ss => by rw [rightsA, rightsA_all ss]; rfl
mutual
theorem pre_right : ∀ (t : Tree) (d : Int), (t.pre d).all (fun p => rightN p.2) = t.rightA
  | .mk i l a b c ss, d => by rw [Tree.pre, List.all_cons, pres_right ss (d + 1), Tree.rightA]
theorem pres_right : ∀ (ss : List Tree) (d : Int), (pres d ss).all (fun p => rightN p.2) = rightsA ss
  | [], d => by rw [pres]; rfl
  | s :: ss, d => by rw [pres, List.all_append, pre_right s d, pres_right ss d, rightsA]
end
def rightT (t : Tree) : Bool := !t.leaf && t.rightA

/-- The key ahead of place i. -/
def prevK (l : List (List UInt8 × List UInt8)) : Nat → Option (List UInt8)
  | 0 => none
  | i + 1 => some (l.getD i ([], [])).1
theorem attrs_at {l : List (List UInt8 × List UInt8)} {i : Nat} (hi : i < l.length) : attrsOk (prevK l i) (l.drop i) = (attrOk (prevK l i) l[i] && attrsOk (prevK l (i + 1)) (l.drop (i + 1))) := by
  rw [List.drop_eq_getElem_cons hi, attrsOk, prevK, List.getD_eq_getElem?_getD, List.getElem?_eq_getElem hi]
  rfl
end Bow
/- W21: right trees. -/
namespace Bow
open Go Go.Proofs

set_option maxRecDepth 100000 in
theorem w_rightN (t : Tree) (h : t.weight ≤ 1000000) : Pure Tryz.prog 64 [nodeV t] (fun x => x = .bool (rightN t)) := by
  have hw := weight_eq t
  refine pure_wk (pure_fn 300 Tryz.func64 rfl rfl rfl fun B => ?_)
  repeat' first
    | (refine ⟨fun _ => go 300 ?_, fun _ => go 300 ?_⟩)
    | (refine ⟨trivial, rfl, rfl, rfl, leaf_ff ?_⟩)
    | (show Goes _ _ _ _
       suffices hr : rightN t = attrsOk none t.attrs by
         refine goes_iter (ι := Nat) (fun i => i ≤ t.attrs.length ∧ attrsOk (prevK t.attrs i) (t.attrs.drop i) = rightN t) (fun i => t.attrs.length - i) (fun i => [(32, .int .i64 i), (31, .int .i64 (t.attrs.map attrV).length), (30, .sl 2 (t.attrs.map attrV)), (1, .ptr (.loc 0) 0)]) (fun i => [some (.box (nodeV t).cells)]) 0 300 (fun _ => rfl) (fun _ => rfl) ⟨⟨Nat.zero_le _, hr.symm⟩, ⟨⟨rfl, rfl⟩, ⟨rfl, rfl⟩, ⟨rfl, rfl⟩, ⟨rfl, rfl⟩, trivial⟩, ⟨⟨rfl, rfl⟩, trivial⟩⟩ ?_
         rintro i ⟨k1, k2⟩ next
         refine ⟨fun hlt => go 300 ?_, fun hge => go 300 ?_⟩
         · have hi : i < t.attrs.length := by simpa using hlt
           have hx : (t.attrs.map attrV)[i]? = some (attrV t.attrs[i]) := by simp [hi]
           rw [attrs_at hi] at k2
           unfold attrOk at k2
           have cont : keyOk t.attrs[i].1 = true → decide ((t.attrs[i].2.length : Int) ≤ 256) = true → ordOk (prevK t.attrs i) t.attrs[i].1 = true → attrsOk (prevK t.attrs (i + 1)) (t.attrs.drop (i + 1)) = rightN t := fun a b c => by rw [a, b, c] at k2; simpa using k2
           have stop1 : keyOk t.attrs[i].1 = false → rightN t = false := fun a => by rw [← k2, a]; rfl
           have stop2 : decide ((t.attrs[i].2.length : Int) ≤ 256) = false → rightN t = false := fun a => by rw [← k2, a]; simp
           have stop3 : ordOk (prevK t.attrs i) t.attrs[i].1 = false → rightN t = false := fun a => by rw [← k2, a]; simp
           refine ⟨Int.natCast_nonneg i, _, hx, ?_⟩
           show Goes _ _ _ _
           refine goes_draw 300 ⟨_, w_Key t.attrs[i].1, rfl, ⟨fun q1 => ?_, fun q1 => ⟨fun q2 => ?_, fun q2 => ⟨fun q3 => ?_, fun q3 => ?_⟩⟩⟩⟩
           · refine ⟨by kernel_rfl, ?_⟩
             exact ⟨trivial, rfl, rfl, rfl, leaf_ff (stop1 (by simpa using q1))⟩
           · refine ⟨by kernel_rfl, ?_⟩
             exact ⟨trivial, rfl, rfl, rfl, leaf_ff (stop2 (by have := lt_of q2; simp; omega))⟩
           · have q3' : 0 < i := by have := lt_of q3; omega
             have hx' : (t.attrs.map attrV)[((i : Int) - 1).toNat]? = some (attrV t.attrs[i - 1]) := by
               have : ((i : Int) - 1).toNat = i - 1 := by omega
               rw [this]
               simp [show i - 1 < t.attrs.length by omega]
             have hp : prevK t.attrs i = some t.attrs[i - 1].1 := by
               obtain ⟨j, rfl⟩ : ∃ j, i = j + 1 := ⟨i - 1, by omega⟩
               rw [prevK, List.getD_eq_getElem?_getD, List.getElem?_eq_getElem (by omega)]
               rfl
             rw [hp] at cont stop3
             refine ⟨⟨by omega, by omega⟩, by omega, _, hx', ?_⟩
             refine ⟨by kernel_rfl, ?_⟩
             refine ⟨fun q4 => go 300 ?_, fun q4 => go 300 ?_⟩
             · exact ⟨trivial, rfl, rfl, rfl, leaf_ff (stop3 (congrArg Bool.not q4))⟩
             · refine ⟨by constructor <;> omega, ?_⟩
               exact next (i + 1) _ _ ⟨⟨hi, cont (by simpa using q1) (by have := not_lt_of q2; simp; omega) (congrArg Bool.not q4)⟩, by omega, ⟨⟨rfl, rfl⟩, ⟨rfl, rfl⟩, ⟨rfl, rfl⟩, ⟨rfl, rfl⟩, trivial⟩, ⟨⟨rfl, rfl⟩, trivial⟩⟩
           · have q3' : i = 0 := by have := not_lt_of q3; omega
             subst q3'
             refine ⟨by kernel_rfl, ?_⟩
             refine ⟨by constructor <;> omega, ?_⟩
             exact next 1 _ _ ⟨⟨hi, cont (by simpa using q1) (by have := not_lt_of q2; simp; omega) rfl⟩, by omega, ⟨⟨rfl, rfl⟩, ⟨rfl, rfl⟩, ⟨rfl, rfl⟩, ⟨rfl, rfl⟩, trivial⟩, ⟨⟨rfl, rfl⟩, trivial⟩⟩
         · have hi : i = t.attrs.length := by have : t.attrs.length ≤ i := by simpa using hge
                                              omega
           subst hi
           rw [List.drop_eq_nil_of_le (Nat.le_refl _), attrsOk] at k2
           exact ⟨trivial, rfl, rfl, rfl, leaf_tt k2.symm⟩)
    | fail
  all_goals (simp_all [rightN, headOk, subV_eq])
def rightUpd (_ : Unit) (p : Int × Tree) : Unit × Option Code := bif rightN p.2 then ((), none) else ((), some .ret)
theorem rightUpd_all : ∀ l : List (Int × Tree), rfold rightUpd () l = bif l.all (fun p => rightN p.2) then ((), none) else ((), some .ret)
  | [] => rfl
  | p :: l => by
    rw [rfold, List.all_cons]
    cases h : rightN p.2 with
    | false => simp [rightUpd, h]
    | true =>
      simp only [rightUpd, h, cond_true, Bool.true_and]
      exact rightUpd_all l

set_option maxRecDepth 100000 in
theorem w_RightT (t : Tree) (h : t.weight ≤ 1000000) : Pure Tryz.prog 43 [nodeV t] (fun x => x = .bool (rightT t)) := by
  have hs := size_le_weight t
  refine pure_wk (pure_fn 100 Tryz.func43 rfl rfl rfl fun B => ?_)
  refine ⟨fun g1 => go 100 ?_, fun g1 => go 100 ?_⟩
  · exact ⟨trivial, rfl, rfl, rfl, leaf_ff (by unfold rightT; rw [g1]; rfl)⟩
  show CallThen _ _ _ _ _ _
  refine call_pure (w_nodes t) rfl ?_
  rintro x rfl
  show Goes _ _ _ _
  refine goes_range (σ := Unit) 100 2 (fun _ => [some (.box (nodeV t).cells), some (.box [.ff])]) rightUpd preV (fun _ l => ∀ p ∈ l, p.2.weight ≤ 1000000) () (t.pre 0) rfl rfl rfl (w_iter t (by omega)) rfl (fun _ => rfl) (fun _ => rfl) (fun _ => rfl) rfl (fun _ => rfl) (fun _ _ h => by cases h) ?_ ?_ ?_
  · exact fun p hp => Nat.le_trans (pre_mem_weight t 0 p hp).1 h
  · intro s a l hI
    refine ⟨fun _ p hp => hI p (List.mem_cons_of_mem _ hp), fun imps B r l h1 h2 => ?_⟩
    have h0 := hI a List.mem_cons_self
    have hr := w_rightN a.2 h0
    show Goes _ _ _ _
    refine goes_beginRound 100 rfl h2 rfl ?_
    show CallThen _ _ _ _ _ _
    refine call_pure hr rfl ?_
    rintro x rfl
    unfold rightUpd
    refine ⟨fun g => go 100 ?_, fun g => go 100 ?_⟩
    · have g : rightN a.2 = false := by simpa using g
      rw [g]
      exact ⟨rfl, rfl, trivial, ⟨rfl, rfl⟩, ⟨rfl, rfl⟩, ⟨rfl, rfl⟩, ⟨rfl, rfl⟩, trivial⟩
    · have g : rightN a.2 = true := by simpa using g
      rw [g]
      exact ⟨rfl, rfl, trivial, ⟨rfl, rfl⟩, ⟨rfl, rfl⟩, ⟨rfl, rfl⟩, ⟨rfl, rfl⟩, trivial⟩
  · rw [rightUpd_all, pre_right]
    cases hr : t.rightA with
    | true => exact ⟨trivial, rfl, rfl, rfl, leaf_tt (by unfold rightT; rw [g1, hr]; rfl)⟩
    | false => exact ⟨trivial, rfl, rfl, rfl, leaf_ff (by unfold rightT; rw [g1, hr]; rfl)⟩
end Bow
/- W22: right trees, in the document's words. -/
namespace Bow
open Go Go.Proofs

theorem rightsA_at {l : List Tree} {i : Nat} (hi : i < l.length) : rightsA (l.drop i) = (l[i].rightA && rightsA (l.drop (i + 1))) := by rw [List.drop_eq_getElem_cons hi, rightsA]

set_option maxRecDepth 100000 in
theorem w_refRightA (t : Tree) : t.weight ≤ 1000000 → Pure Tryz.prog 46 [nodeV t] (fun x => x = .bool t.rightA) := by
  induction t using Tree.ind with
  | _ t ih =>
  intro h
  have hw := weight_eq t
  refine pure_wk (pure_fn 300 Tryz.func46 rfl rfl rfl fun B => ?_)
  have hA := rightA_eq t
  have no : rightN t = false → t.rightA = false := fun e => by rw [hA, e]; rfl
  repeat' first
    | (refine ⟨fun _ => go 300 ?_, fun _ => go 300 ?_⟩)
    | (refine ⟨trivial, rfl, rfl, rfl, leaf_ff ?_⟩)
    | (show Goes _ _ _ _
       suffices hr : rightN t = attrsOk none t.attrs by
         refine goes_while (ι := Nat) (fun i => i ≤ t.attrs.length ∧ attrsOk (prevK t.attrs i) (t.attrs.drop i) = rightN t) (fun i => t.attrs.length - i) (fun i => [(3, .int .i64 i), (1, .ptr (.loc 0) 0)]) (fun i => [some (.box (nodeV t).cells)]) 0
           (fun _ : Unit => rightN t = true) (fun _ => [(1, .ptr (.loc 0) 0)]) (fun _ => [some (.box (nodeV t).cells)]) 300 (fun _ => rfl) (fun _ => rfl) (fun _ => rfl) (fun _ => rfl) ⟨⟨Nat.zero_le _, hr.symm⟩, ⟨⟨rfl, rfl⟩, ⟨rfl, rfl⟩, trivial⟩, ⟨⟨rfl, rfl⟩, trivial⟩⟩ ?_ ?_
         · rintro ⟨⟩ hN
           show Goes _ _ _ _
           refine goes_iter (ι := Nat) (fun i => i ≤ t.subs.length ∧ rightsA (t.subs.drop i) = rightsA t.subs) (fun i => t.subs.length - i) (fun i => [(4, .int .i64 i), (1, .ptr (.loc 0) 0)]) (fun i => [some (.box (nodeV t).cells)]) 0 300 (fun _ => rfl) (fun _ => rfl) ⟨⟨Nat.zero_le _, rfl⟩, ⟨⟨rfl, rfl⟩, ⟨rfl, rfl⟩, trivial⟩, ⟨⟨rfl, rfl⟩, trivial⟩⟩ ?_
           rintro i ⟨k1, k2⟩ next
           refine ⟨fun hlt => go 300 ?_, fun hge => go 300 ?_⟩
           · have hi : i < t.subs.length := by simpa [subV_eq] using hlt
             have hmem : t.subs[i] ∈ t.subs := List.getElem_mem hi
             have hws := weight_sub hmem
             have hsl := subs_le_weight t
             rw [rightsA_at hi] at k2
             refine ⟨Int.natCast_nonneg i, nodeV t.subs[i], by simp [subV_eq, hi], ?_⟩
             show CallThen _ _ _ _ _ _
             refine call_pure (ih _ hmem (by omega)) rfl ?_
             rintro x rfl
             refine ⟨fun g => go 300 ?_, fun g => go 300 ?_⟩
             · have g : (t.subs[i]).rightA = false := by simpa using g
               exact ⟨trivial, rfl, rfl, rfl, leaf_ff (by rw [hA, ← k2, g]; simp)⟩
             · have g : (t.subs[i]).rightA = true := by simpa using g
               rw [g, Bool.true_and] at k2
               refine ⟨by constructor <;> omega, ?_⟩
               exact next (i + 1) _ _ ⟨⟨hi, k2⟩, by omega, ⟨⟨rfl, rfl⟩, ⟨rfl, rfl⟩, trivial⟩, ⟨⟨rfl, rfl⟩, trivial⟩⟩
           · have hi : t.subs.length ≤ i := by simpa [subV_eq] using hge
             rw [List.drop_eq_nil_of_le hi, rightsA] at k2
             exact ⟨trivial, rfl, rfl, rfl, leaf_tt (by rw [hA, hN, ← k2]; rfl)⟩
         · rintro i ⟨k1, k2⟩ next post
           refine ⟨fun hlt => go 300 ?_, fun hge => go 300 ?_⟩
           · have hi : i < t.attrs.length := by simpa using hlt
             have hx : (t.attrs.map attrV)[i]? = some (attrV t.attrs[i]) := by simp [hi]
             rw [attrs_at hi] at k2
             unfold attrOk at k2
             have cont : keyOk t.attrs[i].1 = true → decide ((t.attrs[i].2.length : Int) ≤ 256) = true → ordOk (prevK t.attrs i) t.attrs[i].1 = true → attrsOk (prevK t.attrs (i + 1)) (t.attrs.drop (i + 1)) = rightN t := fun a b c => by rw [a, b, c] at k2; simpa using k2
             have stop1 : keyOk t.attrs[i].1 = false → rightN t = false := fun a => by rw [← k2, a]; rfl
             have stop2 : decide ((t.attrs[i].2.length : Int) ≤ 256) = false → rightN t = false := fun a => by rw [← k2, a]; simp
             have stop3 : ordOk (prevK t.attrs i) t.attrs[i].1 = false → rightN t = false := fun a => by rw [← k2, a]; simp
             show Goes _ _ _ _
             refine goes_draw 300 ⟨Int.natCast_nonneg i, _, hx, _, w_refKey t.attrs[i].1, rfl, ⟨fun q1 => ?_, fun q1 => ⟨Int.natCast_nonneg i, _, hx, ⟨fun q2 => ?_, fun q2 => ⟨fun q3 => ?_, fun q3 => ?_⟩⟩⟩⟩⟩
             · refine ⟨by kernel_rfl, ?_⟩
               exact ⟨trivial, rfl, rfl, rfl, leaf_ff (no (stop1 (by simpa using q1)))⟩
             · refine ⟨by kernel_rfl, ?_⟩
               exact ⟨trivial, rfl, rfl, rfl, leaf_ff (no (stop2 (by have := lt_of q2; simp; omega)))⟩
             · have q3' : 0 < i := by have := lt_of q3; omega
               have hx' : (t.attrs.map attrV)[((i : Int) - 1).toNat]? = some (attrV t.attrs[i - 1]) := by
                 have : ((i : Int) - 1).toNat = i - 1 := by omega
                 rw [this]
                 simp [show i - 1 < t.attrs.length by omega]
               have hp : prevK t.attrs i = some t.attrs[i - 1].1 := by
                 obtain ⟨j, rfl⟩ : ∃ j, i = j + 1 := ⟨i - 1, by omega⟩
                 rw [prevK, List.getD_eq_getElem?_getD, List.getElem?_eq_getElem (by omega)]
                 rfl
               rw [hp] at cont stop3
               refine ⟨Int.natCast_nonneg i, _, hx, ⟨by omega, by omega⟩, by omega, _, hx', ?_⟩
               refine ⟨by kernel_rfl, ?_⟩
               refine ⟨fun q4 => go 300 ?_, fun q4 => go 300 ?_⟩
               · exact ⟨trivial, rfl, rfl, rfl, leaf_ff (no (stop3 (congrArg Bool.not q4)))⟩
               · refine ⟨by constructor <;> omega, ?_⟩
                 exact next (i + 1) _ _ ⟨⟨hi, cont (by simpa using q1) (by have := not_lt_of q2; simp; omega) (congrArg Bool.not q4)⟩, by omega, ⟨⟨rfl, rfl⟩, ⟨rfl, rfl⟩, trivial⟩, ⟨⟨rfl, rfl⟩, trivial⟩⟩
             · have q3' : i = 0 := by have := not_lt_of q3; omega
               subst q3'
               refine ⟨by kernel_rfl, ?_⟩
               refine ⟨by constructor <;> omega, ?_⟩
               exact next 1 _ _ ⟨⟨hi, cont (by simpa using q1) (by have := not_lt_of q2; simp; omega) rfl⟩, by omega, ⟨⟨rfl, rfl⟩, ⟨rfl, rfl⟩, trivial⟩, ⟨⟨rfl, rfl⟩, trivial⟩⟩
           · have hi : i = t.attrs.length := by have : t.attrs.length ≤ i := by simpa using hge
                                                omega
             subst hi
             rw [List.drop_eq_nil_of_le (Nat.le_refl _), attrsOk] at k2
             exact post () _ _ _ rfl ⟨k2.symm, ⟨⟨rfl, rfl⟩, trivial⟩, ⟨⟨rfl, rfl⟩, trivial⟩⟩)
    | fail
  all_goals (first | refine no ?_ | skip)
  all_goals (simp_all [rightN, headOk, subV_eq])

theorem w_refRightT (t : Tree) (h : t.weight ≤ 1000000) : Pure Tryz.prog 33 [nodeV t] (fun x => x = .bool (rightT t)) := by
  refine pure_wk (pure_fn 100 Tryz.func33 rfl rfl rfl fun B => ?_)
  refine ⟨fun g1 => go 100 ?_, fun g1 => go 100 ?_⟩
  · show CallThen _ _ _ _ _ _
    refine call_pure (w_refRightA t h) rfl ?_
    rintro x rfl
    refine ⟨trivial, rfl, rfl, rfl, leaf_b ?_⟩
    unfold rightT
    rw [g1]
    rfl
  · refine ⟨trivial, rfl, rfl, rfl, leaf_ff ?_⟩
    unfold rightT
    rw [g1]
    rfl
end Bow
/- SP6: edits of a text, in plain Lean. -/
namespace Bow
open Go

def extentP (l : List PieceT) : Int := l.foldr (fun p n => p.keep + p.drop + n) 0
def editP : List UInt8 → List PieceT → List UInt8
  | t, [] => t
  | t, p :: l => t.take p.keep.toNat ++ p.put ++ editP (t.drop (p.keep + p.drop).toNat) l
/-- What Apply answers. -/
def applyE (t : List UInt8) (l : List PieceT) : List UInt8 × Int :=
  bif !rightP l then ([], 2) else bif decide ((t.length : Int) < extentP l) then ([], 50) else (editP t l, 0)
def strE (r : List UInt8 × Int) : V := .tup [.str r.1, .int .i64 r.2]
theorem extentP_cons (p : PieceT) (l : List PieceT) : extentP (p :: l) = p.keep + p.drop + extentP l := rfl
structure PieceT.Ok (p : PieceT) : Prop where
  k0 : 0 ≤ p.keep
  k1 : p.keep ≤ 1048576
  d0 : 0 ≤ p.drop
  d1 : p.drop ≤ 1048576
theorem rightGo_ok : ∀ {l : List PieceT} {n : Nat}, rightGo n l = true → (∀ p ∈ l, p.Ok) ∧ (l = [] ∨ n + putsLen l ≤ 1048576)
  | [], n, _ => ⟨(fun p h => by cases h), .inl rfl⟩
  | p :: l, n, h => by
    rw [rightGo] at h
    simp only [Bool.and_eq_true, decide_eq_true_eq] at h
    obtain ⟨⟨⟨⟨⟨h1, h2⟩, h3⟩, h4⟩, h5⟩, h6⟩ := h
    obtain ⟨k1, k2⟩ := rightGo_ok h6
    refine ⟨fun q hq => ?_, .inr ?_⟩
    · rcases List.mem_cons.1 hq with rfl | hq
      · exact ⟨h1, h2, h3, h4⟩
      · exact k1 q hq
    · have e : putsLen (p :: l) = p.put.length + putsLen l := rfl
      rw [e]
      rcases k2 with rfl | k2
      · have : putsLen [] = 0 := rfl
        omega
      · omega
theorem rightP_ok {l : List PieceT} (h : rightP l = true) : l.length ≤ 4096 ∧ (∀ p ∈ l, p.Ok) ∧ putsLen l ≤ 1048576 := by
  unfold rightP at h
  simp only [Bool.and_eq_true, decide_eq_true_eq] at h
  obtain ⟨h1, h2⟩ := h
  obtain ⟨k1, k2⟩ := rightGo_ok h2
  refine ⟨h1, k1, ?_⟩
  rcases k2 with rfl | k2
  · exact Nat.zero_le _
  · omega
theorem extentP_nonneg : ∀ {l : List PieceT}, (∀ p ∈ l, p.Ok) → 0 ≤ extentP l
  | [], _ => Int.le_refl _
  | p :: l, h => by
    have := extentP_nonneg (l := l) fun q hq => h q (List.mem_cons_of_mem _ hq)
    have hp := h p List.mem_cons_self
    have := hp.k0
    have := hp.d0
    rw [extentP_cons]
    omega
theorem extentP_le : ∀ {l : List PieceT}, (∀ p ∈ l, p.Ok) → extentP l ≤ l.length * 2097152
  | [], _ => by simp [extentP]
  | p :: l, h => by
    have := extentP_le (l := l) fun q hq => h q (List.mem_cons_of_mem _ hq)
    have hp := h p List.mem_cons_self
    have := hp.k1
    have := hp.d1
    rw [extentP_cons, List.length_cons]
    omega
theorem editP_len : ∀ {l : List PieceT} {t : List UInt8}, (∀ p ∈ l, p.Ok) → extentP l ≤ t.length → (editP t l).length ≤ t.length + putsLen l
  | [], t, _, _ => by simp [editP, putsLen]
  | p :: l, t, h, he => by
    rw [extentP_cons] at he
    have hp := h p List.mem_cons_self
    have hl := fun q hq => h q (List.mem_cons_of_mem p hq)
    have := extentP_nonneg hl
    have ih := editP_len (l := l) (t := t.drop (p.keep + p.drop).toNat) hl (by have := hp.k0; have := hp.d0; simp; omega)
    have e : putsLen (p :: l) = p.put.length + putsLen l := rfl
    rw [editP, e]
    simp at ih ⊢
    have := hp.k0
    have := hp.d0
    omega
end Bow
/- W23: edits of a text, in the document's words. -/
namespace Bow
open Go Go.Proofs

set_option maxRecDepth 100000 in
theorem w_extent (l : List PieceT) (hl : l.length ≤ 4096) (hok : ∀ p ∈ l, p.Ok) : Pure Tryz.prog 85 [piecesV l] (fun x => x = .int .i64 (extentP l)) := by
  refine pure_fn 100 Tryz.func85 rfl rfl rfl fun B => ?_
  show Goes _ _ _ _
  refine goes_iter (ι := Nat × Int) (fun i => i.1 ≤ l.length ∧ 0 ≤ i.2 ∧ i.2 + extentP (l.drop i.1) = extentP l) (fun i => l.length - i.1) (fun i => [(8, .int .i64 i.1), (7, .int .i64 (l.map pieceV).length), (6, piecesV l), (3, .int .i64 i.2)]) (fun _ => []) (0, 0) 100 (fun _ => rfl) (fun _ => rfl) ⟨⟨Nat.zero_le _, Int.le_refl _, by simp⟩, ⟨⟨rfl, rfl⟩, ⟨rfl, rfl⟩, ⟨rfl, rfl⟩, ⟨rfl, rfl⟩, trivial⟩, trivial⟩ ?_
  rintro ⟨i, n⟩ ⟨k1, k2, k3⟩ next
  simp only at k1 k2 k3
  have hle := extentP_le hok
  refine ⟨fun hlt => go 100 ?_, fun hge => go 100 ?_⟩
  · have hi : i < l.length := by simpa using hlt
    have hx : (l.map pieceV)[i]? = some (pieceV l[i]) := by simp [hi]
    have hp := hok l[i] (List.getElem_mem hi)
    have := hp.k0
    have := hp.d0
    have hn := extentP_nonneg (l := l.drop (i + 1)) fun q hq => hok q (List.mem_of_mem_drop hq)
    rw [drop_cons hi, extentP_cons] at k3
    refine ⟨Int.natCast_nonneg i, _, hx, ⟨by omega, by omega⟩, ⟨by omega, by omega⟩, ⟨by omega, by omega⟩, ?_⟩
    exact next (i + 1, n + (l[i].keep + l[i].drop)) _ _ ⟨⟨hi, by simp only; omega, by simp only; omega⟩, by simp only; omega, ⟨⟨rfl, rfl⟩, ⟨rfl, rfl⟩, ⟨rfl, rfl⟩, ⟨rfl, rfl⟩, trivial⟩, trivial⟩
  · have hi : l.length ≤ i := by simpa using hge
    rw [List.drop_eq_nil_of_le hi] at k3
    exact ⟨trivial, rfl, rfl, rfl, by rw [← k3]; simp [extentP]; rfl⟩

set_option maxRecDepth 100000 in
theorem w_refExtent (l : List PieceT) (hl : l.length ≤ 4096) (hok : ∀ p ∈ l, p.Ok) : Pure Tryz.prog 82 [piecesV l] (fun x => x = .int .i64 (extentP l)) := by
  refine pure_fn 100 Tryz.func82 rfl rfl rfl fun B => ?_
  show Goes _ _ _ _
  refine goes_iter (ι := Nat × Int) (fun i => i.1 ≤ l.length ∧ 0 ≤ i.2 ∧ i.2 + extentP (l.drop i.1) = extentP l) (fun i => l.length - i.1) (fun i => [(4, .int .i64 i.1), (0, piecesV l), (3, .int .i64 i.2)]) (fun _ => []) (0, 0) 100 (fun _ => rfl) (fun _ => rfl) ⟨⟨Nat.zero_le _, Int.le_refl _, by simp⟩, ⟨⟨rfl, rfl⟩, ⟨rfl, rfl⟩, ⟨rfl, rfl⟩, trivial⟩, trivial⟩ ?_
  rintro ⟨i, n⟩ ⟨k1, k2, k3⟩ next
  simp only at k1 k2 k3
  have hle := extentP_le hok
  refine ⟨fun hlt => go 100 ?_, fun hge => go 100 ?_⟩
  · have hi : i < l.length := by simpa using hlt
    have hx : (l.map pieceV)[i]? = some (pieceV l[i]) := by simp [hi]
    have hp := hok l[i] (List.getElem_mem hi)
    have := hp.k0
    have := hp.d0
    have hn := extentP_nonneg (l := l.drop (i + 1)) fun q hq => hok q (List.mem_of_mem_drop hq)
    rw [drop_cons hi, extentP_cons] at k3
    show Goes _ _ _ _
    refine goes_draw 100 ⟨Int.natCast_nonneg i, _, hx, ⟨by omega, by omega⟩, Int.natCast_nonneg i, _, hx, ⟨by omega, by omega⟩, ?_⟩
    refine ⟨by kernel_rfl, ?_⟩
    refine ⟨⟨by omega, by omega⟩, ?_⟩
    exact next (i + 1, n + l[i].keep + l[i].drop) _ _ ⟨⟨hi, by simp only; omega, by simp only; omega⟩, by simp only; omega, ⟨⟨rfl, rfl⟩, ⟨rfl, rfl⟩, ⟨rfl, rfl⟩, trivial⟩, trivial⟩
  · have hi : l.length ≤ i := by simpa using hge
    rw [List.drop_eq_nil_of_le hi] at k3
    exact ⟨trivial, rfl, rfl, rfl, by rw [← k3]; simp [extentP]; rfl⟩

set_option maxRecDepth 100000 in
theorem w_refEdit (t : List UInt8) (l : List PieceT) (ht : t.length ≤ 1000000000) (hl : l.length ≤ 1000000) (hpl : ∀ p ∈ l, p.put.length ≤ 1000000000) :
    Pure Tryz.prog 54 [.str t, piecesV l] (fun x => x = strE (applyE t l)) := by
  refine pure_fn 100 Tryz.func54 rfl rfl rfl fun B => ?_
  show CallThen _ _ _ _ _ _
  refine call_pure (w_refRight l hl hpl) rfl ?_
  rintro x rfl
  refine ⟨fun g1 => go 100 ?_, fun g1 => go 100 ?_⟩
  · exact ⟨trivial, rfl, rfl, rfl, by unfold applyE; rw [g1]; rfl⟩
  have hr : rightP l = true := by simpa using g1
  obtain ⟨r1, r2, r3⟩ := rightP_ok hr
  show CallThen _ _ _ _ _ _
  refine call_pure (w_refExtent l r1 r2) rfl ?_
  rintro x rfl
  refine ⟨fun g2 => go 100 ?_, fun g2 => go 100 ?_⟩
  · exact ⟨trivial, rfl, rfl, rfl, by unfold applyE; rw [g1, g2]; rfl⟩
  have g2' := not_lt_of g2
  have hfin : applyE t l = (editP t l, 0) := by unfold applyE; rw [g1, g2]; rfl
  show Goes _ _ _ _
  refine goes_iter (ι := Nat × List UInt8 × List UInt8) (fun i => i.1 ≤ l.length ∧ extentP (l.drop i.1) ≤ i.2.2.length ∧ i.2.1.length + i.2.2.length + putsLen (l.drop i.1) ≤ t.length + putsLen l ∧ i.2.1 ++ editP i.2.2 (l.drop i.1) = editP t l) (fun i => l.length - i.1)
    (fun i => [(7, .int .i64 i.1), (6, .str i.2.1), (0, .str i.2.2), (1, piecesV l)]) (fun _ => []) (0, [], t) 100 (fun _ => rfl) (fun _ => rfl) ⟨⟨Nat.zero_le _, g2', by simp, rfl⟩, ⟨⟨rfl, rfl⟩, ⟨rfl, rfl⟩, ⟨rfl, rfl⟩, ⟨rfl, rfl⟩, trivial⟩, trivial⟩ ?_
  rintro ⟨i, o, u⟩ ⟨k1, k2, k3, k4⟩ next
  simp only at k1 k2 k3 k4
  refine ⟨fun hlt => go 100 ?_, fun hge => go 100 ?_⟩
  · have hi : i < l.length := by simpa using hlt
    have hx : (l.map pieceV)[i]? = some (pieceV l[i]) := by simp [hi]
    have hp := r2 l[i] (List.getElem_mem hi)
    have p1 := hp.k0
    have p2 := hp.d0
    have p3 := hp.k1
    have p4 := hp.d1
    have hn := extentP_nonneg (l := l.drop (i + 1)) fun q hq => r2 q (List.mem_of_mem_drop hq)
    have e : putsLen (l[i] :: l.drop (i + 1)) = l[i].put.length + putsLen (l.drop (i + 1)) := rfl
    rw [drop_cons hi, extentP_cons] at k2
    rw [drop_cons hi, e] at k3
    rw [drop_cons hi, editP] at k4
    have hlen1 : ((u.drop (Int.toNat 0)).take (l[i].keep.toNat - Int.toNat 0)).length = l[i].keep.toNat := by simp; omega
    show Goes _ _ _ _
    refine goes_draw 100 ⟨Int.natCast_nonneg i, _, hx, by decide, p1, by simp only; omega, ?_, Int.natCast_nonneg i, _, hx, ?_, ?_⟩
    · simp only; rw [List.length_append, hlen1]; omega
    · simp only; rw [List.length_append, List.length_append, hlen1]; omega
    refine ⟨by kernel_rfl, ?_⟩
    show Goes _ _ _ _
    refine goes_draw 100 ⟨Int.natCast_nonneg i, _, hx, Int.natCast_nonneg i, _, hx, ⟨by omega, by omega⟩, by omega, by simp only; omega, Int.le_refl _, ?_⟩
    refine ⟨by kernel_rfl, ?_⟩
    refine ⟨⟨by omega, by omega⟩, ?_⟩
    have hlen2 : ((u.drop (l[i].keep + l[i].drop).toNat).take ((u.length : Int).toNat - (l[i].keep + l[i].drop).toNat)) = u.drop (l[i].keep + l[i].drop).toNat := List.take_of_length_le (by simp)
    refine next (i + 1, o ++ (u.drop (Int.toNat 0)).take (l[i].keep.toNat - Int.toNat 0) ++ l[i].put, (u.drop (l[i].keep + l[i].drop).toNat).take ((u.length : Int).toNat - (l[i].keep + l[i].drop).toNat)) _ _ ⟨⟨hi, ?_, ?_, ?_⟩, by simp only; omega, ⟨⟨rfl, rfl⟩, ⟨rfl, rfl⟩, ⟨rfl, rfl⟩, ⟨rfl, rfl⟩, trivial⟩, trivial⟩
    · simp only
      rw [hlen2, List.length_drop]
      omega
    · simp only
      rw [hlen2, List.length_drop, List.length_append, List.length_append, hlen1]
      omega
    · simp only
      rw [hlen2, ← k4]
      simp
  · have hi : l.length ≤ i := by simpa using hge
    rw [List.drop_eq_nil_of_le hi, editP] at k4
    rw [List.drop_eq_nil_of_le hi] at k3
    have e : putsLen [] = 0 := rfl
    rw [e] at k3
    refine ⟨by simp only; rw [List.length_append]; omega, ?_⟩
    exact ⟨trivial, rfl, rfl, rfl, by rw [hfin, ← k4]; rfl⟩
end Bow
/- AE39: a box whose cells are to say less. -/
namespace Bow
open Go

theorem goes_wkbox {c : Cx} {todo : List Item} {E : Env} {T : Heap} (k : Nat) {cs : List V} (cs' : List V) (hk : lget T k = some (some (.box cs))) (hp : V.pureL cs = true) (hp' : V.pureL cs' = true) (hw : WkL cs cs')
    (h : lset T k (some (.box cs')) fun T' => Goes c todo E T') : Goes c todo E T := by
  rw [lset_eq] at h
  rw [lget_eq] at hk
  refine goes_step fun w β H m a b cs0 hs _ _ _ => ?_
  obtain ⟨r, hr, hH⟩ := hs.at hk
  simp only [HObj.conv] at hH
  have hob := hs.hrel.obj r _ hH
  have hc : V.convL m cs = cs := pureL_conv m _ hp
  have hc' : V.convL m cs' = cs' := pureL_conv m _ hp'
  have hfr : Fr w β H w β (H.set r (some ((HObj.box cs').conv m))) := Fr.swap hH trivial
  have hrel : HRel w β (H.set r (some ((HObj.box cs').conv m))) := by
    refine hs.hrel.swap hH trivial ?_
    simp only [HObj.conv]
    cases hβ : β r with
    | none => trivial
    | nil => rw [hβ] at hob; exact hob
    | blk bb N =>
      rw [hβ] at hob
      obtain ⟨vs, e, q1, q2, q3, q4⟩ := hob
      rw [hc] at q3 q4
      refine ⟨vs, e, q1, q2, by rw [hc', hw.len]; exact q3, fun i x v hi hv => ?_⟩
      rw [hc'] at hi
      obtain ⟨x0, h1, h2⟩ := hw.get i x hi
      exact (h2 w β H v (q4 i x0 v h1 hv)).mono (by rw [← HObj.conv]; exact hfr)
  have hset := hs.setAt (o' := some (.box cs')) (w' := w) hr (fun o1 e1 => by
      injection e1 with e1
      subst e1
      have h1 := hc'
      exact (V.scL_iff _ _).2 fun v hv => pureSc _ v (pureL_mem _ hp' v hv))
    (fun hm => absurd hm (hs.notD hk (by simp))) hfr hrel
  exact ⟨w, β, _, m, a, todo, ⟨E, _, c.B, c.D⟩, .refl _ _, hset, hfr, h⟩
end Bow
/- AE40: a function's contract out of a walk by the kit's own tactics: all that it wrote lies in new memory. -/
namespace Bow
open Go

theorem pure_of_calls {P : Program} {f : FuncId} {args : List V} {Q : V → Prop} (he : Enterable P f) (hp : V.pureL args = true)
    (h : ∀ (w : World) (β : Nat → Loc) (H : Heap) (vals : Array Value), args.length = vals.size → (∀ (j : Nat) (x : V) (v : Value), args[j]? = some x → vals[j]? = some v → Rep w β H x v) →
      Calls P f vals w fun e w' => RowKit.Below w.heap.size w w' ∧ ∃ (x : V) (v : Value), e = .returned v ∧ Q x ∧ x.pureB = true ∧ Rep w' β H x v) : Pure P f args Q := by
  unfold Pure Fun
  refine ⟨he, fun w β H m B vals cs hs hl hr => ?_⟩
  obtain ⟨e, w', fr, ⟨hb, x, v, rfl, hq, hx, hv⟩, k1, k2, k3⟩ := h w β H vals hl (fun j x v hj hv => by
    have := hr j x v hj hv
    rwa [pure_conv _ _ (pureL_mem _ hp x (List.mem_of_getElem? hj))] at this) cs
  refine ⟨x, [], v, w', β, H, m, fr, ⟨rfl, hx, hq⟩, hs.same (Fr.of_below hb) (hs.hrel.of_below hb), Fr.of_below hb, ?_, k1, k2, k3⟩
  rwa [pure_conv _ _ hx]

def flatL : List V → Bool
  | [] => true
  | v :: vs => flatB v && flatL vs
theorem flatL_get : ∀ {vs : List V}, flatL vs = true → ∀ v ∈ vs, flatB v = true
  | [], _, v, h => by cases h
  | x :: vs, hg, v, h => by
    simp only [flatL, Bool.and_eq_true] at hg
    rcases List.mem_cons.1 h with rfl | h
    · exact hg.1
    · exact flatL_get hg.2 v h

section
variable {P : Program} {w w' : World} {β β' : Nat → Loc} {H H' : Heap}
theorem Rep.flat_sl {sz : Nat} {xs : List V} {v : Value} (hx : ∀ x ∈ xs, flatL x.cells = true) (h : Rep w β H (.sl sz xs) v) : Rep w β0 [] (.sl sz xs) v := by
  cases h with
  | sl _ _ a cap vals hcap hmax hsz ha hr =>
    refine .sl sz xs a cap vals hcap hmax hsz (fun hne => ?_) (fun i x j c hi hj => ?_)
    · obtain ⟨ad, h1, _, h3⟩ := ha hne
      exact ⟨ad, h1, notOwn0 _, h3⟩
    · exact (hr i x j c hi hj).flat (flatL_get (hx x (List.mem_of_getElem? hi)) c (List.mem_of_getElem? hj))
/-- What a slice's cells hold. -/
theorem sl_cells {sz : Nat} {xs : List V} {v : Value} (h : Rep w β H (.sl sz xs) v) : ∃ (a : Option Addr) (cap : Nat), v = .slice a xs.length cap ∧ xs.length ≤ cap ∧ cap ≤ maxLen ∧
    (xs ≠ [] → ∃ ad, a = some ad ∧ ad.block < w.heap.size ∧ ∀ (i : Nat) (x : V) (j : Nat) (c : V), xs[i]? = some x → x.cells[j]? = some c → ∃ u, w.cell? (ad.add (i * sz + j)) = some u ∧ Rep w β H c u) := by
  cases h with
  | sl _ _ a cap vals hcap hmax hsz ha hr =>
    refine ⟨a, cap, rfl, hcap, hmax, fun hne => ?_⟩
    obtain ⟨ad, h1, _, h3, h4⟩ := ha hne
    refine ⟨ad, h1, h3, fun i x j c hi hj => ⟨_, h4 _ ?_, hr i x j c hi hj⟩⟩
    have h5 : i < xs.length := lt_of_get hi
    have h6 : j < sz := by rw [← (hsz x (List.mem_of_getElem? hi)).1]; exact lt_of_get hj
    have : (i + 1) * sz ≤ xs.length * sz := Nat.mul_le_mul_right sz h5
    rw [Nat.succ_mul] at this
    omega

theorem calls_of_pureQ {f : FuncId} {args : List V} {vals : Array Value} {Q : V → Prop} {c : Value} (h : Pure P f args Q) (hc : ∀ (x : V) (v : Value) (w' : World) (β' : Nat → Loc) (H' : Heap), Q x → Rep w' β' H' x v → v = c) (hp : V.pureL args = true) (hl : args.length = vals.size)
    (hr : ∀ (j : Nat) (x : V) (v : Value), args[j]? = some x → vals[j]? = some v → Rep w β H x v) : Calls P f vals w fun e w' => e = .returned c ∧ RowKit.Below w.heap.size w w' := by
  intro cs
  obtain ⟨x, v, w', β', H', fr, hq, _, k3, hb, k4, k5, k6⟩ := pure_still h hp cs hl hr
  have hv := hc x v _ _ _ hq k3
  subst hv
  exact ⟨.returned v, w', fr, ⟨rfl, hb⟩, k4, k5, k6⟩

/-- A call that is handed own slices, and hands back a number, a truth value or a text: they stay own. -/
theorem call_flat {c : Cx} {g : FuncId} {args : List V} {E : Env} {T : Heap} {K : V → St → Prop} (h : frzAll args T False fun args' _ => ∃ x, Pure c.P g args' (fun y => y = x) ∧ V.pureL args' = true ∧ flatB x = true ∧ K x ⟨E, T, c.B, c.D⟩) : CallThen c g args E T K := by
  rcases frzAll_sound (F := False) _ _ _ h with h | ⟨args', T', ⟨x, hf, ha, hx, hk⟩, hz⟩
  · exact h.elim
  have hen : Enterable c.P g := by
    unfold Pure Fun at hf
    exact hf.1
  unfold CallThen
  refine ⟨hen, fun w β H m a vals cs hs hl hr => ?_⟩
  obtain ⟨H1, q1, q2, q3⟩ := hz.2 _ _ _ _ _ _ _ _ _ _ hs
  obtain ⟨y, v, w', β', H', fr, rfl, hp, g3, hb, g4, g5, g6⟩ := pure_still hf ha cs (by rw [hz.1]; exact hl) (fun j x v hj hv => by
    have hjl : j < args.length := by have := lt_of_get hj; rw [hz.1] at this; exact this
    have e := List.getElem?_eq_getElem hjl
    exact q3 j _ x v e hj (hr j _ v e hv))
  have g2' : Fr w β H w' β H := Fr.of_below hb
  exact ⟨y, _, v, w', β, H, m, fr, hk, hs.same g2' (hs.hrel.of_below hb), g2', by rw [pure_conv _ _ hp]; exact g3.flat hx, g4, g5, g6, List.prefix_refl _⟩
end
end Bow
/- WB1: strings.Builder's methods at this program: by the kit's own tactics. -/
namespace Bow
open Go Go.Proofs Go.RowKit Go.Shelf

def bPtr (b : Nat) : Value := .pointer (some ⟨b, 0, none⟩)
theorem b_size : ((Tryz.prog).info? 99).map (·.size) = some 2 := by kernel_rfl
theorem b_lies : liesAt Tryz.prog Tryz.prog.depth 99 (2 / (Tryz.prog).cellsOf 99) 0 99 1 = true := by kernel_rfl
theorem b_byte : ((Tryz.prog).info? 5).map (fun i => (i.zero, i.size, i.bytes)) = some (some (.int .u8 0), 1, 1) := by kernel_rfl

set_option maxHeartbeats 1000000 in
set_option maxRecDepth 100000 in
theorem b_copyCheck_used (b : Nat) (w : World) (h0 : w.cell? ⟨b, 0, none⟩ = some (.pointer (some ⟨b, 0, none⟩))) :
    Calls Tryz.prog 100 #[.pointer (some ⟨b, 0, none⟩)] w fun e w' => e = .returned (.tuple #[]) ∧ w' = w := by
  obtain ⟨j, hj, _⟩ := Option.map_eq_some_iff.1 b_size
  go_enter Tryz.func100, Tryz.ntmps100
  go_wp2
  rw [Lib.run_neq_ptr_same w _ Tryz.underlying97 hj]
  go_wp2
  go_end0
  exact ⟨rfl, rfl⟩

set_option maxHeartbeats 1000000 in
set_option maxRecDepth 100000 in
theorem b_copyCheck_fresh (b : Nat) (w : World) (h0 : w.cell? ⟨b, 0, none⟩ = some (.pointer none)) (hsh : w.shape? b = some (99, 2)) (hfz : w.frozen? ⟨b, 0, none⟩ = false) :
    Calls Tryz.prog 100 #[.pointer (some ⟨b, 0, none⟩)] w fun e w' => e = .returned (.tuple #[]) ∧ w' = w.setCell ⟨b, 0, none⟩ (.pointer (some ⟨b, 0, none⟩)) := by
  obtain ⟨j, hj, hjs⟩ := Option.map_eq_some_iff.1 b_size
  go_enter Tryz.func100, Tryz.ntmps100
  go_wp2
  rw [Lib.run_to_unsafe w ⟨b, 0, none⟩ Tryz.underlying97 Tryz.underlying121 hj (by rw [hjs]; decide) hsh (Nat.zero_lt_succ 1)]
  simp only [Result.andThen]
  rw [Oper.upon_value]
  go_wp2
  rw [run_callFunc_extern Tryz.func104 (by kernel_rfl) (by kernel_rfl) (by kernel_rfl) (e := Extern.AbiNoEscape.same) (by kernel_rfl)]
  rw [Lib.run_noEscape]
  simp only [Result.andThen]
  rw [Oper.upon_value]
  go_wp2
  rw [Lib.run_from_unsafe w ⟨b, 0, none⟩ Tryz.underlying121 Tryz.underlying97 hj hsh b_lies]
  simp only [Result.andThen]
  rw [Oper.upon_value]
  go_wp2
  go_end0
  exact ⟨rfl, rfl⟩

theorem b_copyCheck (B b : Nat) (bs : List Value) (w : World) (h : Lib.IsBuilderF 99 5 B b bs w) :
    Calls Tryz.prog 100 #[.pointer (some ⟨b, 0, none⟩)] w fun e w' => e = .returned (.tuple #[]) ∧ (Lib.BuilderAtF 99 5 B b (.pointer (some ⟨b, 0, none⟩)) bs w' ∧ Below B w w' ∧ Lib.OthersKept 5 (some b) w w') := by
  rcases h with h | h
  · refine (b_copyCheck_fresh b w h.cell0 h.shape h.frozen0).mono ?_
    rintro e w' ⟨rfl, rfl⟩
    exact ⟨rfl, h.used _, (Below.refl B w).setCell (p := ⟨b, 0, none⟩) h.1 _, (Lib.OthersKept.refl _ _ w).setCell ⟨b, 0, none⟩ rfl _⟩
  · refine (b_copyCheck_used b w h.cell0).mono ?_
    rintro e w' ⟨rfl, rfl⟩
    exact ⟨rfl, h, Below.refl B _, Lib.OthersKept.refl _ _ _⟩

set_option maxHeartbeats 2000000 in
set_option maxRecDepth 100000 in
theorem b_WriteString (B b : Nat) (bs : List Value) (s : ByteArray) (w : World) (h : Lib.IsBuilderF 99 5 B b bs w) (hlen : bs.length + s.size ≤ 140737488355328) (hBw : B ≤ w.heap.size) :
    Calls Tryz.prog 86 #[.pointer (some ⟨b, 0, none⟩), .string s] w fun e w' => e = .returned (.tuple #[.int .i64 s.size, .nilIface]) ∧ (Lib.BuilderAtF 99 5 B b (.pointer (some ⟨b, 0, none⟩)) (bs ++ Lib.strCells s) w' ∧ Below B w w' ∧ Lib.OthersKept 5 (some b) w w') := by
  obtain ⟨i0, hi, hz0, hz1, hz2⟩ := info_parts b_byte
  go_enter Tryz.func86, Tryz.ntmps86
  go_wp2_with (go_at_call 100; refine (b_copyCheck B b bs _ h).mono ?_)
  rintro e w1 ⟨rfl, h1, hb1, hk1⟩
  obtain ⟨hB, v, hbk, hown, hne⟩ := h1
  have c0 : w1.cell? ⟨b, 0, none⟩ = some (.pointer (some ⟨b, 0, none⟩)) := by rw [Lib.cell_of_heap hbk]; rfl
  have c1 : w1.cell? ⟨b, 1, none⟩ = some v := by rw [Lib.cell_of_heap hbk]; rfl
  go_wp2_with (at_builtin; refine Lib.wpList_append_own_stringF _ rfl _ _ 31 9 rfl B 5 i0 Tryz.underlying31 Tryz.underlying9 hi hz0 hz1 hz2 _ _ _ rfl hown s rfl ?c3 ?c4 ?c5 ?_)
  case c3 => unfold maxLen; omega
  case c4 => omega
  case c5 => have := hb1.size; omega
  intro v' w2 hown' hgrow _
  have hlt : b < w1.heap.size := by
    rcases Nat.lt_or_ge b w1.heap.size with h' | h'
    · exact h'
    · simp [Array.getElem?_eq_none h'] at hbk
  have hb2 : w2.heap[b]? = some (.cells #[.pointer (some ⟨b, 0, none⟩), v] 99 (0, 0)) := by
    rw [hgrow.block b hlt (fun e => hne e.symm)]
    exact hbk
  have d0 : w2.cell? ⟨b, 0, none⟩ = some (.pointer (some ⟨b, 0, none⟩)) := by rw [Lib.cell_of_heap hb2]; rfl
  have d1 : w2.cell? ⟨b, 1, none⟩ = some v := by rw [Lib.cell_of_heap hb2]; rfl
  have f1 : w2.frozen? ⟨b, 1, none⟩ = false := Lib.frozen_of_heap hb2 1
  obtain ⟨ao, n', cap, rfl⟩ : ∃ ao n' cap, v' = .slice ao n' cap := by
    rcases hown'.2 with ⟨hv, _⟩ | ⟨g, cap, cur, fz, hv, _⟩
    · exact ⟨_, _, _, hv⟩
    · exact ⟨_, _, _, hv⟩
  go_wp2
  go_ret2
  refine ⟨rfl, ?_, ?_, (hk1.grown hgrow (Lib.ownsRowF_kind hown)).setCell ⟨b, 1, none⟩ rfl _⟩
  · exact Lib.BuilderAtF.put (T := 99) (e := 5) hB hb2 (bs' := bs ++ Lib.strCells s) (by simpa [Lib.strCells_length] using hown') (by decide)
  · exact (hb1.grown hgrow (by have := hb1.size; omega) (fun k hk => (hown.lt k hk).1)).setCell (p := ⟨b, 1, none⟩) hB _

def bRen : Ren where
  f := fun | 169 => 87 | n => n
  t := fun | 0 => 0 | 3 => 3 | 9 => 9 | 37 => 31 | 70 => 97 | 72 => 99 | 127 => 115 | 5 => 5 | n => n
  g := fun n => n
theorem bLays : Lays.n169 Tryz.prog bRen := {
  mixed := by kernel_rfl
  f169 := Tryz.func87.trans (congrArg some (by kernel_rfl))
  t0 := Tryz.underlying0
  a0 := Tryz.isAgg0
  z0 := Tryz.sizeOf0
  v0 := Tryz.zeroValue0
  t3 := Tryz.underlying3
  a3 := Tryz.isAgg3
  z3 := Tryz.sizeOf3
  v3 := Tryz.zeroValue3
  t9 := Tryz.underlying9
  a9 := Tryz.isAgg9
  z9 := Tryz.sizeOf9
  v9 := Tryz.zeroValue9
  t37 := Tryz.underlying31
  a37 := Tryz.isAgg31
  z37 := Tryz.sizeOf31
  v37 := Tryz.zeroValue31
  t70 := Tryz.underlying97
  a70 := Tryz.isAgg97
  z70 := Tryz.sizeOf97
  v70 := Tryz.zeroValue97
  t72 := Tryz.underlying99
  a72 := Tryz.isAgg99
  z72 := Tryz.sizeOf99
  v72 := Tryz.zeroValue99
  t127 := Tryz.underlying115
  a127 := Tryz.isAgg115
  z127 := Tryz.sizeOf115
  v127 := Tryz.zeroValue115
}
theorem bExtra : Builder.Extra Tryz.prog bRen := {
  sizeBuilder := by kernel_rfl
  liesBuilder := by kernel_rfl
  t5 := Tryz.underlying5
  a5 := Tryz.isAgg5
  z5 := Tryz.sizeOf5
  v5 := Tryz.zeroValue5
  infoByte := by kernel_rfl
  cellsByte := by kernel_rfl
  sizeByte := by kernel_rfl
  neB5 := by decide
}
theorem b_String (B b : Nat) (l : List UInt8) (w : World) (h : Lib.IsBuilderF 99 5 B b (Lib.byteCells l) w) (hBw : B ≤ w.heap.size) :
    Calls Tryz.prog 87 #[.pointer (some ⟨b, 0, none⟩)] w fun e w' => e = .returned (.string ⟨l.toArray⟩) ∧ (Lib.IsBuilderF 99 5 B b (Lib.byteCells l) w' ∧ Below B w w' ∧ Lib.OthersKept 5 (some b) w w') :=
  Any.Builder_String_any_k bLays bExtra B b l w h hBw
end Bow
/- W24: leaftext.Apply, by the kit's own tactics. -/
namespace Bow
open Go Go.Proofs Go.RowKit

theorem pieces_flat (l : List PieceT) : ∀ x ∈ l.map pieceV, flatL x.cells = true := by
  intro x hx
  obtain ⟨p, _, rfl⟩ := List.mem_map.1 hx
  rfl

theorem c_right (l : List PieceT) (hl : l.length ≤ 1000000) (hpl : ∀ p ∈ l, p.put.length ≤ 1000000000) (v : Value) (w : World) (h : Rep w β0 [] (piecesV l) v) :
    Calls Tryz.prog 40 #[v] w fun e w' => e = .returned (.bool (rightP l)) ∧ Below w.heap.size w w' := by
  refine calls_of_pureQ (β := β0) (H := []) (w_Right l hl hpl) (fun x u w' β' H' hx hu => ?_) rfl rfl ?_
  · subst hx
    exact rep_bool (m := []) hu
  · intro j x u hj hu
    cases j with
    | zero => simp at hj hu; subst hj hu; exact h
    | succ j => simp at hj
theorem c_extent (l : List PieceT) (hl : l.length ≤ 4096) (hok : ∀ p ∈ l, p.Ok) (v : Value) (w : World) (h : Rep w β0 [] (piecesV l) v) :
    Calls Tryz.prog 85 #[v] w fun e w' => e = .returned (.int .i64 (extentP l)) ∧ Below w.heap.size w w' := by
  refine calls_of_pureQ (β := β0) (H := []) (w_extent l hl hok) (fun x u w' β' H' hx hu => ?_) rfl rfl ?_
  · subst hx
    exact rep_int (m := []) hu
  · intro j x u hj hu
    cases j with
    | zero => simp at hj hu; subst hj hu; exact h
    | succ j => simp at hj

theorem rep_below {w w' : World} {x : V} {v : Value} (h : Rep w β0 [] x v) (hb : Below w.heap.size w w') : Rep w' β0 [] x v := h.mono (Fr.of_below hb)

theorem ba_of (x : ByteArray) (y : List UInt8) (h : x.data.toList = y) : x = ⟨y.toArray⟩ := by
  obtain ⟨⟨l⟩⟩ := x
  subst h
  rfl
theorem hidU {p : Prop} (h : p) : Hid p := h

set_option maxHeartbeats 4000000 in
set_option maxRecDepth 1000000 in
theorem edit_walk (S : ByteArray) (l : List PieceT) (ht : S.size ≤ 1000000000) (hl : l.length ≤ 1000000) (hpl : ∀ p ∈ l, p.put.length ≤ 1000000000) (ao : Option Addr) (cap : Nat) (w : World) (hrep : Rep w β0 [] (piecesV l) (.slice ao l.length cap)) :
    Calls Tryz.prog 68 #[.string S, .slice ao l.length cap] w fun e w' => e = .returned (.tuple #[.string ⟨(applyE S.data.toList l).1.toArray⟩, .int .i64 (applyE S.data.toList l).2]) ∧ Below w.heap.size w w' := by
  go_enter Tryz.func68, Tryz.ntmps68
  have cR := c_right l hl hpl _ w hrep
  go_wp2_with (go_at_call 40; refine cR.mono ?_)
  rintro e w1 ⟨rfl, hb1⟩
  clear cR
  cases hr : rightP l with
  | false =>
    go_wp2
    go_ret2
    refine ⟨?_, hb1⟩
    unfold applyE
    rw [hr]
    rfl
  | true =>
    obtain ⟨r1, r2, r3⟩ := rightP_ok hr
    have cE := c_extent l r1 r2 _ w1 (rep_below hrep hb1)
    go_wp2_with (go_at_call 85; refine cE.mono ?_)
    rintro e w2 ⟨rfl, hb2⟩
    clear cE
    have hb12 : Below w.heap.size w w2 := hb1.trans (hb2.mono hb1.size)
    by_cases hx : (S.size : Int) < extentP l
    · go_wp2
      go_ret2
      refine ⟨?_, hb12⟩
      unfold applyE
      rw [hr, decide_eq_true (by simpa using hx)]
      rfl
    · go_wp2
      go_loopw [0, 21] (fun text i wr => ∃ (k : Nat) (T acc : List UInt8), k ≤ l.length ∧ text = .string ⟨T.toArray⟩ ∧ i = .int .i64 k ∧ Lib.IsBuilderF 99 5 w2.heap.size w2.heap.size (Lib.byteCells acc) wr ∧ Below w2.heap.size w2 wr ∧ acc ++ editP T (l.drop k) = editP S.data.toList l ∧ extentP (l.drop k) ≤ T.length ∧ acc.length + T.length + putsLen (l.drop k) ≤ S.data.toList.length + putsLen l) (fun _ i _ => l.length - (intOf i).toNat)
      case atStart =>
        refine ⟨0, S.data.toList, [], Nat.zero_le _, rfl, rfl, Lib.IsBuilderF.of (Lib.fresh_isBuilder _ _ w2), (Below.refl _ _).alloc (Nat.le_refl _) _, rfl, ?_, ?_⟩
        · simpa using hx
        · simp
      case round =>
        obtain ⟨k, T, acc, hk, rfl, rfl, hI, hbw, hacc, hext, hsz⟩ := hrel
        by_cases hlt : k < l.length
        · obtain ⟨a, cap', hv, hcap, hmax, hc⟩ := sl_cells (rep_below (rep_below hrep hb12) hbw)
          obtain ⟨e1, e2, e3⟩ : ao = a ∧ l.length = (l.map pieceV).length ∧ cap = cap' := by injection hv with e1 e2 e3; exact ⟨e1, e2, e3⟩
          obtain ⟨ad, rfl, hblk, hc⟩ := hc (by intro h; simp at h; subst h; simp at hlt)
          subst e1
          have hg : (l.map pieceV)[k]? = some (pieceV l[k]) := by simp [hlt]
          obtain ⟨u0, h0, q0⟩ := hc k _ 0 _ hg rfl
          obtain ⟨u1, h1, q1⟩ := hc k _ 1 _ hg rfl
          obtain ⟨u2, h2, q2⟩ := hc k _ 2 _ hg rfl
          cases rep_int (m := []) q0
          cases rep_int (m := []) q1
          obtain ⟨q2, hput⟩ := rep_str (m := []) q2
          subst q2
          rw [← add_add'] at h1 h2
          have h0 : wr.cell? (ad.add (k * 3)) = some (.int .i64 l[k].keep) := h0
          have h1 : wr.cell? ⟨(ad.add (k * 3)).block, (ad.add (k * 3)).off + 1, none⟩ = some (.int .i64 l[k].drop) := h1
          have h2 : wr.cell? ⟨(ad.add (k * 3)).block, (ad.add (k * 3)).off + 2, none⟩ = some (.string ⟨l[k].put.toArray⟩) := h2
          clear q0 q1 hc hg hcap hmax hv e2 e3
          have hd : l.drop k = l[k] :: l.drop (k + 1) := drop_cons hlt
          have hok := r2 l[k] (List.getElem_mem hlt)
          have k0 := hok.k0; have k1 := hok.k1; have d0 := hok.d0; have d1 := hok.d1
          have hen : 0 ≤ extentP (l.drop (k + 1)) := extentP_nonneg fun q hq => r2 q (List.mem_of_mem_drop hq)
          rw [hd, extentP_cons] at hext
          have hpt : putsLen (l[k] :: l.drop (k + 1)) = l[k].put.length + putsLen (l.drop (k + 1)) := rfl
          rw [hd, hpt] at hsz
          rw [hd] at hacc
          have hacc := hidU hacc
          have hN := hidU hsz
          clear hsz
          obtain ⟨p, hp⟩ : ∃ p, l[k] = p := ⟨_, rfl⟩
          simp only [hp] at *
          have hsT : (⟨T.toArray⟩ : ByteArray).size = T.length := by simp [ByteArray.size]
          have hI1 := Lib.IsBuilderF.alloc hI (.cells #[.int .i64 p.keep, .int .i64 p.drop, .string ⟨p.put.toArray⟩] 40)
          have hw1 : Below w2.heap.size w2 (wr.alloc (.cells #[.int .i64 p.keep, .int .i64 p.drop, .string ⟨p.put.toArray⟩] 40)) := hbw.alloc hbw.size _
          have hbl : w2.heap.size < wr.heap.size := by
            have : ∀ q, Lib.BuilderAtF 99 5 w2.heap.size w2.heap.size q (Lib.byteCells acc) wr → w2.heap.size < wr.heap.size := by
              rintro q ⟨_, v, hbk, _⟩
              exact (Array.getElem?_eq_some_iff.1 hbk).1
            rcases hI with h | h
            · exact this _ h
            · exact this _ h
          have hbox : (wr.alloc (.cells #[.int .i64 p.keep, .int .i64 p.drop, .string ⟨p.put.toArray⟩] 40)).heap[wr.heap.size]? = some (.cells #[.int .i64 p.keep, .int .i64 p.drop, .string ⟨p.put.toArray⟩] 40 (0, 0)) := heap_alloc_new wr _
          have hne : ∀ (c : Array Value) (fz : Nat × Nat), (Obj.cells #[.int .i64 p.keep, .int .i64 p.drop, .string ⟨p.put.toArray⟩] 40 (0, 0)) ≠ Obj.cells c 5 fz := fun c fz h => by
            injection h with h1 h2 h3
            exact absurd h2 (by decide)
          have hne := hidU hne
          have hI1 := hidU hI1
          have hN2 := hN.out
          have hx1 : (ByteArray.extract ⟨T.toArray⟩ 0 p.keep.toNat).data.toList = T.take p.keep.toNat := by rw [Lib.extract_data]; simp
          have hx1s : (ByteArray.extract ⟨T.toArray⟩ 0 p.keep.toNat).size = p.keep.toNat := by
            rw [Lib.size_eq, hx1, List.length_take]
            omega
          have hsz' : S.data.toList.length + putsLen l ≤ 1000000000 + 1048576 := by rw [← Lib.size_eq]; omega
          have hsz'' : acc.length + (T.length + (p.put.length + putsLen (l.drop (k + 1)))) ≤ 1000000000 + 1048576 := by omega
          have hsz'' := hidU hsz''
          clear hN2 hsz'
          go_wp2_with fail
          refine (b_WriteString w2.heap.size w2.heap.size _ _ _ hI1.out (by rw [Lib.byteCells_length, hx1s]; have := hsz''.out; omega) (Nat.le_trans (Nat.le_of_lt hbl) (by simp))).mono ?_
          rintro e W1 ⟨rfl, hA1, b1, q1⟩
          have hbox1 := q1 _ _ hbox (by simp; omega) hne.out
          have c2 : W1.cell? ⟨wr.heap.size, 2, none⟩ = some (.string ⟨p.put.toArray⟩) := by rw [Lib.cell_of_heap hbox1]; rfl
          have hsz1 : w2.heap.size ≤ W1.heap.size := Nat.le_trans hw1.size b1.size
          have hA1 : Lib.IsBuilderF 99 5 w2.heap.size w2.heap.size _ W1 := .inr hA1
          have hA1 := hidU hA1
          have hbox1 := hidU hbox1
          have hq : Below w2.heap.size w2 W1 := hw1.trans b1
          clear b1 q1 hw1 hbox
          go_wp2_with fail
          refine (b_WriteString w2.heap.size w2.heap.size _ _ _ hA1.out (by rw [List.length_append, Lib.byteCells_length, Lib.strCells_eq, Lib.byteCells_length, hx1, List.length_take, Lib.size_eq]; have := hsz''.out; simp only []; omega) hsz1).mono ?_
          rintro e W2 ⟨rfl, hA2, b2, q2⟩
          have hbox2 := q2 _ _ hbox1.out (by simp; omega) hne.out
          have c3 : W2.cell? ⟨wr.heap.size, 0, none⟩ = some (.int .i64 p.keep) := by rw [Lib.cell_of_heap hbox2]; rfl
          have c4 : W2.cell? ⟨wr.heap.size, 1, none⟩ = some (.int .i64 p.drop) := by rw [Lib.cell_of_heap hbox2]; rfl
          have hA2 : Lib.IsBuilderF 99 5 w2.heap.size w2.heap.size _ W2 := .inr hA2
          have hA2 := hidU hA2
          have hq2 : Below w2.heap.size w2 W2 := hq.trans b2
          clear b2 q2 hbox2 c2
          go_wp2_with fail
          refine ⟨⟨k + 1, T.drop (p.keep + p.drop).toNat, acc ++ T.take p.keep.toNat ++ p.put, hlt, ?_, rfl, ?_, hq2, ?_, ?_, ?_⟩, ?_⟩
          · congr 1
            refine ba_of _ _ ?_
            rw [Lib.extract_data]
            exact List.take_of_length_le (by simp)
          · have := hA2.out
            rw [Lib.strCells_eq, Lib.strCells_eq, hx1, ← Lib.byteCells_append, ← Lib.byteCells_append] at this
            exact this
          · rw [← hacc.out]
            show _ = acc ++ editP T (p :: l.drop (k + 1))
            rw [editP]
            simp only [List.append_assoc]
          · rw [List.length_drop]
            omega
          · have := hN.out
            simp only [List.length_append, List.length_take, List.length_drop]
            omega
          · show l.length - (k + 1 : Int).toNat < l.length - (k : Int).toNat
            omega
        · have hke : k = l.length := by omega
          have hd : l.drop k = [] := List.drop_eq_nil_of_le (by omega)
          rw [hd] at hacc hsz hext
          have hacc : acc ++ T = editP S.data.toList l := hacc
          have hsz : acc.length + T.length + 0 ≤ S.data.toList.length + putsLen l := hsz
          have hS : S.data.toList.length ≤ 1000000000 := by rw [← Lib.size_eq]; omega
          have hI := hidU hI
          have hacc := hidU hacc
          have hN : Hid (acc.length + T.length ≤ 1000000000 + 1048576) := hidU (by omega)
          clear hsz hext hS
          go_wp2_with fail
          refine (b_WriteString w2.heap.size w2.heap.size _ _ _ hI.out (by rw [Lib.byteCells_length, Lib.size_eq]; have := hN.out; simp only []; omega) hbw.size).mono ?_
          rintro e W1 ⟨rfl, hA1, b1, q1⟩
          have hq : Below w2.heap.size w2 W1 := hbw.trans b1
          have hA1 : Lib.IsBuilderF 99 5 w2.heap.size w2.heap.size _ W1 := .inr hA1
          rw [Lib.strCells_eq, ← Lib.byteCells_append] at hA1
          have hA1 := hidU hA1
          clear b1 q1
          go_wp2_with fail
          refine (b_String w2.heap.size w2.heap.size _ _ hA1.out hq.size).mono ?_
          rintro e W2 ⟨rfl, _, b2, _⟩
          have hq2 : Below w2.heap.size w2 W2 := hq.trans b2
          clear b2
          go_wp2
          go_ret2
          refine ⟨?_, hb12.trans (hq2.mono hb12.size)⟩
          have : applyE S.data.toList l = (editP S.data.toList l, 0) := by
            unfold applyE
            rw [hr, decide_eq_false (by rw [← Lib.size_eq]; simpa using hx)]
            rfl
          rw [this, ← hacc.out]
          rfl

theorem editP_length : ∀ (t : List UInt8) (l : List PieceT), (∀ p ∈ l, p.Ok) → (editP t l).length ≤ t.length + putsLen l
  | t, [], _ => Nat.le_refl _
  | t, p :: l, h => by
    have ih := editP_length (t.drop (p.keep + p.drop).toNat) l fun q hq => h q (List.mem_cons_of_mem _ hq)
    have hp := h p List.mem_cons_self
    have := hp.k0
    have := hp.d0
    have e : putsLen (p :: l) = p.put.length + putsLen l := rfl
    rw [editP, e]
    rw [List.length_drop] at ih
    simp only [List.length_append, List.length_take]
    omega
theorem applyE_len (t : List UInt8) (l : List PieceT) : (applyE t l).1.length ≤ t.length + 1048576 := by
  unfold applyE
  cases hr : rightP l with
  | false => simp
  | true =>
    obtain ⟨r1, r2, r3⟩ := rightP_ok hr
    cases decide ((t.length : Int) < extentP l) with
    | false =>
      have := editP_length t l r2
      simp only [Bool.not_true, cond_false]
      omega
    | true => simp

theorem w_edit (t : List UInt8) (l : List PieceT) (ht : t.length ≤ 1000000000) (hl : l.length ≤ 1000000) (hpl : ∀ p ∈ l, p.put.length ≤ 1000000000) :
    Pure Tryz.prog 68 [.str t, piecesV l] (fun x => x = strE (applyE t l)) := by
  refine pure_of_calls ?_ rfl fun w β H vals hv hr => ?_
  · exact ⟨_, Tryz.func68, rfl, rfl⟩
  · obtain ⟨v0, v1, rfl⟩ : ∃ v0 v1, vals = #[v0, v1] := by
      obtain ⟨l⟩ := vals
      match l, hv with
      | [v0, v1], _ => exact ⟨v0, v1, rfl⟩
    have h0 := hr 0 _ v0 rfl rfl
    have h1 := hr 1 _ v1 rfl rfl
    obtain ⟨rfl, _⟩ := rep_str (m := []) h0
    have h1 := Rep.flat_sl (pieces_flat l) h1
    obtain ⟨a, cap, rfl, _⟩ := sl_cells h1
    have e : (l.map pieceV).length = l.length := by simp
    rw [e] at h1 ⊢
    refine (edit_walk ⟨t.toArray⟩ l (by simpa [ByteArray.size] using ht) hl hpl a cap w h1).mono ?_
    rintro e w' ⟨rfl, hb⟩
    have hm := applyE_len t l
    have hS : (⟨t.toArray⟩ : ByteArray).data.toList = t := rfl
    rw [hS]
    refine ⟨hb, strE (applyE t l), _, rfl, rfl, rfl, .tup _ _ rfl fun j c v hc hv => ?_⟩
    match j, hc, hv with
    | 0, hc, hv =>
      simp at hc hv
      subst hc hv
      exact .str _ (by unfold maxLen; omega)
    | 1, hc, hv =>
      simp at hc hv
      subst hc hv
      exact .int _ _
    | j + 2, hc, hv => simp at hc
end Bow
/- SP7: which operations are valid, and what becomes of a tree. -/
namespace Bow
open Go

/-- Of an operation that is formed, on a tree that is right. -/
def validE (t : Tree) (o : OpT) : Int :=
  bif (decide (o.kind = 2) || decide (o.kind = 3)) && decide (o.path = []) then 82
  else match atT t o.path with
    | none => 81
    | some x => bif decide (o.kind = 1) then intoE x o.at_
      else bif decide (o.kind = 3) then (bif within o.path o.to then 84 else match atT t o.to with
        | none => 81
        | some y => intoE y o.at_)
      else bif decide (o.kind = 6) then (bif !x.leaf then 83 else (applyE x.text o.pieces).2)
      else 0
def ValidE (t : Tree) (o : OpT) : Int := bif !rightT t then 2 else bif !formedB o then 80 else validE t o
end Bow
/- W25: which operations are valid. -/
namespace Bow
open Go Go.Proofs

theorem text_le_weight (t : Tree) : t.text.length < t.weight := by have := weight_eq t; omega
theorem path_nil {p : List Int} (h : decide ((((p.map intV).length : Nat) : Int) = 0) = true) : p = [] := by
  have := eq_of h
  simpa using this
theorem path_ne {p : List Int} (h : decide ((((p.map intV).length : Nat) : Int) = 0) = false) : p ≠ [] := by
  have := ne_of h
  simpa using this

set_option maxRecDepth 100000 in
theorem w_valid (t : Tree) (o : OpT) (ht : t.weight ≤ 1000000) (ho : o.Ok) : Pure Tryz.prog 44 [nodeV t, opV o] (fun x => x = .int .i64 (validE t o)) := by
  have hp := ho.lt.path
  have hto := ho.lt.to
  have hpc := ho.lt.pieces
  have hpl := ho.each
  refine pure_fn 300 Tryz.func44 rfl rfl rfl fun B => ?_
  show CallThen _ _ _ _ _ _
  refine call_pure (w_At t o.path hp) rfl ?_
  rintro x rfl
  cases hat : atT t o.path with
  | none =>
    repeat' first
      | (refine ⟨fun _ => go 300 ?_, fun _ => go 300 ?_⟩)
      | (refine ⟨trivial, rfl, rfl, rfl, ?_⟩)
      | fail
    all_goals (show V.int _ _ = _; simp_all [validE]; done)
  | some x =>
    have hxw := atT_weight hat
    have hxt := text_le_weight x
    repeat' first
      | (refine ⟨fun _ => go 300 ?_, fun _ => go 300 ?_⟩)
      | (show CallThen _ _ _ _ _ _; refine call_pure (w_into x o.at_) rfl ?_; rintro z rfl)
      | (show CallThen _ _ _ _ _ _; refine call_pure (w_pathWithin o.path o.to hp) rfl ?_; rintro z rfl)
      | (show CallThen _ _ _ _ _ _; refine call_pure (w_edit x.text o.pieces (by omega) (by omega) hpl) rfl ?_; rintro z rfl)
      | (show CallThen _ _ _ _ _ _; refine call_pure (w_At t o.to hto) rfl ?_; rintro z rfl; cases hat2 : atT t o.to with
          | none => exact ⟨trivial, rfl, rfl, rfl, (by show V.int _ _ = _; simp_all [validE])⟩
          | some y =>
            show CallThen _ _ _ _ _ _
            refine call_pure (w_into y o.at_) rfl ?_
            rintro z rfl
            exact ⟨trivial, rfl, rfl, rfl, (by show V.int _ _ = _; simp_all [validE])⟩)
      | (refine ⟨trivial, rfl, rfl, rfl, ?_⟩)
      | fail
    all_goals (show V.int _ _ = _; simp_all [validE])

set_option maxHeartbeats 4000000 in
set_option maxRecDepth 100000 in
theorem w_refValid (t : Tree) (o : OpT) (ht : t.weight ≤ 1000000) (ho : o.Ok) : Pure Tryz.prog 47 [nodeV t, opV o] (fun x => x = .int .i64 (ValidE t o)) := by
  have hp := ho.lt.path
  have hto := ho.lt.to
  have hpc := ho.lt.pieces
  have hpl := ho.each
  refine pure_fn 300 Tryz.func47 rfl rfl rfl fun B => ?_
  show CallThen _ _ _ _ _ _
  refine call_pure (w_refRightT t ht) rfl ?_
  rintro x rfl
  refine ⟨fun g1 => go 300 ?_, fun g1 => go 300 ?_⟩
  · exact ⟨trivial, rfl, rfl, rfl, by unfold ValidE; rw [g1]; rfl⟩
  show CallThen _ _ _ _ _ _
  refine call_pure (w_refFormed o ho.lt ho.each) rfl ?_
  rintro x rfl
  refine ⟨fun g2 => go 300 ?_, fun g2 => go 300 ?_⟩
  · exact ⟨trivial, rfl, rfl, rfl, by unfold ValidE; rw [g1, g2]; rfl⟩
  have hV : ValidE t o = validE t o := by unfold ValidE; rw [g1, g2]; rfl
  rw [hV]
  clear hV g1 g2
  repeat' first
    | (refine ⟨fun _ => go 300 ?_, fun _ => go 300 ?_⟩)
    | (show CallThen _ _ _ _ _ _; refine call_pure (w_refAt t o.path hp) rfl ?_; rintro z rfl; cases hat : atT t o.path with
        | none => exact ⟨trivial, rfl, rfl, rfl, (by show V.int _ _ = _; simp_all [validE])⟩
        | some x =>
          have hxw := atT_weight hat
          have hxt := text_le_weight x
          repeat' first
            | (refine ⟨fun _ => go 300 ?_, fun _ => go 300 ?_⟩)
            | (show CallThen _ _ _ _ _ _; refine call_pure (w_refInto x o.at_) rfl ?_; rintro z rfl)
            | (show CallThen _ _ _ _ _ _; refine call_pure (w_refWithin o.path o.to hp) rfl ?_; rintro z rfl)
            | (show CallThen _ _ _ _ _ _; refine call_pure (w_refEdit x.text o.pieces (by omega) (by omega) hpl) rfl ?_; rintro z rfl)
            | (show CallThen _ _ _ _ _ _; refine call_pure (w_refAt t o.to hto) rfl ?_; rintro z rfl; cases hat2 : atT t o.to with
                | none => exact ⟨trivial, rfl, rfl, rfl, (by show V.int _ _ = _; simp_all [validE])⟩
                | some y =>
                  show CallThen _ _ _ _ _ _
                  refine call_pure (w_refInto y o.at_) rfl ?_
                  rintro z rfl
                  exact ⟨trivial, rfl, rfl, rfl, (by show V.int _ _ = _; simp_all [validE])⟩)
            | (refine ⟨trivial, rfl, rfl, rfl, ?_⟩)
            | fail
          all_goals (show V.int _ _ = _; simp_all [validE]))
    | (refine ⟨trivial, rfl, rfl, rfl, ?_⟩)
    | fail
  all_goals (show V.int _ _ = _; simp_all [validE])
end Bow
/- SP8: a moved node's landing, in plain Lean. -/
namespace Bow
open Go

theorem weights_append : ∀ (a b : List Tree), weights (a ++ b) = weights a + weights b
  | [], b => by rw [weights]; simp
  | x :: a, b => by rw [List.cons_append, weights, weights, weights_append a b]; omega
theorem weights_set {s u : Tree} : ∀ {l : List Tree} {i : Nat}, l[i]? = some s → u.weight ≤ s.weight → weights (l.set i u) ≤ weights l
  | [], i, h, _ => by simp at h
  | x :: l, 0, h, hu => by
    simp at h
    subst h
    rw [List.set_cons_zero, weights, weights]
    omega
  | x :: l, i + 1, h, hu => by
    simp at h
    have := weights_set (l := l) h hu
    rw [List.set_cons_succ, weights, weights]
    omega
theorem withSubs_weight (t : Tree) (ss : List Tree) : (t.withSubs ss).weight + weights t.subs = t.weight + weights ss := by
  cases t
  rw [weight_eq, weight_eq]
  simp only [Tree.withSubs, Tree.label, Tree.text, Tree.attrs, Tree.subs]
  omega
theorem change_weight {F : Tree → Tree} (hF : ∀ y, (F y).weight ≤ y.weight) : ∀ (p : List Int) (t : Tree), (changeT F t p).weight ≤ t.weight
  | [], t => hF t
  | i :: p, t => by
    rw [changeT]
    cases hs : subT t i with
    | none => exact Nat.le_refl _
    | some s =>
      have ih := change_weight hF p s
      have h := weights_set (subT_some hs).2.1 ih
      have := withSubs_weight t (t.subs.set i.toNat (changeT F s p))
      simp only
      omega
theorem del_weight (i : Int) (y : Tree) : (delT i y).weight ≤ y.weight := by
  have h1 := withSubs_weight y (y.subs.take i.toNat ++ y.subs.drop (i.toNat + 1))
  have h2 : weights (y.subs.take i.toNat ++ y.subs.drop (i.toNat + 1)) ≤ weights y.subs := by
    conv => rhs; rw [← List.take_append_drop i.toNat y.subs]
    rw [weights_append, weights_append]
    have h3 : weights (y.subs.drop (i.toNat + 1)) ≤ weights (y.subs.drop i.toNat) := by
      rw [← List.drop_drop]
      cases y.subs.drop i.toNat with
      | nil => simp
      | cons a l => rw [weights]; simp
    omega
  unfold delT
  omega

theorem subT_with (t : Tree) (ss : List Tree) (j : Int) (h : 0 ≤ j) : subT (t.withSubs ss) j = ss[j.toNat]? := by
  unfold subT
  rw [withSubs_subs, decide_eq_false (by omega)]
  rfl
theorem subT_eq {t : Tree} {j : Int} (h : 0 ≤ j) : subT t j = t.subs[j.toNat]? := by
  unfold subT
  rw [decide_eq_false (by omega)]
  rfl
theorem within_cons (k j : Int) (p q : List Int) : within (k :: p) (j :: q) = (decide (k = j) && within p q) := by
  unfold within
  simp
theorem within_nil (q : List Int) : within [] q = true := by unfold within; simp
theorem within_cons_nil (k : Int) (p : List Int) : within (k :: p) [] = false := by unfold within; simp
theorem landT_cons (k i at_ : Int) (q to : List Int) : landT (k :: q) i (k :: to) at_ = (k :: (landT q i to at_).1, (landT q i to at_).2) := by
  unfold landT
  rw [within_cons]
  simp only [List.cons.injEq, true_and, decide_true, Bool.true_and, List.length_cons, Nat.add_lt_add_iff_right, List.getD_cons_succ, List.set_cons_succ]
  cases (decide (q = to) && decide (i < at_)) <;> cases (within q to && (decide (q.length < to.length) && decide (i < to.getD q.length 0))) <;> rfl
theorem landT_other {k j i at_ : Int} {q to : List Int} (h : k ≠ j) : landT (k :: q) i (j :: to) at_ = (j :: to, at_) := by
  unfold landT
  rw [within_cons]
  simp [h]
theorem landT_top (k i at_ : Int) (q : List Int) : landT (k :: q) i [] at_ = ([], at_) := by
  unfold landT
  rw [within_cons_nil]
  simp

theorem withSubs_leaf (t : Tree) (ss : List Tree) : (t.withSubs ss).leaf = t.leaf := by cases t; rfl
theorem withSubs_id (t : Tree) (ss : List Tree) : (t.withSubs ss).id = t.id := by cases t; rfl
/-- Where a moved node lands there is a node, with such a gap. -/
theorem land_at2 {i at_ : Int} (hi : 0 ≤ i) (h0 : 0 ≤ at_) : ∀ (q to : List Int) (t y z : Tree), atT t q = some y → i < y.subs.length → within (q ++ [i]) to = false → atT t to = some z → at_ ≤ z.subs.length →
    ∃ z', atT (changeT (delT i) t q) (landT q i to at_).1 = some z' ∧ 0 ≤ (landT q i to at_).2 ∧ (landT q i to at_).2 ≤ z'.subs.length ∧ z'.leaf = z.leaf ∧ z'.id = z.id
  | [], [], t, y, z, hy, hiy, hw, hz, hat => by
    rw [atT] at hy hz
    injection hy with hy
    injection hz with hz
    subst hy hz
    have hl : (delT i t).subs.length + 1 = t.subs.length := by
      unfold delT
      rw [withSubs_subs]
      simp
      omega
    unfold landT
    rw [changeT]
    by_cases h : i < at_
    · rw [decide_eq_true h]
      exact ⟨_, rfl, by show 0 ≤ at_ - 1; omega, by show at_ - 1 ≤ _; omega, withSubs_leaf _ _, withSubs_id _ _⟩
    · rw [decide_eq_false h]
      simp only [decide_true, Bool.and_false, within_nil, List.length_nil, cond_false, Nat.lt_irrefl, decide_false, Bool.false_and]
      exact ⟨_, rfl, h0, by omega, withSubs_leaf _ _, withSubs_id _ _⟩
  | [], j :: to, t, y, z, hy, hiy, hw, hz, hat => by
    rw [atT] at hy
    injection hy with hy
    subst hy
    rw [atT] at hz
    cases hs : subT t j with
    | none => rw [hs] at hz; cases hz
    | some s =>
    rw [hs] at hz
    simp only at hz
    obtain ⟨hj, hsj, _⟩ := subT_some hs
    have hji : j ≠ i := by
      rintro rfl
      simp [within] at hw
    rw [changeT]
    have e : landT [] i (j :: to) at_ = (bif decide (i < j) then ((j - 1) :: to, at_) else (j :: to, at_)) := by
      unfold landT
      simp [within_nil]
    rw [e]
    by_cases h : i < j
    · rw [decide_eq_true h]
      refine ⟨z, ?_, h0, hat, rfl, rfl⟩
      simp only [cond_true]
      rw [atT]
      have : subT (delT i t) (j - 1) = some s := by
        unfold delT
        rw [subT_with _ _ _ (by omega), List.getElem?_append_right (by simp; omega), List.getElem?_drop, ← hsj]
        congr 1
        simp
        omega
      rw [this]
      exact hz
    · rw [decide_eq_false h]
      refine ⟨z, ?_, h0, hat, rfl, rfl⟩
      simp only [cond_false]
      rw [atT]
      have : subT (delT i t) j = some s := by
        unfold delT
        rw [subT_with _ _ _ hj, List.getElem?_append_left (by simp; omega), List.getElem?_take, if_pos (by omega), hsj]
      rw [this]
      exact hz
  | k :: q, [], t, y, z, hy, hiy, hw, hz, hat => by
    rw [atT] at hz
    injection hz with hz
    subst hz
    rw [landT_top, atT]
    refine ⟨_, rfl, h0, ?_⟩
    rw [changeT]
    cases subT t k with
    | none => exact ⟨hat, rfl, rfl⟩
    | some s =>
      simp only
      rw [withSubs_subs, List.length_set]
      exact ⟨hat, withSubs_leaf _ _, withSubs_id _ _⟩
  | k :: q, j :: to, t, y, z, hy, hiy, hw, hz, hat => by
    rw [atT] at hy hz
    cases hs : subT t k with
    | none => rw [hs] at hy; cases hy
    | some s =>
    rw [hs] at hy
    simp only at hy
    obtain ⟨hk, hsk, _⟩ := subT_some hs
    have hkl := lt_of_get hsk
    rw [changeT, hs]
    simp only
    by_cases h : k = j
    · subst h
      rw [hs] at hz
      simp only at hz
      rw [List.cons_append, within_cons] at hw
      simp only [decide_true, Bool.true_and] at hw
      rw [landT_cons]
      obtain ⟨z', h1, h2, h3, h4⟩ := land_at2 hi h0 q to s y z hy hiy hw hz hat
      refine ⟨z', ?_, h2, h3, h4⟩
      simp only
      rw [atT, subT_with _ _ _ hk, List.getElem?_set_self hkl]
      exact h1
    · rw [landT_other h]
      refine ⟨z, ?_, h0, hat, rfl, rfl⟩
      cases hs2 : subT t j with
      | none => rw [hs2] at hz; cases hz
      | some s2 =>
      rw [hs2] at hz
      simp only at hz
      obtain ⟨hj, hsj, _⟩ := subT_some hs2
      simp only
      rw [atT, subT_with _ _ _ hj, List.getElem?_set_ne (by omega), hsj]
      exact hz

theorem land_at {i at_ : Int} (hi : 0 ≤ i) (h0 : 0 ≤ at_) (q to : List Int) (t y z : Tree) (h1 : atT t q = some y) (h2 : i < y.subs.length) (h3 : within (q ++ [i]) to = false) (h4 : atT t to = some z) (h5 : at_ ≤ z.subs.length) :
    ∃ z', atT (changeT (delT i) t q) (landT q i to at_).1 = some z' ∧ 0 ≤ (landT q i to at_).2 ∧ (landT q i to at_).2 ≤ z'.subs.length := by
  obtain ⟨z', k1, k2, k3, _⟩ := land_at2 hi h0 q to t y z h1 h2 h3 h4 h5
  exact ⟨z', k1, k2, k3⟩

/-! ### The path of a node's parent -/
theorem at_parent : ∀ {p : List Int} (hne : p ≠ []) {t x : Tree}, atT t p = some x → ∃ y, atT t p.dropLast = some y ∧ 0 ≤ p.getLast hne ∧ p.getLast hne < y.subs.length ∧ y.subs[(p.getLast hne).toNat]? = some x
  | [i], _, t, x, h => by
    rw [atT] at h
    cases hs : subT t i with
    | none => rw [hs] at h; cases h
    | some s =>
      rw [hs] at h
      simp only [atT] at h
      injection h with h
      subst h
      obtain ⟨h1, h2, _⟩ := subT_some hs
      have := lt_of_get h2
      exact ⟨t, rfl, h1, by show i < _; omega, h2⟩
  | i :: j :: p, hne, t, x, h => by
    rw [atT] at h
    cases hs : subT t i with
    | none => rw [hs] at h; cases h
    | some s =>
      rw [hs] at h
      obtain ⟨y, h1, h2, h3, h4⟩ := at_parent (p := j :: p) (by simp) h
      refine ⟨y, ?_, ?_⟩
      · rw [List.dropLast_cons_of_ne_nil (by simp), atT, hs]
        exact h1
      · rw [List.getLast_cons (by simp)]
        exact ⟨h2, h3, h4⟩
/-! ### What becomes of a tree -/
/-- A node new. -/
def freshT (o : OpT) : Tree := .mk o.id o.leaf o.label [] [] []
def relabelT (s : List UInt8) : Tree → Tree
  | .mk i l _ a c ss => .mk i l s a c ss
def retextT (l : List PieceT) : Tree → Tree
  | .mk i lf b a c ss => .mk i lf b a (applyE c l).1 ss
def lastP (p : List Int) : Int := p.getLastD 0
theorem lastP_eq {p : List Int} (h : p ≠ []) : p.getLast h = lastP p := by
  unfold lastP
  cases p with
  | nil => exact absurd rfl h
  | cons a p => rw [List.getLastD_eq_getLast?, List.getLast?_eq_some_getLast h]; rfl
def moveT (x t : Tree) (o : OpT) : Tree :=
  changeT (insT (landT o.path.dropLast (lastP o.path) o.to o.at_).2 x) (changeT (delT (lastP o.path)) t o.path.dropLast) (landT o.path.dropLast (lastP o.path) o.to o.at_).1
theorem land_len (q : List Int) (i : Int) (to : List Int) (n : Int) : (landT q i to n).1.length = to.length := by
  unfold landT
  cases (decide (q = to) && decide (i < n)) <;> cases (within q to && (decide (q.length < to.length) && decide (i < to.getD q.length 0))) <;> simp
end Bow
/- W26: what becomes of a tree. -/
namespace Bow
open Go Go.Proofs

theorem w_apply2 (o : OpT) (y : Tree) : Fun Tryz.prog 75 [some (.box (nodeV y).cells)] [.ptr (.loc 0) 0, .iptr (opV o).cells 0] (fun _ T => T = [some (.box (nodeV (relabelT o.label y)).cells)]) := by
  refine fun_fn 100 Tryz.func75 rfl rfl rfl fun imps B hi => ?_
  obtain ⟨r, rfl⟩ := List.length_eq_one_iff.1 hi
  refine ⟨trivial, rfl, rfl, ?_⟩
  cases y
  rfl
set_option maxRecDepth 100000 in
theorem w_apply3 (o : OpT) (y : Tree) (ho : o.Ok) (hy : y.weight ≤ 1000000) : Fun Tryz.prog 76 [some (.box (nodeV y).cells)] [.ptr (.loc 0) 0, .iptr (opV o).cells 0] (fun _ T => T = [some (.box (nodeV (retextT o.pieces y)).cells)]) := by
  refine fun_fn 100 Tryz.func76 rfl rfl rfl fun imps B hi => ?_
  obtain ⟨r, rfl⟩ := List.length_eq_one_iff.1 hi
  have := text_le_weight y
  show Goes _ _ _ _
  refine goes_draw 100 ⟨_, w_edit y.text o.pieces (by omega) ho.lt.pieces ho.each, rfl, ?_⟩
  refine ⟨by kernel_rfl, ?_⟩
  refine ⟨trivial, rfl, rfl, ?_⟩
  cases y
  rfl
/-- What an operation's walk asks: it is formed, and valid on the tree; and what it makes of it. -/
inductive Does (t : Tree) (o : OpT) : Tree → Prop
  | ins (y) (hk : o.kind = 1) (hy : atT t o.path = some y) (h0 : 0 ≤ o.at_) (h1 : o.at_ ≤ y.subs.length) : Does t o (changeT (insT o.at_ (freshT o)) t o.path)
  | del (x) (hk : o.kind = 2) (hne : o.path ≠ []) (hx : atT t o.path = some x) : Does t o (changeT (delT (lastP o.path)) t o.path.dropLast)
  | mov (x z) (hk : o.kind = 3) (hne : o.path ≠ []) (hx : atT t o.path = some x) (hw : within o.path o.to = false) (hz : atT t o.to = some z) (h0 : 0 ≤ o.at_) (h1 : o.at_ ≤ z.subs.length) : Does t o (moveT x t o)
  | lab (y) (hk : o.kind = 5) (hy : atT t o.path = some y) : Does t o (changeT (relabelT o.label) t o.path)
  | edt (y) (hk : o.kind = 6) (hy : atT t o.path = some y) : Does t o (changeT (retextT o.pieces) t o.path)

theorem wk_fresh (o : OpT) : Wk (.agg [.int .u64 o.id, .bool o.leaf, .str o.label, .nilsl, .str [], .nilsl]) (nodeV (freshT o)) :=
  Wk.agg ⟨.refl _, .refl _, .refl _, Wk.nil 2, .refl _, Wk.nil 6, trivial⟩

set_option maxHeartbeats 1000000 in
set_option maxRecDepth 100000 in
theorem w_apply_k (t : Tree) (o : OpT) (m : Tree) (ht : t.weight ≤ 900000) (ho : o.Ok) (hto : o.kind = 3 → ∀ x ∈ o.to, inI x) (h : Does t o m) : Pure Tryz.prog 45 [nodeV t, opV o] (fun x => x = nodeV m) := by
  have hp := ho.lt.path
  have hpt := ho.lt.to
  refine pure_fn 300 Tryz.func45 rfl rfl rfl fun B => ?_
  cases h with
  | ins y hk hy h0 h1 =>
    refine ⟨fun g1 => go 300 ?_, fun g1 => absurd hk (ne_of g1)⟩
    show CallThen _ _ _ _ _ _
    refine call_pure (pure_args (w_insert t (freshT o) y o.path o.at_ hp ht hy h0 h1) ⟨.refl _, .refl _, .refl _, wk_fresh o, trivial⟩ rfl rfl) rfl ?_
    rintro z rfl
    exact ⟨trivial, rfl, rfl, rfl, rfl⟩
  | del x hk hne hx =>
    obtain ⟨y, y1, y2, y3, y4⟩ := at_parent hne hx
    refine ⟨fun g1 => absurd (hk.symm.trans (eq_of g1)) (by decide), fun g1 => go 300 ?_⟩
    refine ⟨fun g1 => go 300 ?_, fun g1 => absurd hk (ne_of g1)⟩
    show CallThen _ _ _ _ _ _
    refine call_pure (w_remove t y o.path hp hne ht y1 y2 y3) rfl ?_
    rintro z rfl
    exact ⟨trivial, rfl, rfl, rfl, by rw [lastP_eq]; rfl⟩
  | mov x z hk hne hx hw hz h0 h1 =>
    obtain ⟨y, y1, y2, y3, y4⟩ := at_parent hne hx
    refine ⟨fun g1 => absurd (hk.symm.trans (eq_of g1)) (by decide), fun g1 => go 300 ?_⟩
    refine ⟨fun g1 => absurd (hk.symm.trans (eq_of g1)) (by decide), fun g1 => go 300 ?_⟩
    refine ⟨fun g1 => go 300 ?_, fun g1 => absurd hk (ne_of g1)⟩
    show CallThen _ _ _ _ _ _
    refine call_pure (w_At t o.path hp) rfl ?_
    rintro _ rfl
    rw [hx]
    have hzl := subs_le_weight z
    have hzw := atT_weight hz
    show CallThen _ _ _ _ _ _
    refine call_pure (w_landing o.path o.to o.at_ hp hpt hne ⟨by omega, by omega⟩ (hto hk) y2) rfl ?_
    rintro _ rfl
    show Goes _ _ _ _
    have hlast := lastP_eq hne
    have hw' : within (o.path.dropLast ++ [lastP o.path]) o.to = false := by rw [← hlast, List.dropLast_concat_getLast]; exact hw
    obtain ⟨z', z1, z2, z3⟩ := land_at (by rw [← hlast]; exact y2) h0 o.path.dropLast o.to t y z y1 (by rw [← hlast]; exact y3) hw' hz h1
    have hmw := change_weight (del_weight (lastP o.path)) o.path.dropLast t
    have hrem := w_remove t y o.path hp hne ht y1 y2 y3
    have hins := w_insert (changeT (delT (lastP o.path)) t o.path.dropLast) x z' (landT o.path.dropLast (lastP o.path) o.to o.at_).1 (landT o.path.dropLast (lastP o.path) o.to o.at_).2 (by rw [land_len]; exact hpt) (by omega) z1 z2 z3
    rw [← hlast] at hins
    refine goes_draw 300 ⟨_, hrem, rfl, _, hins, rfl, ?_⟩
    refine ⟨by kernel_rfl, ?_⟩
    refine ⟨trivial, rfl, rfl, rfl, ?_⟩
    unfold moveT
    rw [← hlast]
    rfl
  | lab y hk hy =>
    refine ⟨fun g1 => absurd (hk.symm.trans (eq_of g1)) (by decide), fun g1 => go 300 ?_⟩
    refine ⟨fun g1 => absurd (hk.symm.trans (eq_of g1)) (by decide), fun g1 => go 300 ?_⟩
    refine ⟨fun g1 => absurd (hk.symm.trans (eq_of g1)) (by decide), fun g1 => go 300 ?_⟩
    refine ⟨fun g1 => absurd (hk.symm.trans (eq_of g1)) (by decide), fun g1 => go 300 ?_⟩
    refine ⟨fun g1 => go 300 ?_, fun g1 => absurd hk (ne_of g1)⟩
    show CallThen _ _ _ _ _ _
    refine call_freeze 1 rfl rfl ?_
    refine call_pure (w_change1 75 (opV o).cells (relabelT o.label) y (w_apply2 o y) o.path t hp (by omega) hy) rfl ?_
    rintro z rfl
    exact ⟨trivial, rfl, rfl, rfl, rfl⟩
  | edt y hk hy =>
    have hyw := atT_weight hy
    refine ⟨fun g1 => absurd (hk.symm.trans (eq_of g1)) (by decide), fun g1 => go 300 ?_⟩
    refine ⟨fun g1 => absurd (hk.symm.trans (eq_of g1)) (by decide), fun g1 => go 300 ?_⟩
    refine ⟨fun g1 => absurd (hk.symm.trans (eq_of g1)) (by decide), fun g1 => go 300 ?_⟩
    refine ⟨fun g1 => absurd (hk.symm.trans (eq_of g1)) (by decide), fun g1 => go 300 ?_⟩
    refine ⟨fun g1 => absurd (hk.symm.trans (eq_of g1)) (by decide), fun g1 => go 300 ?_⟩
    show CallThen _ _ _ _ _ _
    refine call_freeze 1 rfl rfl ?_
    refine call_pure (w_change1 76 (opV o).cells (retextT o.pieces) y (w_apply3 o y ho (by omega)) o.path t hp (by omega) hy) rfl ?_
    rintro z rfl
    exact ⟨trivial, rfl, rfl, rfl, rfl⟩
theorem w_apply (t : Tree) (o : OpT) (m : Tree) (ht : t.weight ≤ 900000) (ho : o.Ok) (hto : ∀ x ∈ o.to, inI x) (h : Does t o m) : Pure Tryz.prog 45 [nodeV t, opV o] (fun x => x = nodeV m) := w_apply_k t o m ht ho (fun _ => hto) h
/-! ### Apply -/
def ApplyV (r : Tree × Int) : V := .tup [nodeV r.1, .int .i64 r.2]
end Bow
/- SP9: trees that are the same, in plain Lean. -/
namespace Bow
open Go

mutual
def sameT (ids : Bool) : Tree → Tree → Bool
  | .mk i l b a t ss, u => (!ids || decide (i = u.id)) && ((l == u.leaf) && (decide (b = u.label) && (decide (t = u.text) && (decide (a = u.attrs) && sameTs ids ss u.subs))))
def sameTs (ids : Bool) : List Tree → List Tree → Bool
  | [], [] => true
  | s :: ss, u :: us => sameT ids s u && sameTs ids ss us
  | _, _ => false
end
theorem sameT_eq (ids : Bool) (t u : Tree) : sameT ids t u = ((!ids || decide (t.id = u.id)) && ((t.leaf == u.leaf) && (decide (t.label = u.label) && (decide (t.text = u.text) && (decide (t.attrs = u.attrs) && sameTs ids t.subs u.subs))))) := by
  cases t
  rw [sameT]
  rfl
theorem sameTs_len {ids : Bool} : ∀ {ss us : List Tree}, sameTs ids ss us = true → ss.length = us.length
  | [], [], _ => rfl
  | [], _ :: _, h => by simp [sameTs] at h
  | _ :: _, [], h => by simp [sameTs] at h
  | s :: ss, u :: us, h => by
    rw [sameTs, Bool.and_eq_true] at h
    simp [sameTs_len h.2]
theorem sameTs_at {ids : Bool} {ss us : List Tree} {i : Nat} (h1 : i < ss.length) (h2 : i < us.length) : sameTs ids (ss.drop i) (us.drop i) = (sameT ids ss[i] us[i] && sameTs ids (ss.drop (i + 1)) (us.drop (i + 1))) := by
  rw [List.drop_eq_getElem_cons h1, List.drop_eq_getElem_cons h2, sameTs]
mutual
theorem sameT_true : ∀ {t u : Tree}, sameT true t u = true → t = u
  | .mk i l b a c ss, .mk i' l' b' a' c' us, h => by
    rw [sameT_eq] at h
    simp only [Tree.id, Tree.leaf, Tree.label, Tree.text, Tree.attrs, Tree.subs, Bool.and_eq_true, Bool.not_true, Bool.false_or, beq_iff_eq] at h
    obtain ⟨h1, h2, h3, h4, h5, h6⟩ := h
    rw [show i = i' from of_decide_eq_true h1, show l = l' from h2, show b = b' from of_decide_eq_true h3, show c = c' from of_decide_eq_true h4, show a = a' from of_decide_eq_true h5, sameTs_true h6]
theorem sameTs_true : ∀ {ss us : List Tree}, sameTs true ss us = true → ss = us
  | [], [], _ => rfl
  | [], _ :: _, h => by simp [sameTs] at h
  | _ :: _, [], h => by simp [sameTs] at h
  | s :: ss, u :: us, h => by
    rw [sameTs, Bool.and_eq_true] at h
    rw [sameT_true h.1, sameTs_true h.2]
end
mutual
theorem sameT_refl (ids : Bool) : ∀ t : Tree, sameT ids t t = true
  | .mk i l b a c ss => by
    rw [sameT_eq]
    simp only [Tree.id, Tree.leaf, Tree.label, Tree.text, Tree.attrs, Tree.subs]
    rw [sameTs_refl ids ss]
    simp
theorem sameTs_refl (ids : Bool) : ∀ ss : List Tree, sameTs ids ss ss = true
  | [] => by rw [sameTs]
  | s :: ss => by rw [sameTs, sameT_refl ids s, sameTs_refl ids ss]; rfl
end
end Bow
/- W27: trees that are the same. -/
namespace Bow
open Go Go.Proofs

def bV : Bool → V
  | true => .tt
  | false => .ff

end Bow
/- W30a: Light, just so. -/
namespace Bow
open Go Go.Proofs

def lightB (o : OpT) (top : Nat) : Bool := decide (o.path.length ≤ top) && decide (o.to.length ≤ top) && decide (o.label.length ≤ top) && decide (o.key.length ≤ top) && decide (o.value.length ≤ top) && decide (o.pieces.length ≤ top) && decide (putsLen o.pieces ≤ top)
theorem lightB_iff (o : OpT) (top : Nat) : lightB o top = true ↔ o.Lt top ∧ putsLen o.pieces ≤ top := by
  unfold lightB
  simp only [Bool.and_eq_true, decide_eq_true_eq]
  constructor
  · rintro ⟨⟨⟨⟨⟨⟨h1, h2⟩, h3⟩, h4⟩, h5⟩, h6⟩, h7⟩
    exact ⟨⟨h1, h2, h3, h4, h5, h6⟩, h7⟩
  · rintro ⟨⟨h1, h2, h3, h4, h5, h6⟩, h7⟩
    exact ⟨⟨⟨⟨⟨⟨h1, h2⟩, h3⟩, h4⟩, h5⟩, h6⟩, h7⟩
theorem Lt_mono {o : OpT} {a b : Nat} (h : o.Lt a) (hab : a ≤ b) : o.Lt b := by
  have := h.path; have := h.to; have := h.label; have := h.key; have := h.value; have := h.pieces
  exact ⟨by omega, by omega, by omega, by omega, by omega, by omega⟩
theorem light_ok {o : OpT} {top : Nat} (h : lightB o top = true) (ht : top ≤ 1000000) : o.Ok := by
  obtain ⟨h1, h2⟩ := (lightB_iff o top).1 h
  exact ⟨Lt_mono h1 ht, by omega⟩

set_option maxRecDepth 100000 in
/-- Light: within the bound, the lengths and what is put. -/
theorem w_LightX (o : OpT) (top : Nat) (ht : top ≤ 1000000) : Pure Tryz.prog 30 [opV o, .int .i64 top] (fun x => x = .bool (lightB o top)) := by
  have bad : ¬ (o.Lt top ∧ putsLen o.pieces ≤ top) → ∃ y, Wk .ff y ∧ y.pureB = true ∧ y = .bool (lightB o top) := fun h => leaf_ff (Bool.eq_false_iff.2 fun h' => h ((lightB_iff o top).1 h'))
  refine pure_wk (pure_fn 300 Tryz.func30 rfl rfl rfl fun B => ?_)
  refine ⟨fun g1 => go 300 ?_, fun g1 => go 300 ?_⟩
  · exact ⟨trivial, rfl, rfl, rfl, bad fun ⟨h, _⟩ => by have := lt_of g1; have := h.path; have := h.to; have := h.label; have := h.key; have := h.value; have := h.pieces; simp only [List.length_map] at *; omega⟩
  refine ⟨fun g2 => go 300 ?_, fun g2 => go 300 ?_⟩
  · exact ⟨trivial, rfl, rfl, rfl, bad fun ⟨h, _⟩ => by have := lt_of g2; have := h.path; have := h.to; have := h.label; have := h.key; have := h.value; have := h.pieces; simp only [List.length_map] at *; omega⟩
  refine ⟨fun g3 => go 300 ?_, fun g3 => go 300 ?_⟩
  · exact ⟨trivial, rfl, rfl, rfl, bad fun ⟨h, _⟩ => by have := lt_of g3; have := h.path; have := h.to; have := h.label; have := h.key; have := h.value; have := h.pieces; simp only [List.length_map] at *; omega⟩
  refine ⟨fun g4 => go 300 ?_, fun g4 => go 300 ?_⟩
  · exact ⟨trivial, rfl, rfl, rfl, bad fun ⟨h, _⟩ => by have := lt_of g4; have := h.path; have := h.to; have := h.label; have := h.key; have := h.value; have := h.pieces; simp only [List.length_map] at *; omega⟩
  refine ⟨fun g5 => go 300 ?_, fun g5 => go 300 ?_⟩
  · exact ⟨trivial, rfl, rfl, rfl, bad fun ⟨h, _⟩ => by have := lt_of g5; have := h.path; have := h.to; have := h.label; have := h.key; have := h.value; have := h.pieces; simp only [List.length_map] at *; omega⟩
  refine ⟨fun g6 => go 300 ?_, fun g6 => go 300 ?_⟩
  · exact ⟨trivial, rfl, rfl, rfl, bad fun ⟨h, _⟩ => by have := lt_of g6; have := h.path; have := h.to; have := h.label; have := h.key; have := h.value; have := h.pieces; simp only [List.length_map] at *; omega⟩
  have g1 := not_lt_of g1
  have g2 := not_lt_of g2
  have g3 := not_lt_of g3
  have g4 := not_lt_of g4
  have g5 := not_lt_of g5
  have g6 := not_lt_of g6
  simp only [List.length_map] at g1 g2 g6
  have hlt : o.Lt top := ⟨by omega, by omega, by omega, by omega, by omega, by omega⟩
  show Goes _ _ _ _
  refine goes_iter (ι := Nat × Nat) (fun i => i.1 ≤ o.pieces.length ∧ i.2 ≤ top ∧ putsLen o.pieces = i.2 + putsLen (o.pieces.drop i.1)) (fun i => o.pieces.length - i.1) (fun i => [(6, .int .i64 i.1), (5, .int .i64 i.2), (1, .int .i64 top), (2, .ptr (.loc 0) 0)]) (fun _ => [some (.box (opV o).cells)]) (0, 0) 200 (fun _ => rfl) (fun _ => rfl) ⟨⟨Nat.zero_le _, Nat.zero_le _, by simp⟩, ?_, ?_⟩ ?_
  · exact ⟨⟨rfl, rfl⟩, ⟨rfl, rfl⟩, ⟨rfl, rfl⟩, ⟨rfl, rfl⟩, trivial⟩
  · exact ⟨⟨rfl, rfl⟩, trivial⟩
  · rintro ⟨i, n⟩ ⟨h1, h3, h2⟩ next
    simp only at h1 h2 h3
    refine ⟨fun hlt => go 200 ?_, fun hge => go 200 ?_⟩
    · have hi : i < o.pieces.length := by simpa using hlt
      have hx : (o.pieces.map pieceV)[i]? = some (pieceV o.pieces[i]) := by simp [hi]
      rw [drop_cons hi] at h2
      have h2 : putsLen o.pieces = n + ((o.pieces[i]).put.length + putsLen (o.pieces.drop (i + 1))) := h2
      refine ⟨Int.natCast_nonneg i, _, hx, ?_⟩
      refine ⟨by constructor <;> omega, ?_⟩
      refine ⟨fun g7 => go 200 ?_, fun g7 => go 200 ?_⟩
      · exact ⟨trivial, rfl, rfl, rfl, bad fun ⟨h, _⟩ => by have := lt_of g7; have := h.path; have := h.to; have := h.label; have := h.key; have := h.value; have := h.pieces; simp only [List.length_map] at *; omega⟩
      have g7 := not_lt_of g7
      refine ⟨Int.natCast_nonneg i, _, hx, ?_⟩
      refine ⟨by constructor <;> omega, ?_⟩
      refine ⟨by constructor <;> omega, ?_⟩
      show Goes _ _ _ _
      refine next (i + 1, n + (o.pieces[i]).put.length) _ _ ⟨⟨hi, by simp only; omega, by simp only; omega⟩, ?_, ⟨⟨rfl, rfl⟩, ⟨rfl, rfl⟩, ⟨rfl, rfl⟩, ⟨rfl, rfl⟩, trivial⟩, ⟨⟨rfl, rfl⟩, trivial⟩⟩
      simp only; omega
    · have hi : o.pieces.length ≤ i := by simpa using hge
      rw [List.drop_eq_nil_of_le hi] at h2
      have h2 : putsLen o.pieces = n + 0 := h2
      exact ⟨trivial, rfl, rfl, rfl, leaf_tt ((lightB_iff o top).2 ⟨hlt, by omega⟩)⟩


end Bow
/- SP10: a move, by taking out first or by putting in first, in plain Lean. -/
namespace Bow
open Go

/-! ### Rows -/
section
variable {α : Type}
def insL (m : Nat) (x : α) (l : List α) : List α := l.take m ++ x :: l.drop m
def delL (n : Nat) (l : List α) : List α := l.take n ++ l.drop (n + 1)
theorem insL_zero (x : α) (l : List α) : insL 0 x l = x :: l := rfl
theorem insL_succ (m : Nat) (x a : α) (l : List α) : insL (m + 1) x (a :: l) = a :: insL m x l := rfl
theorem delL_zero (a : α) (l : List α) : delL 0 (a :: l) = l := rfl
theorem delL_succ (n : Nat) (a : α) (l : List α) : delL (n + 1) (a :: l) = a :: delL n l := rfl
theorem del_ins_lt (x : α) : ∀ (l : List α) (n m : Nat), n < m → m ≤ l.length → delL n (insL m x l) = insL (m - 1) x (delL n l)
  | [], n, m, h, hm => by simp at hm; omega
  | a :: l, 0, m + 1, _, _ => rfl
  | a :: l, n + 1, m + 1, h, hm => by
    have hm' : m ≤ l.length := by simpa using hm
    obtain ⟨k, rfl⟩ : ∃ k, m = k + 1 := ⟨m - 1, by omega⟩
    rw [insL_succ, delL_succ, del_ins_lt x l n (k + 1) (by omega) hm', delL_succ]
    rfl
theorem del_ins_ge (x : α) : ∀ (l : List α) (n m : Nat), m ≤ n → n < l.length → delL (n + 1) (insL m x l) = insL m x (delL n l)
  | [], n, m, h, hm => by simp at hm
  | a :: l, n, 0, _, _ => rfl
  | a :: l, n + 1, m + 1, h, hm => by
    have hm' : n < l.length := by simpa using hm
    rw [insL_succ, delL_succ, del_ins_ge x l n m (by omega) hm', delL_succ, insL_succ]
theorem del_set_lt (K : α) : ∀ (l : List α) (i j : Nat), i < j → delL i (l.set j K) = (delL i l).set (j - 1) K
  | [], i, j, h => by simp [delL]
  | a :: l, 0, j + 1, _ => rfl
  | a :: l, i + 1, j + 1, h => by
    obtain ⟨k, rfl⟩ : ∃ k, j = k + 1 := ⟨j - 1, by omega⟩
    rw [List.set_cons_succ, delL_succ, del_set_lt K l i (k + 1) (by omega), delL_succ]
    rfl
theorem del_set_gt (K : α) : ∀ (l : List α) (i j : Nat), j < i → delL i (l.set j K) = (delL i l).set j K
  | [], i, j, h => by simp [delL]
  | a :: l, i + 1, 0, h => rfl
  | a :: l, i + 1, j + 1, h => by
    rw [List.set_cons_succ, delL_succ, del_set_gt K l i j (by omega), delL_succ, List.set_cons_succ]
theorem ins_set_lt (x K : α) : ∀ (l : List α) (m k : Nat), k < m → (insL m x l).set k K = insL m x (l.set k K) ∨ l.length ≤ k
  | [], m, k, h => .inr (by simp)
  | a :: l, m + 1, 0, _ => .inl rfl
  | a :: l, m + 1, k + 1, h => by
    rcases ins_set_lt x K l m k (by omega) with h1 | h1
    · left
      rw [insL_succ, List.set_cons_succ, h1, List.set_cons_succ, insL_succ]
    · right
      simpa using h1
theorem ins_set_ge (x K : α) : ∀ (l : List α) (m k : Nat), m ≤ k → (insL m x l).set (k + 1) K = insL m x (l.set k K)
  | [], m, k, h => by cases m <;> simp [insL]
  | a :: l, 0, k, _ => rfl
  | a :: l, m + 1, k + 1, h => by
    rw [insL_succ, List.set_cons_succ, ins_set_ge x K l m k (by omega), List.set_cons_succ, insL_succ]
theorem ins_get_lt (x : α) : ∀ (l : List α) (m k : Nat), k < m → k < l.length → (insL m x l)[k]? = l[k]?
  | [], m, k, h, hk => by simp at hk
  | a :: l, m + 1, 0, _, _ => rfl
  | a :: l, m + 1, k + 1, h, hk => by
    rw [insL_succ, List.getElem?_cons_succ, List.getElem?_cons_succ]
    exact ins_get_lt x l m k (by omega) (by simpa using hk)
theorem ins_get_ge (x : α) : ∀ (l : List α) (m k : Nat), m ≤ k → m ≤ l.length → (insL m x l)[k + 1]? = l[k]?
  | [], m, k, h, hm => by
    have : m = 0 := by simpa using hm
    subst this
    simp [insL]
  | a :: l, 0, k, _, _ => rfl
  | a :: l, m + 1, k + 1, h, hm => by
    rw [insL_succ, List.getElem?_cons_succ, List.getElem?_cons_succ]
    exact ins_get_ge x l m k (by omega) (by simpa using hm)
end
theorem insT_eq (at_ : Int) (x y : Tree) : insT at_ x y = y.withSubs (insL at_.toNat x y.subs) := rfl
theorem delT_eq (i : Int) (y : Tree) : delT i y = y.withSubs (delL i.toNat y.subs) := rfl
theorem withSubs_withSubs (t : Tree) (a b : List Tree) : (t.withSubs a).withSubs b = t.withSubs b := by cases t; rfl

/-! ### Without a node -/
def withoutT (t : Tree) (p : List Int) : Tree := changeT (delT (lastP p)) t p.dropLast
theorem lastP_cons {p : List Int} (k : Int) (h : p ≠ []) : lastP (k :: p) = lastP p := by
  rw [← lastP_eq (by simp), ← lastP_eq h, List.getLast_cons h]
theorem without_one (t : Tree) (i : Int) : withoutT t [i] = delT i t := rfl
theorem without_cons (t : Tree) (k : Int) {p : List Int} (h : p ≠ []) {s : Tree} (hs : subT t k = some s) : withoutT t (k :: p) = t.withSubs (t.subs.set k.toNat (withoutT s p)) := by
  unfold withoutT
  rw [lastP_cons k h, List.dropLast_cons_of_ne_nil h, changeT, hs]
theorem change_cons (F : Tree → Tree) (t : Tree) (k : Int) (p : List Int) {s : Tree} (hs : subT t k = some s) : changeT F t (k :: p) = t.withSubs (t.subs.set k.toNat (changeT F s p)) := by
  rw [changeT, hs]

/-- A node's path, when another one has been put at a gap. -/
def liftP (to : List Int) (at_ : Int) (fr : List Int) : List Int :=
  bif decide (to.length < fr.length) && (within to fr && decide (at_ ≤ fr.getD to.length 0)) then fr.set to.length (fr.getD to.length 0 + 1) else fr
theorem lift_cons (k at_ : Int) (to fr : List Int) : liftP (k :: to) at_ (k :: fr) = k :: liftP to at_ fr := by
  unfold liftP
  rw [within_cons]
  simp only [decide_true, Bool.true_and, List.length_cons, Nat.add_lt_add_iff_right, List.getD_cons_succ, List.set_cons_succ]
  cases (decide (to.length < fr.length) && (within to fr && decide (at_ ≤ fr.getD to.length 0))) <;> rfl
theorem lift_other {k j : Int} (at_ : Int) (to fr : List Int) (h : j ≠ k) : liftP (j :: to) at_ (k :: fr) = k :: fr := by
  unfold liftP
  rw [within_cons, decide_eq_false h]
  simp
theorem lift_nil (k at_ : Int) (fr : List Int) : liftP [] at_ (k :: fr) = (bif decide (at_ ≤ k) then k + 1 else k) :: fr := by
  unfold liftP
  rw [within_nil]
  by_cases h : at_ ≤ k <;> simp [h]
theorem lift_short (i j at_ : Int) (to : List Int) : liftP (j :: to) at_ [i] = [i] := by
  unfold liftP
  simp

/-- Put in first, then taken out where it stands now: as taken out first, then put in. -/
theorem move_law {at_ : Int} (h0 : 0 ≤ at_) (x : Tree) : ∀ (fr to : List Int) (t s z : Tree), fr ≠ [] → atT t fr = some s → within fr to = false → atT t to = some z → at_ ≤ z.subs.length →
    withoutT (changeT (insT at_ x) t to) (liftP to at_ fr) = changeT (insT (landT fr.dropLast (lastP fr) to at_).2 x) (withoutT t fr) (landT fr.dropLast (lastP fr) to at_).1
  | [], _, _, _, _, h, _, _, _, _ => absurd rfl h
  | [i], [], t, s, z, _, hs, hw, hz, hat => by
    rw [atT] at hz
    injection hz with hz
    subst hz
    rw [atT] at hs
    cases hu : subT t i with
    | none => rw [hu] at hs; cases hs
    | some u =>
    obtain ⟨hi, hsi, _⟩ := subT_some hu
    have hil := lt_of_get hsi
    rw [lift_nil, without_one, without_one]
    show delT _ (insT at_ x t) = _
    have e : landT ([i] : List Int).dropLast (lastP [i]) [] at_ = (bif decide (i < at_) then ([], at_ - 1) else ([], at_)) := by
      unfold landT lastP
      by_cases h : i < at_ <;> simp [h, within_nil]
    rw [e]
    by_cases h : i < at_
    · rw [decide_eq_true h, decide_eq_false (by omega : ¬ at_ ≤ i)]
      simp only [cond_true, cond_false]
      show _ = insT (at_ - 1) x (delT i t)
      rw [insT_eq, insT_eq, delT_eq, delT_eq, withSubs_subs, withSubs_subs, withSubs_withSubs, withSubs_withSubs, del_ins_lt x t.subs i.toNat at_.toNat (by omega) (by omega)]
      congr 2
      omega
    · rw [decide_eq_false h, decide_eq_true (by omega : at_ ≤ i)]
      simp only [cond_true, cond_false]
      show _ = insT at_ x (delT i t)
      rw [insT_eq, insT_eq, delT_eq, delT_eq, withSubs_subs, withSubs_subs, withSubs_withSubs, withSubs_withSubs]
      have : (i + 1).toNat = i.toNat + 1 := by omega
      rw [this, del_ins_ge x t.subs i.toNat at_.toNat (by omega) (by omega)]
  | [i], j :: to, t, s, z, _, hs, hw, hz, hat => by
    rw [atT] at hs hz
    cases hu : subT t i with
    | none => rw [hu] at hs; cases hs
    | some u =>
    cases hv : subT t j with
    | none => rw [hv] at hz; cases hz
    | some v =>
    obtain ⟨hi, hsi, _⟩ := subT_some hu
    obtain ⟨hj, hsj, _⟩ := subT_some hv
    have hil := lt_of_get hsi
    have hjl := lt_of_get hsj
    have hji : j ≠ i := by
      rintro rfl
      simp [within] at hw
    rw [lift_short, without_one, without_one, change_cons _ _ _ _ hv]
    have e : landT ([i] : List Int).dropLast (lastP [i]) (j :: to) at_ = (bif decide (i < j) then ((j - 1) :: to, at_) else (j :: to, at_)) := by
      unfold landT lastP
      simp [within_nil]
    rw [e]
    by_cases h : i < j
    · rw [decide_eq_true h]
      simp only [cond_true]
      have hv' : subT (delT i t) (j - 1) = some v := by
        unfold delT
        rw [subT_with _ _ _ (by omega), List.getElem?_append_right (by simp; omega), List.getElem?_drop, ← hsj]
        congr 1
        simp
        omega
      rw [change_cons _ _ _ _ hv', delT_eq, delT_eq, withSubs_withSubs, withSubs_withSubs, withSubs_subs, withSubs_subs, del_set_lt _ _ _ _ (by omega)]
      congr 2
      omega
    · rw [decide_eq_false h]
      simp only [cond_false]
      have hv' : subT (delT i t) j = some v := by
        unfold delT
        rw [subT_with _ _ _ hj, List.getElem?_append_left (by simp; omega), List.getElem?_take, if_pos (by omega), hsj]
      rw [change_cons _ _ _ _ hv', delT_eq, delT_eq, withSubs_withSubs, withSubs_withSubs, withSubs_subs, withSubs_subs, del_set_gt _ _ _ _ (by omega)]
  | k :: k2 :: q, [], t, s, z, _, hs, hw, hz, hat => by
    rw [atT] at hz
    injection hz with hz
    subst hz
    rw [atT] at hs
    cases hu : subT t k with
    | none => rw [hu] at hs; cases hs
    | some u =>
    obtain ⟨hk, hsk, _⟩ := subT_some hu
    have hkl := lt_of_get hsk
    rw [lift_nil, List.dropLast_cons_of_ne_nil (by simp), landT_top]
    show withoutT (insT at_ x t) _ = insT at_ x (withoutT t _)
    rw [without_cons t k (by simp) hu]
    by_cases h : at_ ≤ k
    · rw [decide_eq_true h]
      simp only [cond_true]
      have e : (k + 1).toNat = k.toNat + 1 := by omega
      have hu' : subT (insT at_ x t) (k + 1) = some u := by
        rw [insT_eq, subT_with _ _ _ (by omega), e, ins_get_ge _ _ _ _ (by omega) (by omega), hsk]
      rw [without_cons _ _ (by simp) hu', insT_eq, insT_eq, withSubs_withSubs, withSubs_withSubs, withSubs_subs, withSubs_subs, e, ins_set_ge _ _ _ _ _ (by omega)]
    · rw [decide_eq_false h]
      simp only [cond_false]
      have hu' : subT (insT at_ x t) k = some u := by
        rw [insT_eq, subT_with _ _ _ hk, ins_get_lt _ _ _ _ (by omega) hkl, hsk]
      rw [without_cons _ _ (by simp) hu', insT_eq, insT_eq, withSubs_withSubs, withSubs_withSubs, withSubs_subs, withSubs_subs, (ins_set_lt x _ t.subs at_.toNat k.toNat (by omega)).resolve_right (by omega)]
  | k :: k2 :: q, j :: to, t, s, z, _, hs, hw, hz, hat => by
    rw [atT] at hs hz
    cases hu : subT t k with
    | none => rw [hu] at hs; cases hs
    | some u =>
    rw [hu] at hs
    simp only at hs
    obtain ⟨hk, hsk, _⟩ := subT_some hu
    have hkl := lt_of_get hsk
    rw [List.dropLast_cons_of_ne_nil (by simp), lastP_cons k (by simp)]
    rw [without_cons t k (by simp) hu]
    by_cases h : k = j
    · subst h
      rw [hu] at hz
      simp only at hz
      rw [within_cons] at hw
      simp only [decide_true, Bool.true_and] at hw
      have ih := move_law h0 x (k2 :: q) to u s z (by simp) hs hw hz hat
      have hle : liftP to at_ (k2 :: q) ≠ [] := by
        unfold liftP
        cases (decide (to.length < (k2 :: q).length) && (within to (k2 :: q) && decide (at_ ≤ (k2 :: q).getD to.length 0))) with
        | false => simp
        | true => intro hh; have := congrArg List.length hh; simp at this
      rw [lift_cons, landT_cons, change_cons _ _ _ _ hu]
      have hu1 : subT (t.withSubs (t.subs.set k.toNat (changeT (insT at_ x) u to))) k = some (changeT (insT at_ x) u to) := by
        rw [subT_with _ _ _ hk, List.getElem?_set_self hkl]
      have hu2 : subT (t.withSubs (t.subs.set k.toNat (withoutT u (k2 :: q)))) k = some (withoutT u (k2 :: q)) := by
        rw [subT_with _ _ _ hk, List.getElem?_set_self hkl]
      rw [without_cons _ _ hle hu1, change_cons _ _ _ _ hu2, withSubs_withSubs, withSubs_withSubs, withSubs_subs, withSubs_subs, List.set_set, List.set_set, ih]
    · cases hv : subT t j with
      | none => rw [hv] at hz; cases hz
      | some v =>
      obtain ⟨hj, hsj, _⟩ := subT_some hv
      rw [lift_other _ _ _ (fun e => h e.symm), landT_other h, change_cons _ _ _ _ hv]
      have hne : k.toNat ≠ j.toNat := by omega
      have hu1 : subT (t.withSubs (t.subs.set j.toNat (changeT (insT at_ x) v to))) k = some u := by
        rw [subT_with _ _ _ hk, List.getElem?_set_ne (fun e => hne e.symm), hsk]
      have hv1 : subT (t.withSubs (t.subs.set k.toNat (withoutT u (k2 :: q)))) j = some v := by
        rw [subT_with _ _ _ hj, List.getElem?_set_ne hne, hsj]
      rw [without_cons _ _ (by simp) hu1, change_cons _ _ _ _ hv1, withSubs_withSubs, withSubs_withSubs, withSubs_subs, withSubs_subs, List.set_comm _ _ (fun e => hne e.symm)]
end Bow
/- SP11: an attribute set, in plain Lean. -/
namespace Bow
open Go

/-! ### The order of texts -/
theorem cmp_less : ∀ a b : List UInt8, Lib.compareBytes a b < 0 ↔ Op.bytesLess a b = true
  | [], [] => by simp [Lib.compareBytes, Op.bytesLess]
  | [], _ :: _ => by simp [Lib.compareBytes, Op.bytesLess]
  | _ :: _, [] => by simp [Lib.compareBytes, Op.bytesLess]
  | x :: a, y :: b => by
    have ih := cmp_less a b
    unfold Lib.compareBytes Op.bytesLess
    by_cases h1 : x < y
    · simp [h1]
    · by_cases h2 : y < x
      · have : x ≠ y := fun e => by subst e; exact h1 h2
        simp [h1, h2, this]
      · have : x = y := UInt8.le_antisymm (UInt8.not_lt.1 h2) (UInt8.not_lt.1 h1)
        subst this
        simp only [h1, if_false, decide_false, beq_self_eq_true, Bool.true_and, Bool.false_or]
        exact ih
theorem cmp_zero : ∀ a b : List UInt8, Lib.compareBytes a b = 0 ↔ a = b
  | [], [] => by simp [Lib.compareBytes]
  | [], _ :: _ => by simp [Lib.compareBytes]
  | _ :: _, [] => by simp [Lib.compareBytes]
  | x :: a, y :: b => by
    have ih := cmp_zero a b
    unfold Lib.compareBytes
    by_cases h1 : x < y
    · have : x ≠ y := fun e => by subst e; exact UInt8.lt_irrefl x h1
      simp [h1, this]
    · by_cases h2 : y < x
      · have : x ≠ y := fun e => by subst e; exact h1 h2
        simp [h1, h2, this]
      · have : x = y := UInt8.le_antisymm (UInt8.not_lt.1 h2) (UInt8.not_lt.1 h1)
        subst this
        simp only [h1, if_false, ih, List.cons.injEq, true_and]
theorem less_irrefl (a : List UInt8) : Op.bytesLess a a = false := by
  cases h : Op.bytesLess a a with
  | false => rfl
  | true =>
    have h1 := (cmp_less a a).2 h
    have h2 := (cmp_zero a a).2 rfl
    omega
theorem less_trans : ∀ {a b c : List UInt8}, Op.bytesLess a b = true → Op.bytesLess b c = true → Op.bytesLess a c = true
  | _, [], _, h, _ => by unfold Op.bytesLess at h; simp at h
  | _, _ :: _, [], _, h => by unfold Op.bytesLess at h; simp at h
  | [], _ :: _, _ :: _, _, _ => by unfold Op.bytesLess; rfl
  | x :: a, y :: b, z :: c, h, k => by
    unfold Op.bytesLess at h k ⊢
    simp only [Bool.or_eq_true, decide_eq_true_eq, Bool.and_eq_true, beq_iff_eq] at h k ⊢
    rcases h with h | ⟨rfl, h⟩ <;> rcases k with k | ⟨rfl, k⟩
    · exact .inl (UInt8.lt_trans h k)
    · exact .inl h
    · exact .inl k
    · exact .inr ⟨rfl, less_trans h k⟩
theorem less_tri : ∀ {a b : List UInt8}, Op.bytesLess a b = false → Op.bytesLess b a = false → a = b
  | [], [], _, _ => rfl
  | [], _ :: _, h, _ => by unfold Op.bytesLess at h; simp at h
  | _ :: _, [], _, h => by unfold Op.bytesLess at h; simp at h
  | x :: a, y :: b, h, k => by
    unfold Op.bytesLess at h k
    simp only [Bool.or_eq_false_iff, decide_eq_false_iff_not, Bool.and_eq_false_iff, beq_eq_false_iff_ne] at h k
    have e : x = y := UInt8.le_antisymm (UInt8.not_lt.1 k.1) (UInt8.not_lt.1 h.1)
    subst e
    rw [less_tri (h.2.resolve_left fun q => q rfl) (k.2.resolve_left fun q => q rfl)]
theorem less_ne {a b : List UInt8} (h : Op.bytesLess a b = true) : a ≠ b := by
  rintro rfl
  rw [less_irrefl] at h
  cases h
theorem less_asymm {a b : List UInt8} (h : Op.bytesLess a b = true) : Op.bytesLess b a = false := by
  cases k : Op.bytesLess b a with
  | false => rfl
  | true =>
    have := less_trans h k
    rw [less_irrefl] at this
    cases this

/-! ### Attributes in order -/
theorem ordOk_less {k s : List UInt8} (h : ordOk (some k) s = true) : Op.bytesLess k s = true := by
  unfold ordOk leS at h
  simp only [Bool.not_eq_true', Bool.or_eq_false_iff, decide_eq_false_iff_not] at h
  cases hk : Op.bytesLess k s with
  | true => rfl
  | false => exact absurd (less_tri h.1 hk) h.2
theorem attrs_behind : ∀ {l : List (List UInt8 × List UInt8)} {k : List UInt8}, attrsOk (some k) l = true → ∀ a ∈ l, Op.bytesLess k a.1 = true
  | [], _, _, a, h => by cases h
  | b :: l, k, h, a, ha => by
    rw [attrsOk, Bool.and_eq_true] at h
    have h1 : Op.bytesLess k b.1 = true := by
      have := h.1
      unfold attrOk at this
      simp only [Bool.and_eq_true] at this
      exact ordOk_less this.2.2
    rcases List.mem_cons.1 ha with rfl | ha
    · exact h1
    · exact less_trans h1 (attrs_behind h.2 a ha)
theorem attrsOk_tail {k : Option (List UInt8)} {a : List UInt8 × List UInt8} {l : List (List UInt8 × List UInt8)} (h : attrsOk k (a :: l) = true) : attrsOk (some a.1) l = true := by
  rw [attrsOk, Bool.and_eq_true] at h
  exact h.2
/-- How many keys are ahead of one. -/
def posK (k : List UInt8) : List (List UInt8 × List UInt8) → Nat
  | [] => 0
  | a :: l => bif Op.bytesLess a.1 k then posK k l + 1 else 0
theorem pos_le (k : List UInt8) : ∀ l, posK k l ≤ l.length
  | [] => Nat.le_refl _
  | a :: l => by
    rw [posK]
    have := pos_le k l
    cases Op.bytesLess a.1 k with
    | true => simpa using this
    | false => simp
theorem pos_iff (k : List UInt8) : ∀ {l : List (List UInt8 × List UInt8)} {k0 : Option (List UInt8)}, attrsOk k0 l = true → ∀ (h : Nat) (hl : h < l.length), (Op.bytesLess l[h].1 k = true ↔ h < posK k l)
  | a :: l, k0, hs, h, hl => by
    rw [posK]
    cases ha : Op.bytesLess a.1 k with
    | true =>
      cases h with
      | zero => simp [ha]
      | succ h =>
        simp only [cond_true, List.getElem_cons_succ, Nat.add_lt_add_iff_right]
        exact pos_iff k (attrsOk_tail hs) h (by simpa using hl)
    | false =>
      simp only [cond_false, Nat.not_lt_zero, iff_false, Bool.not_eq_true]
      cases h with
      | zero => exact ha
      | succ h =>
        have hl' : h < l.length := by simpa using hl
        have := attrs_behind (attrsOk_tail hs) _ (List.getElem_mem hl')
        simp only [List.getElem_cons_succ]
        cases hb : Op.bytesLess l[h].1 k with
        | false => rfl
        | true =>
          rw [less_trans this hb] at ha
          cases ha
/-- Is there one of that key? -/
def hasK (k : List UInt8) (l : List (List UInt8 × List UInt8)) : Bool := decide (posK k l < l.length) && decide ((l.getD (posK k l) ([], [])).1 = k)
def midA (o : OpT) : List (List UInt8 × List UInt8) := bif o.gone then [] else [(o.key, o.value)]
/-- As the program sets one. -/
def setA (o : OpT) (l : List (List UInt8 × List UInt8)) : List (List UInt8 × List UInt8) := l.take (posK o.key l) ++ (midA o ++ l.drop (posK o.key l + (bif hasK o.key l then 1 else 0)))
/-- As the document sets one. -/
def refA (o : OpT) : Bool → List (List UInt8 × List UInt8) → List (List UInt8 × List UInt8)
  | done, [] => bif done then [] else [(o.key, o.value)]
  | done, a :: l => (bif !done && !Op.bytesLess a.1 o.key then [(o.key, o.value)] else []) ++ ((bif decide (a.1 = o.key) then [] else [a]) ++ refA o (done || !Op.bytesLess a.1 o.key) l)
theorem refA_done (o : OpT) : ∀ {l : List (List UInt8 × List UInt8)}, (∀ a ∈ l, a.1 ≠ o.key) → refA o true l = l
  | [], _ => rfl
  | a :: l, h => by
    rw [refA, decide_eq_false (h a List.mem_cons_self)]
    simp [refA_done o fun b hb => h b (List.mem_cons_of_mem _ hb)]
theorem attr_law (o : OpT) : ∀ {l : List (List UInt8 × List UInt8)} {k0 : Option (List UInt8)}, attrsOk k0 l = true → refA o o.gone l = setA o l
  | [], _, _ => by
    unfold setA midA
    rw [refA]
    simp [posK]
  | a :: l, k0, h => by
    have ih := attr_law o (attrsOk_tail h)
    have hb := attrs_behind (attrsOk_tail h)
    rw [refA]
    cases ha : Op.bytesLess a.1 o.key with
    | true =>
      have hne := less_ne ha
      have e1 : posK o.key (a :: l) = posK o.key l + 1 := by rw [posK, ha]; rfl
      have e2 : hasK o.key (a :: l) = hasK o.key l := by
        unfold hasK
        rw [e1]
        simp
      simp only [Bool.not_true, Bool.and_false, cond_false, List.nil_append, Bool.or_false, decide_eq_false hne]
      rw [ih]
      unfold setA
      rw [e1, e2]
      rw [List.take_succ_cons, Nat.add_right_comm (posK o.key l) 1, List.drop_succ_cons]
      simp
    | false =>
      have e1 : posK o.key (a :: l) = 0 := by rw [posK, ha]; rfl
      simp only [Bool.not_false, Bool.and_true, Bool.or_true]
      by_cases he : a.1 = o.key
      · have e2 : hasK o.key (a :: l) = true := by unfold hasK; rw [e1]; simp [he]
        rw [decide_eq_true he, refA_done o fun b hm e => by
          have := hb b hm
          rw [he, ← e, less_irrefl] at this
          cases this]
        unfold setA midA
        rw [e1, e2]
        cases o.gone <;> rfl
      · have e2 : hasK o.key (a :: l) = false := by unfold hasK; rw [e1]; simp [he]
        have hka : Op.bytesLess o.key a.1 = true := by
          cases hk : Op.bytesLess o.key a.1 with
          | true => rfl
          | false => exact absurd (less_tri ha hk) he
        rw [decide_eq_false he, refA_done o fun b hm e => by
          have := less_trans hka (hb b hm)
          rw [← e, less_irrefl] at this
          cases this]
        unfold setA midA
        rw [e1, e2]
        cases o.gone <;> rfl
end Bow
/- AE41: shifts to the right; a string's comparison. -/
namespace Bow
open Go

section
variable {c : Cx} {E : Env} {T : Heap} {ops : Array Oper} {i : Nat} {rest : List Nat} {k : List Item} {o : Oper}
theorem goes_shr {t t' : TypeId} {x y : Operand} {ik yk : IntKind} {a b : Int} (n : Nat) (ho : lget ops.toList i = some o) (hg : o.guard = none) (hop : o.op = .binOp .shr t x y t') (hx : opd E x = .int ik a) (hy : opd E y = .int yk b) (hb : 0 ≤ b)
    (h : putE c.nt o.dst (.int ik (a / 2 ^ min b.toNat ik.bits)) E False fun E' => evp c n (.inRegion ops rest :: k) E' T) : Goes c (.inRegion ops (i :: rest) :: k) E T := by
  refine goes_opTo n ho hg hop (fun o hop w β H m a hs => ?_) (fun cl h => by cases h) h
  have e1 := rep_int (by have := opd_rep hs x; rwa [hx] at this)
  have e2 := rep_int (by have := opd_rep hs y; rwa [hy] at this)
  refine ⟨_, _, w, β, H, m, ?_, .inl rfl, hs, Fr.refl w β H, .int _ _, List.prefix_refl m⟩
  simp only [execOp, hop, e1, e2, eqGuard, binOp, shift_shr_any _ _ _ _ hb]
  rfl
/-- A nil slice in a box, as own memory. -/
theorem goes_ownBox {todo : List Item} (kb sz : Nat) (hk : lget T kb = some (some (.box [.nilsl]))) (h : Goes c todo E (List.set (T ++ [some (HObj.vec 0 sz [])]) kb (some (HObj.box [.osl (.loc T.length) 0 0 0])))) : Goes c todo E T := by
  rw [lget_eq] at hk
  refine goes_step fun w β H m a b cs0 hs _ _ _ => ?_
  obtain ⟨β', H', k1, k2, k3⟩ := hs.newNil 0 sz none
  have hk2 : (T ++ [some (HObj.vec 0 sz [])])[kb]? = some (some (.box [.nilsl])) := by rw [List.getElem?_append_left (lt_of_get hk)]; exact hk
  obtain ⟨r, hr, hH⟩ := k1.at hk2
  have hob := k1.hrel.obj r _ hH
  have hfr : Fr w β' H' w β' (H'.set r (some ((HObj.box [.osl (.loc T.length) 0 0 0]).conv (m ++ [H.length])))) := Fr.swap hH trivial
  have hrel : HRel w β' (H'.set r (some ((HObj.box [.osl (.loc T.length) 0 0 0]).conv (m ++ [H.length])))) := by
    refine k1.hrel.swap hH trivial ?_
    simp only [HObj.conv]
    cases hβ : β' r with
    | none => trivial
    | nil => rw [hβ] at hob; exact hob
    | blk bb N =>
      rw [hβ] at hob
      obtain ⟨vs, e, q1, q2, q3, q4⟩ := hob
      refine ⟨vs, e, q1, q2, q3, fun i x v hi hv => ?_⟩
      cases i with
      | succ i => simp [V.convL] at hi
      | zero =>
        have h0 := q4 0 .nilsl v rfl hv
        cases h0
        simp only [V.convL] at hi
        injection hi with hi
        subst hi
        exact k3.mono (by rw [← HObj.conv]; exact hfr)
  have hset := k1.setAt (o' := some (.box [.osl (.loc T.length) 0 0 0])) (w' := w) hr (fun o1 e1 => by
      injection e1 with e1
      subst e1
      have hm := hs.mlen
      exact ⟨by show T.length < (m ++ [H.length]).length; simp only [List.length_append, List.length_singleton]; have : m.length = T.length := hm; omega, trivial⟩)
    (fun hm => absurd hm (k1.notD hk2 (by simp))) hfr hrel
  exact ⟨w, β', _, m ++ [H.length], a, todo, ⟨E, _, c.B, c.D⟩, .refl _ _, hset, k2.trans hfr, h⟩
/-- A slot's value, said less closely. -/
theorem goes_wkSlot {todo : List Item} (t : Nat) {v v' : V} (hx : lk E t = v) (hp : v.pureB = true) (hp' : v'.pureB = true) (hw : Wk v v') (h : Goes c todo ((t, v') :: E) T) : Goes c todo E T := by
  refine goes_step fun w β H m a b cs hs _ _ _ => ?_
  have hr := hs.env t
  rw [hx, pure_conv _ _ hp] at hr
  have hr' := hw w β H _ hr
  exact ⟨w, β, H, m, a, todo, ⟨_, _, c.B, c.D⟩, .refl _ _, hs.know (x := v') (by rw [pure_conv _ _ hp']; exact hr'), Fr.refl w β H, h⟩
/-- An own slice, frozen, as one slot holds it; what else names it is of no use from here on. -/
theorem goes_fzSlot {todo : List Item} (t kn : Nat) {g l sz : Nat} {xs : List V} (hx : lk E t = .osl (.loc kn) g 0 l) (hk : lget T kn = some (some (.vec g sz xs))) (hl : l = xs.length) (h : lset T kn none fun T' => Goes c todo ((t, .sl sz xs) :: E) T') : Goes c todo E T := by
  rw [lset_eq] at h
  have hfz : frzAll [lk E t] T False fun vs T' => vs = [.sl sz xs] ∧ T' = T.set kn none := by
    rw [hx]
    simp only [frzAll, fv_eq, frz, frz1, hk, lset_eq]
    exact ⟨trivial, hl, trivial, trivial⟩
  rcases frzAll_sound (F := False) _ _ _ hfz with h' | ⟨vs', T', ⟨rfl, rfl⟩, hto⟩
  · exact h'.elim
  refine goes_step fun w β H m a b cs hs _ _ _ => ?_
  obtain ⟨H1, q1, q2, q3⟩ := hto.2 _ _ _ _ _ _ _ _ _ _ hs
  have hr := q3 0 _ _ _ rfl rfl (hs.env t)
  exact ⟨w, β, H1, m, a, todo, ⟨_, _, c.B, c.D⟩, .refl _ _, q1.know (x := .sl sz xs) (show Rep w β H1 ((V.sl sz xs).conv m) _ from hr), q2, h⟩
end
end Bow
/- W31: the reference's Put, put, drop, change. -/
namespace Bow
open Go Go.Proofs

theorem w_CopiedQ (xs : List V) (hl : xs.length ≤ 1000000) : Fun Tryz.prog 81 [] [.sl 1 xs] (fun x T => x = .osl (.loc 0) 0 0 xs.length ∧ T = [some (.vec 0 1 xs)]) := by
  refine fun_fn 100 Tryz.func81 rfl rfl rfl fun imps B hi => ?_
  have : imps = [] := List.length_eq_zero_iff.1 hi
  subst this
  refine ⟨Nat.le_trans (Nat.mul_le_mul_right _ hl) (by decide), ?_⟩
  exact ⟨trivial, rfl, rfl, rfl, rfl⟩

set_option maxRecDepth 100000 in
theorem w_refPut (x : Tree) : ∀ (p : List Int) (t y : Tree), p.length ≤ 1000000 → t.weight ≤ 1000000 → atT t p = some y → Pure Tryz.prog 79 [nodeV t, pathV p, nodeV x] (fun r => r = .tup [nodeV (changeT (fun _ => x) t p), .tt])
  | [], t, y, _, _, _ => by
    refine pure_fn 300 Tryz.func79 rfl rfl rfl fun B => ?_
    refine ⟨fun g => go 300 ?_, fun g => absurd rfl (ne_of g)⟩
    exact ⟨trivial, rfl, rfl, rfl, rfl⟩
  | i :: p, t, y, hp, ht, hy => by
    rw [atT] at hy
    cases hs : subT t i with
    | none => rw [hs] at hy; cases hy
    | some s =>
    rw [hs] at hy
    simp only at hy
    obtain ⟨hi, hsi, hm⟩ := subT_some hs
    have hil := lt_of_get hsi
    have hsw := weight_sub hm
    have ih := w_refPut x p s y (by simp at hp; omega) (by omega) hy
    refine pure_fn 300 Tryz.func79 rfl rfl rfl fun B => ?_
    refine ⟨fun g => absurd (eq_of g) (by simp; omega), fun g => go 300 ?_⟩
    show Goes _ _ _ _
    refine goes_draw 300 ?_
    refine ⟨Int.le_refl 0, _, rfl, ⟨fun q1 => absurd (lt_of q1) (by omega), fun q1 => ⟨Int.le_refl 0, _, rfl, ?_⟩⟩⟩
    refine ⟨by kernel_rfl, ?_⟩
    refine ⟨fun q2 => absurd (le_of q2) (by simp [subV_eq]; omega), fun q2 => go 300 ?_⟩
    show Goes _ _ _ _
    have hx : t.subV[i.toNat]? = some (nodeV s) := subV_at hsi
    have hil' : i < (t.subV.length : Int) := by rw [subV_len]; omega
    have e : V.sl 1 ((((i :: p).map intV).drop (Int.toNat 1)).take (((((i :: p).map intV).length : Nat) : Int).toNat - Int.toNat 1)) = pathV p := by
      unfold pathV
      rw [List.take_of_length_le (by simp)]
      rfl
    refine goes_draw 300 ⟨Int.le_refl 0, _, rfl, hi, _, hx, by decide, by simp; omega, by omega, .tup [nodeV (changeT (fun _ => x) s p), .tt], ?_, rfl, ?_⟩
    · unfold pathV at e ih
      rw [e]
      exact ih
    refine ⟨by kernel_rfl, ?_⟩
    refine ⟨by kernel_rfl, ?_⟩
    have hsl := subs_le_weight t
    refine ⟨room_of (by rw [subV_len]; omega) (by decide), ?_⟩
    show Goes _ _ _ _
    have hx0 : t.subV[0 + i.toNat]? = some (nodeV s) := by rw [Nat.zero_add]; exact hx
    refine goes_draw 1 ⟨Int.le_refl 0, _, rfl, rfl, hi, hil', rfl, _, hx0, ?_⟩
    refine ⟨by kernel_rfl, ?_⟩
    show Goes _ _ _ _
    refine goes_fzSlot 10 4 rfl rfl (by simp) ?_
    refine go 300 ?_
    refine ⟨trivial, rfl, rfl, rfl, ?_⟩
    rw [changeT, hs]
    simp only
    rw [withSubs_V, ← subV_set, Nat.zero_add]
    rfl
end Bow
/- W32: the reference's put, drop, change, Without. -/
namespace Bow
open Go Go.Proofs

theorem row_ins (t x : Tree) (at_ : Int) : (t.subV.take (at_.toNat - Int.toNat 0 : Nat)).drop 0 ++ [nodeV x] ++ (t.subV.drop at_.toNat).take ((t.subV.length : Int).toNat - at_.toNat) = (t.subs.take at_.toNat ++ x :: t.subs.drop at_.toNat).map nodeV := by
  rw [subV_eq, List.take_of_length_le (l := List.drop _ _) (by simp)]
  simp
theorem row_del (t : Tree) (at_ : Int) (h0 : 0 ≤ at_) : (t.subV.take (at_.toNat - Int.toNat 0 : Nat)).drop 0 ++ (t.subV.drop (at_ + 1).toNat).take ((t.subV.length : Int).toNat - (at_ + 1).toNat) = (t.subs.take at_.toNat ++ t.subs.drop (at_.toNat + 1)).map nodeV := by
  have e : (at_ + 1).toNat = at_.toNat + 1 := by omega
  rw [subV_eq, List.take_of_length_le (l := List.drop _ _) (by simp), e]
  simp

set_option maxRecDepth 100000 in
theorem w_refputs (t x : Tree) (at_ : Int) (ht : t.weight ≤ 1000000) (h0 : 0 ≤ at_) (h1 : at_ ≤ t.subs.length) : Pure Tryz.prog 50 [nodeV t, .int .i64 at_, nodeV x] (fun r => r = nodeV (insT at_ x t)) := by
  have hsl := subs_le_weight t
  have hl : t.subV.length = t.subs.length := subV_len t
  refine pure_fn 300 Tryz.func50 rfl rfl rfl fun B => ?_
  refine ⟨by decide, h0, by rw [hl]; exact h1, room_of (by simp; omega) (by decide), ?_⟩
  refine ⟨⟨rfl, trivial⟩, ?_⟩
  refine ⟨rfl, rfl, rfl, rfl, room_of (by simp; omega) (by decide), ?_⟩
  refine ⟨h0, by rw [hl]; exact h1, Int.le_refl _, rfl, ?_, room_of (by simp; omega) (by decide), ?_⟩
  · simp
  refine ⟨trivial, rfl, rfl, rfl, by simp only [List.length_append], rfl, ?_⟩
  rw [insT, withSubs_V, ← row_ins]
  rfl

set_option maxRecDepth 100000 in
theorem w_refdrop (t : Tree) (at_ : Int) (ht : t.weight ≤ 1000000) (h0 : 0 ≤ at_) (h1 : at_ < t.subs.length) : Pure Tryz.prog 80 [nodeV t, .int .i64 at_] (fun r => r = nodeV (delT at_ t)) := by
  have hsl := subs_le_weight t
  have hl : t.subV.length = t.subs.length := subV_len t
  refine pure_fn 300 Tryz.func80 rfl rfl rfl fun B => ?_
  refine ⟨by decide, h0, by rw [hl]; omega, room_of (by simp; omega) (by decide), ?_⟩
  refine ⟨⟨by omega, by omega⟩, by omega, by rw [hl]; omega, Int.le_refl _, rfl, by simp, room_of (by simp; omega) (by decide), ?_⟩
  refine ⟨trivial, rfl, rfl, rfl, by simp [List.length_append], rfl, ?_⟩
  rw [delT, withSubs_V, ← row_del _ _ h0]
  rfl

set_option maxRecDepth 100000 in
theorem w_refchange (t x y : Tree) (p : List Int) (hp : p.length ≤ 1000000) (ht : t.weight ≤ 1000000) (hy : atT t p = some y) : Pure Tryz.prog 49 [nodeV t, pathV p, nodeV x] (fun r => r = nodeV (changeT (fun _ => x) t p)) := by
  refine pure_fn 300 Tryz.func49 rfl rfl rfl fun B => ?_
  show CallThen _ _ _ _ _ _
  refine call_pure (w_refPut x p t y hp ht hy) rfl ?_
  rintro z rfl
  exact ⟨trivial, rfl, rfl, rfl, rfl⟩

theorem change_const {F : Tree → Tree} {y : Tree} : ∀ {p : List Int} {t : Tree}, atT t p = some y → changeT (fun _ => F y) t p = changeT F t p
  | [], t, h => by
    rw [atT] at h
    injection h with h
    subst h
    rfl
  | i :: p, t, h => by
    rw [atT] at h
    cases hs : subT t i with
    | none => rw [hs] at h; cases h
    | some s =>
      rw [hs] at h
      rw [changeT, changeT, hs]
      simp only
      rw [change_const (p := p) h]

set_option maxRecDepth 100000 in
theorem w_refWithout (t x : Tree) (p : List Int) (hp : p.length ≤ 1000000) (hne : p ≠ []) (ht : t.weight ≤ 1000000) (hx : atT t p = some x) : Pure Tryz.prog 51 [nodeV t, pathV p] (fun r => r = nodeV (withoutT t p)) := by
  obtain ⟨y, y1, y2, y3, y4⟩ := at_parent hne hx
  have hlen : 0 < p.length := List.length_pos_iff.2 hne
  have hyw := atT_weight y1
  refine pure_fn 300 Tryz.func51 rfl rfl rfl fun B => ?_
  refine ⟨by constructor <;> simp <;> omega, by decide, by simp; omega, by simp; omega, ?_⟩
  have e : (List.take ((((p.map intV).length : Int) - 1).toNat - Int.toNat 0) (List.drop (Int.toNat 0) (p.map intV))) = p.dropLast.map intV := by
    rw [List.dropLast_eq_take, List.map_take]
    simp
  show CallThen _ _ _ _ _ _
  rw [e]
  refine call_pure (w_refAt t p.dropLast (by simp; omega)) rfl ?_
  rintro z rfl
  rw [y1]
  show Goes _ _ _ _
  have hg : (p.map intV)[(((p.map intV).length : Int) - 1).toNat]? = some (intV (lastP p)) := by
    have e1 : (((p.map intV).length : Int) - 1).toNat = p.length - 1 := by simp
    rw [e1, List.getElem?_map, ← List.getLast?_eq_getElem?, List.getLast?_eq_some_getLast hne, lastP_eq hne]
    rfl
  have hlast := lastP_eq hne
  refine goes_draw 300 ⟨⟨by simp; omega, by simp; omega⟩, by simp; omega, _, hg, _, w_refdrop y (lastP p) (by omega) (by omega) (by omega), rfl, _, w_refchange t (delT (lastP p) y) y p.dropLast (by simp; omega) ht y1, rfl, ?_⟩
  refine ⟨by kernel_rfl, ?_⟩
  refine ⟨trivial, rfl, rfl, rfl, ?_⟩
  rw [change_const (F := delT (lastP p)) y1]
  rfl
end Bow
/- SP12: a moved node, when it has been put in: it still stands where it stood, or one on; weights. -/
namespace Bow
open Go

theorem at_cons {t s : Tree} {k : Int} (p : List Int) (h : subT t k = some s) : atT t (k :: p) = atT s p := by rw [atT, h]
theorem lift_at {at_ : Int} (h0 : 0 ≤ at_) (x : Tree) : ∀ (fr to : List Int) (t s z : Tree), fr ≠ [] → atT t fr = some s → within fr to = false → atT t to = some z → at_ ≤ z.subs.length →
    ∃ s', atT (changeT (insT at_ x) t to) (liftP to at_ fr) = some s'
  | [], _, _, _, _, h, _, _, _, _ => absurd rfl h
  | k :: q, [], t, s, z, _, hs, hw, hz, hat => by
    rw [atT] at hz
    injection hz with hz
    subst hz
    rw [atT] at hs
    cases hu : subT t k with
    | none => rw [hu] at hs; cases hs
    | some u =>
    rw [hu] at hs
    obtain ⟨hk, hsk, _⟩ := subT_some hu
    have hkl := lt_of_get hsk
    rw [lift_nil]
    show ∃ s', atT (insT at_ x t) _ = some s'
    by_cases h : at_ ≤ k
    · rw [decide_eq_true h]
      simp only [cond_true]
      have e : (k + 1).toNat = k.toNat + 1 := by omega
      have hu' : subT (insT at_ x t) (k + 1) = some u := by
        rw [insT_eq, subT_with _ _ _ (by omega), e, ins_get_ge _ _ _ _ (by omega) (by omega), hsk]
      exact ⟨s, by rw [at_cons _ hu']; exact hs⟩
    · rw [decide_eq_false h]
      simp only [cond_false]
      have hu' : subT (insT at_ x t) k = some u := by
        rw [insT_eq, subT_with _ _ _ hk, ins_get_lt _ _ _ _ (by omega) hkl, hsk]
      exact ⟨s, by rw [at_cons _ hu']; exact hs⟩
  | k :: q, j :: to, t, s, z, _, hs, hw, hz, hat => by
    rw [atT] at hs hz
    cases hu : subT t k with
    | none => rw [hu] at hs; cases hs
    | some u =>
    rw [hu] at hs
    simp only at hs
    obtain ⟨hk, hsk, _⟩ := subT_some hu
    have hkl := lt_of_get hsk
    by_cases h : k = j
    · subst h
      rw [hu] at hz
      simp only at hz
      rw [within_cons] at hw
      simp only [decide_true, Bool.true_and] at hw
      have hq : q ≠ [] := by
        rintro rfl
        rw [within_nil] at hw
        cases hw
      obtain ⟨s', ih⟩ := lift_at h0 x q to u s z hq hs hw hz hat
      rw [lift_cons, change_cons _ _ _ _ hu]
      have hu1 : subT (t.withSubs (t.subs.set k.toNat (changeT (insT at_ x) u to))) k = some (changeT (insT at_ x) u to) := by
        rw [subT_with _ _ _ hk, List.getElem?_set_self hkl]
      exact ⟨s', by rw [at_cons _ hu1]; exact ih⟩
    · cases hv : subT t j with
      | none => rw [hv] at hz; cases hz
      | some v =>
      obtain ⟨hj, hsj, _⟩ := subT_some hv
      rw [lift_other _ _ _ (fun e => h e.symm), change_cons _ _ _ _ hv]
      have hne : k.toNat ≠ j.toNat := by omega
      have hu1 : subT (t.withSubs (t.subs.set j.toNat (changeT (insT at_ x) v to))) k = some u := by
        rw [subT_with _ _ _ hk, List.getElem?_set_ne (fun e => hne e.symm), hsk]
      exact ⟨s, by rw [at_cons _ hu1]; exact hs⟩

theorem weights_set_add {s u : Tree} {n : Nat} : ∀ {l : List Tree} {i : Nat}, l[i]? = some s → u.weight ≤ s.weight + n → weights (l.set i u) ≤ weights l + n
  | [], i, h, _ => by simp at h
  | x :: l, 0, h, hu => by
    simp at h
    subst h
    rw [List.set_cons_zero, weights, weights]
    omega
  | x :: l, i + 1, h, hu => by
    simp at h
    have := weights_set_add (l := l) h hu
    rw [List.set_cons_succ, weights, weights]
    omega
theorem change_weight_add {F : Tree → Tree} {n : Nat} (hF : ∀ y, (F y).weight ≤ y.weight + n) : ∀ (p : List Int) (t : Tree), (changeT F t p).weight ≤ t.weight + n
  | [], t => hF t
  | i :: p, t => by
    rw [changeT]
    cases hs : subT t i with
    | none => simp only; omega
    | some s =>
      have ih := change_weight_add hF p s
      have h := weights_set_add (subT_some hs).2.1 ih
      have := withSubs_weight t (t.subs.set i.toNat (changeT F s p))
      simp only
      omega
theorem ins_weight (at_ : Int) (x y : Tree) : (insT at_ x y).weight ≤ y.weight + x.weight := by
  have h1 := withSubs_weight y (y.subs.take at_.toNat ++ x :: y.subs.drop at_.toNat)
  have h2 : weights (y.subs.take at_.toNat ++ x :: y.subs.drop at_.toNat) = weights y.subs + x.weight := by
    conv => rhs; rw [← List.take_append_drop at_.toNat y.subs]
    rw [weights_append, weights_append, weights]
    omega
  unfold insT
  omega
theorem lift_len (to : List Int) (at_ : Int) (fr : List Int) : (liftP to at_ fr).length = fr.length := by
  unfold liftP
  cases (decide (to.length < fr.length) && (within to fr && decide (at_ ≤ fr.getD to.length 0))) <;> simp
theorem moveT_eq (x t : Tree) (o : OpT) : moveT x t o = changeT (insT (landT o.path.dropLast (lastP o.path) o.to o.at_).2 x) (withoutT t o.path) (landT o.path.dropLast (lastP o.path) o.to o.at_).1 := rfl
end Bow
/- SP13: what becomes of a tree, in plain Lean; what is known of a valid operation. -/
namespace Bow
open Go

abbrev AttrL := List (List UInt8 × List UInt8)
def Tree.withAttrs : Tree → AttrL → Tree
  | .mk i l b _ c ss, a => .mk i l b a c ss
def setAT (o : OpT) (y : Tree) : Tree := y.withAttrs (setA o y.attrs)
/-- What an operation that is valid makes of a tree. -/
def applyT (t : Tree) (o : OpT) : Tree :=
  bif decide (o.kind = 1) then changeT (insT o.at_ (freshT o)) t o.path
  else bif decide (o.kind = 2) then withoutT t o.path
  else bif decide (o.kind = 3) then (match atT t o.path with | some x => moveT x t o | none => t)
  else bif decide (o.kind = 4) then changeT (setAT o) t o.path
  else bif decide (o.kind = 5) then changeT (relabelT o.label) t o.path
  else changeT (retextT o.pieces) t o.path
def applyR (t : Tree) (o : OpT) : Tree × Int := bif decide (ValidE t o = 0) then (applyT t o, 0) else (.mk 0 false [] [] [] [], ValidE t o)

theorem right_sub {t s : Tree} {i : Int} (ht : t.rightA = true) (h : subT t i = some s) : s.rightA = true := by
  rw [rightA_eq, Bool.and_eq_true, rightsA_all] at ht
  exact List.all_eq_true.1 ht.2 s (subT_some h).2.2
theorem right_at {y : Tree} : ∀ {p : List Int} {t : Tree}, t.rightA = true → atT t p = some y → y.rightA = true
  | [], t, ht, h => by
    rw [atT] at h
    injection h with h
    subst h
    exact ht
  | i :: p, t, ht, h => by
    rw [atT] at h
    cases hs : subT t i with
    | none => rw [hs] at h; cases h
    | some s =>
      rw [hs] at h
      exact right_at (p := p) (right_sub ht hs) h
theorem right_attrs {y : Tree} (h : y.rightA = true) : attrsOk none y.attrs = true := by
  rw [rightA_eq, Bool.and_eq_true] at h
  have := h.1
  unfold rightN at this
  rw [Bool.and_eq_true] at this
  exact this.2

/-- What is known of an operation that is valid. -/
inductive GoodO (t : Tree) (o : OpT) : Prop
  | ins (y) (hk : o.kind = 1) (hy : atT t o.path = some y) (hl : y.leaf = false) (h0 : 0 ≤ o.at_) (h1 : o.at_ ≤ y.subs.length) (h2 : o.label.length ≤ 64) : GoodO t o
  | del (x) (hk : o.kind = 2) (hne : o.path ≠ []) (hx : atT t o.path = some x) : GoodO t o
  | mov (x z) (hk : o.kind = 3) (hne : o.path ≠ []) (hx : atT t o.path = some x) (hw : within o.path o.to = false) (hz : atT t o.to = some z) (hl : z.leaf = false) (h0 : 0 ≤ o.at_) (h1 : o.at_ ≤ z.subs.length) : GoodO t o
  | att (y) (hk : o.kind = 4) (hy : atT t o.path = some y) (h1 : keyOk o.key = true) (h2 : o.gone = true ∨ o.value.length ≤ 256) : GoodO t o
  | lab (y) (hk : o.kind = 5) (hy : atT t o.path = some y) (h2 : o.label.length ≤ 64) : GoodO t o
  | edt (y) (hk : o.kind = 6) (hy : atT t o.path = some y) (hl : y.leaf = true) (he : (applyE y.text o.pieces).2 = 0) : GoodO t o

theorem into_zero {y : Tree} {n : Int} (h : intoE y n = 0) : y.leaf = false ∧ n ≤ y.subs.length := by
  unfold intoE at h
  cases hl : y.leaf with
  | true => rw [hl] at h; cases h
  | false =>
    rw [hl] at h
    by_cases hn : (y.subs.length : Int) < n
    · rw [decide_eq_true hn] at h; cases h
    · exact ⟨rfl, by omega⟩
theorem valid_right {t : Tree} {o : OpT} (h : ValidE t o = 0) : rightT t = true ∧ formedB o = true ∧ validE t o = 0 := by
  unfold ValidE at h
  cases hr : rightT t with
  | false => rw [hr] at h; cases h
  | true =>
    cases hf : formedB o with
    | false => rw [hr, hf] at h; cases h
    | true => rw [hr, hf] at h; exact ⟨rfl, rfl, h⟩
theorem formed_path {o : OpT} (h : formedB o = true) : mayP o.path = true := by
  unfold formedB at h
  rw [Bool.and_eq_true] at h
  exact h.1
theorem may_step {p : List Int} (h : mayP p = true) : ∀ i ∈ p, 0 ≤ i ∧ i ≤ 1048576 := by
  unfold mayP at h
  rw [Bool.and_eq_true] at h
  intro i hi
  have := List.all_eq_true.1 h.2 i hi
  unfold stepOk at this
  simp only [Bool.and_eq_true, decide_eq_true_eq] at this
  omega
theorem good_of {t : Tree} {o : OpT} (h : ValidE t o = 0) : GoodO t o := by
  obtain ⟨hr, hf, hv⟩ := valid_right h
  have hk : o.kind = 1 ∨ o.kind = 2 ∨ o.kind = 3 ∨ o.kind = 4 ∨ o.kind = 5 ∨ o.kind = 6 := by
    unfold formedB at hf
    rw [Bool.and_eq_true] at hf
    have h2 := hf.2
    by_cases e1 : o.kind = 1 <;> by_cases e2 : o.kind = 2 <;> by_cases e3 : o.kind = 3 <;> by_cases e4 : o.kind = 4 <;> by_cases e5 : o.kind = 5 <;> by_cases e6 : o.kind = 6 <;> simp_all
  unfold validE at hv
  unfold formedB at hf
  rw [Bool.and_eq_true] at hf
  have hf2 := hf.2
  by_cases hroot : (decide (o.kind = 2) || decide (o.kind = 3)) && decide (o.path = [])
  · rw [hroot] at hv
    cases hv
  · have hroot : ((decide (o.kind = 2) || decide (o.kind = 3)) && decide (o.path = [])) = false := by simpa using hroot
    rw [hroot] at hv
    simp only [cond_false] at hv
    cases hx : atT t o.path with
    | none => rw [hx] at hv; cases hv
    | some x =>
    rw [hx] at hv
    simp only at hv
    rcases hk with hk | hk | hk | hk | hk | hk
    · simp only [hk] at hv hf2
      obtain ⟨h1, h2⟩ := into_zero hv
      have hf3 : (gapOk o.at_ && decide ((o.label.length : Int) ≤ 64)) = true := hf2
      unfold gapOk at hf3
      simp only [Bool.and_eq_true, decide_eq_true_eq] at hf3
      exact .ins x hk hx h1 hf3.1.1 h2 (by omega)
    · have hne : o.path ≠ [] := by
        intro e
        rw [hk, e] at hroot
        cases hroot
      exact .del x hk hne hx
    · have hne : o.path ≠ [] := by
        intro e
        rw [hk, e] at hroot
        cases hroot
      simp only [hk] at hv hf2
      have hv : (bif within o.path o.to then (84 : Int) else match atT t o.to with | none => 81 | some y => intoE y o.at_) = 0 := hv
      have hf3 : (gapOk o.at_ && mayP o.to) = true := hf2
      unfold gapOk at hf3
      simp only [Bool.and_eq_true, decide_eq_true_eq] at hf3
      cases hw : within o.path o.to with
      | true => rw [hw] at hv; cases hv
      | false =>
        rw [hw] at hv
        cases hz : atT t o.to with
        | none => rw [hz] at hv; cases hv
        | some z =>
          rw [hz] at hv
          obtain ⟨h1, h2⟩ := into_zero hv
          exact .mov x z hk hne hx hw hz h1 hf3.1.1 h2
    · simp only [hk] at hf2
      have hf3 : (keyOk o.key && (o.gone || decide ((o.value.length : Int) ≤ 256))) = true := hf2
      simp only [Bool.and_eq_true, Bool.or_eq_true, decide_eq_true_eq] at hf3
      exact .att x hk hx hf3.1 (hf3.2.imp id fun h => by omega)
    · simp only [hk] at hf2
      have hf3 : decide ((o.label.length : Int) ≤ 64) = true := hf2
      simp only [decide_eq_true_eq] at hf3
      exact .lab x hk hx (by omega)
    · simp only [hk] at hv
      have hv : (bif !x.leaf then (83 : Int) else (applyE x.text o.pieces).2) = 0 := hv
      cases hl : x.leaf with
      | false => rw [hl] at hv; cases hv
      | true => rw [hl] at hv; exact .edt x hk hx hl hv
theorem good_to {o : OpT} (hf : formedB o = true) (hk : o.kind = 3) : mayP o.to = true := by
  unfold formedB at hf
  rw [Bool.and_eq_true] at hf
  have hf2 := hf.2
  simp only [hk] at hf2
  have hf3 : (gapOk o.at_ && mayP o.to) = true := hf2
  rw [Bool.and_eq_true] at hf3
  exact hf3.2
end Bow
/- W33: the reference's attr. -/
namespace Bow
open Go Go.Proofs

theorem withAttrs_V (t : Tree) (a : AttrL) : nodeV (t.withAttrs a) = .agg [.int .u64 t.id, .bool t.leaf, .str t.label, .sl 2 (a.map attrV), .str t.text, .sl 6 t.subV] := by
  cases t
  rfl
theorem attrs_le_weight (t : Tree) : t.attrs.length ≤ t.weight := by rw [weight_eq]; omega

set_option maxHeartbeats 1000000 in
set_option maxRecDepth 100000 in
theorem w_refattr (t : Tree) (o : OpT) (ht : t.weight ≤ 400000) : Pure Tryz.prog 53 [nodeV t, opV o] (fun r => r = nodeV (t.withAttrs (refA o o.gone t.attrs))) := by
  have hal := attrs_le_weight t
  refine pure_fn 300 Tryz.func53 rfl rfl rfl fun B => ?_
  show Goes _ _ _ _
  refine goes_own 5 2 rfl ?_
  refine goes_iter (ι := Nat × Bool × Nat × Nat × List V) (fun i => i.1 ≤ t.attrs.length ∧ ∃ acc : AttrL, i.2.2.2.2 = acc.map attrV ∧ i.2.2.2.1 = acc.length ∧ acc.length ≤ 2 * i.1 ∧ acc ++ refA o i.2.1 (t.attrs.drop i.1) = refA o o.gone t.attrs) (fun i => t.attrs.length - i.1)
    (fun i => [(7, .int .i64 i.1), (6, .bool i.2.1), (5, .osl (.loc 3) i.2.2.1 0 i.2.2.2.1), (2, .ptr (.loc 0) 0), (3, .ptr (.loc 1) 0), (4, .ptr (.loc 2) 0)])
    (fun i => [some (.box (nodeV t).cells), some (.box (opV o).cells), some (.box (zeroV .nilsl).cells), some (.vec i.2.2.1 2 i.2.2.2.2)]) (0, o.gone, 0, 0, []) 300 (fun _ => rfl) (fun _ => rfl) ⟨⟨Nat.zero_le _, [], rfl, rfl, Nat.le_refl _, rfl⟩, ?_, ?_⟩ ?_
  · exact ⟨⟨rfl, rfl⟩, ⟨rfl, rfl⟩, ⟨rfl, rfl⟩, ⟨rfl, rfl⟩, ⟨rfl, rfl⟩, ⟨rfl, rfl⟩, trivial⟩
  · exact ⟨⟨rfl, rfl⟩, ⟨rfl, rfl⟩, ⟨rfl, rfl⟩, ⟨rfl, rfl⟩, trivial⟩
  rintro ⟨i, d, g, n, xs⟩ ⟨k1, acc, rfl, rfl, k2, k3⟩ next
  simp only at k1 k2 k3
  refine ⟨fun hlt => go 300 ?_, fun hge => go 300 ?_⟩
  · have hi : i < t.attrs.length := by simpa using hlt
    have hx : (t.attrs.map attrV)[i]? = some (attrV t.attrs[i]) := by simp [hi]
    rw [drop_cons hi, refA] at k3
    show Goes _ _ _ _
    refine goes_draw 300 ⟨fun q1 => ⟨Int.natCast_nonneg i, _, hx, ?_⟩, fun q1 => ?_⟩
    all_goals refine ⟨by kernel_rfl, ?_⟩
    · have hd : d = false := by simpa using q1
      subst hd
      refine ⟨fun q2 => go 300 ?_, fun q2 => go 300 ?_⟩
      · have hl : Op.bytesLess t.attrs[i].1 o.key = false := by simpa using q2
        rw [hl] at k3
        refine ⟨⟨rfl, trivial⟩, rfl, rfl, rfl, (by simp), room_of (by simp; omega) (by decide), ?_⟩
        show Goes _ _ _ _
        refine goes_draw 300 ⟨Int.natCast_nonneg i, _, hx, ?_⟩
        refine ⟨by kernel_rfl, ?_⟩
        refine ⟨fun q3 => go 300 ?_, fun q3 => go 300 ?_⟩
        · have he : decide (t.attrs[i].1 = o.key) = false := by simpa using q3
          rw [he] at k3
          refine ⟨Int.natCast_nonneg i, _, hx, ⟨rfl, trivial⟩, rfl, rfl, rfl, (by simp), room_of (by simp; omega) (by decide), ?_⟩
          refine ⟨by constructor <;> omega, ?_⟩
          show Goes _ _ _ _
          refine goes_wkSlot 6 (v := .tt) (v' := .bool true) rfl rfl rfl Wk.tt ?_
          refine next (i + 1, true, _, _, _) _ _ ⟨⟨hi, acc ++ [(o.key, o.value)] ++ [t.attrs[i]], ?_, ?_, ?_, ?_⟩, ?_, ⟨⟨rfl, rfl⟩, ⟨rfl, rfl⟩, ⟨rfl, rfl⟩, ⟨rfl, rfl⟩, ⟨rfl, rfl⟩, ⟨rfl, rfl⟩, trivial⟩, ⟨⟨rfl, rfl⟩, ⟨rfl, rfl⟩, ⟨rfl, rfl⟩, ⟨rfl, rfl⟩, trivial⟩⟩
          · simp [attrV]
          · simp
          · simp; omega
          · simpa using k3
          · simp only; omega
        · have he : decide (t.attrs[i].1 = o.key) = true := by simpa using q3
          rw [he] at k3
          refine ⟨by constructor <;> omega, ?_⟩
          show Goes _ _ _ _
          refine goes_wkSlot 6 (v := .tt) (v' := .bool true) rfl rfl rfl Wk.tt ?_
          refine next (i + 1, true, _, _, _) _ _ ⟨⟨hi, acc ++ [(o.key, o.value)], ?_, ?_, ?_, ?_⟩, ?_, ⟨⟨rfl, rfl⟩, ⟨rfl, rfl⟩, ⟨rfl, rfl⟩, ⟨rfl, rfl⟩, ⟨rfl, rfl⟩, ⟨rfl, rfl⟩, trivial⟩, ⟨⟨rfl, rfl⟩, ⟨rfl, rfl⟩, ⟨rfl, rfl⟩, ⟨rfl, rfl⟩, trivial⟩⟩
          · simp [attrV]
          · simp
          · simp; omega
          · simpa using k3
          · simp only; omega
      · have hl : Op.bytesLess t.attrs[i].1 o.key = true := by simpa using q2
        rw [hl] at k3
        show Goes _ _ _ _
        refine goes_draw 300 ⟨Int.natCast_nonneg i, _, hx, ?_⟩
        refine ⟨by kernel_rfl, ?_⟩
        refine ⟨fun q3 => go 300 ?_, fun q3 => go 300 ?_⟩
        · have he : decide (t.attrs[i].1 = o.key) = false := by simpa using q3
          rw [he] at k3
          refine ⟨Int.natCast_nonneg i, _, hx, ⟨rfl, trivial⟩, rfl, rfl, rfl, (by simp), room_of (by simp; omega) (by decide), ?_⟩
          refine ⟨by constructor <;> omega, ?_⟩
          show Goes _ _ _ _
          refine next (i + 1, false, bump g, (acc.map attrV).length + 1, acc.map attrV ++ [attrV t.attrs[i]]) _ _ ⟨⟨hi, acc ++ [t.attrs[i]], ?_, ?_, ?_, ?_⟩, ?_, ⟨⟨rfl, rfl⟩, ⟨rfl, rfl⟩, ⟨rfl, rfl⟩, ⟨rfl, rfl⟩, ⟨rfl, rfl⟩, ⟨rfl, rfl⟩, trivial⟩, ⟨⟨rfl, rfl⟩, ⟨rfl, rfl⟩, ⟨rfl, rfl⟩, ⟨rfl, rfl⟩, trivial⟩⟩
          · simp [attrV]
          · simp
          · simp; omega
          · simpa using k3
          · simp only; omega
        · have he : decide (t.attrs[i].1 = o.key) = true := by simpa using q3
          rw [he] at k3
          refine ⟨by constructor <;> omega, ?_⟩
          show Goes _ _ _ _
          refine next (i + 1, false, _, _, _) _ _ ⟨⟨hi, acc, ?_, ?_, ?_, ?_⟩, ?_, ⟨⟨rfl, rfl⟩, ⟨rfl, rfl⟩, ⟨rfl, rfl⟩, ⟨rfl, rfl⟩, ⟨rfl, rfl⟩, ⟨rfl, rfl⟩, trivial⟩, ⟨⟨rfl, rfl⟩, ⟨rfl, rfl⟩, ⟨rfl, rfl⟩, ⟨rfl, rfl⟩, trivial⟩⟩
          · simp [attrV]
          · simp
          · simp; omega
          · simpa using k3
          · simp only; omega
    · have hd : d = true := by simpa using q1
      subst hd
      show Goes _ _ _ _
      refine goes_draw 300 ⟨Int.natCast_nonneg i, _, hx, ?_⟩
      refine ⟨by kernel_rfl, ?_⟩
      refine ⟨fun q3 => go 300 ?_, fun q3 => go 300 ?_⟩
      · have he : decide (t.attrs[i].1 = o.key) = false := by simpa using q3
        rw [he] at k3
        refine ⟨Int.natCast_nonneg i, _, hx, ⟨rfl, trivial⟩, rfl, rfl, rfl, (by simp), room_of (by simp; omega) (by decide), ?_⟩
        refine ⟨by constructor <;> omega, ?_⟩
        show Goes _ _ _ _
        refine next (i + 1, true, bump g, (acc.map attrV).length + 1, acc.map attrV ++ [attrV t.attrs[i]]) _ _ ⟨⟨hi, acc ++ [t.attrs[i]], ?_, ?_, ?_, ?_⟩, ?_, ⟨⟨rfl, rfl⟩, ⟨rfl, rfl⟩, ⟨rfl, rfl⟩, ⟨rfl, rfl⟩, ⟨rfl, rfl⟩, ⟨rfl, rfl⟩, trivial⟩, ⟨⟨rfl, rfl⟩, ⟨rfl, rfl⟩, ⟨rfl, rfl⟩, ⟨rfl, rfl⟩, trivial⟩⟩
        · simp [attrV]
        · simp
        · simp; omega
        · simpa using k3
        · simp only; omega
      · have he : decide (t.attrs[i].1 = o.key) = true := by simpa using q3
        rw [he] at k3
        refine ⟨by constructor <;> omega, ?_⟩
        show Goes _ _ _ _
        refine next (i + 1, true, _, _, _) _ _ ⟨⟨hi, acc, ?_, ?_, ?_, ?_⟩, ?_, ⟨⟨rfl, rfl⟩, ⟨rfl, rfl⟩, ⟨rfl, rfl⟩, ⟨rfl, rfl⟩, ⟨rfl, rfl⟩, ⟨rfl, rfl⟩, trivial⟩, ⟨⟨rfl, rfl⟩, ⟨rfl, rfl⟩, ⟨rfl, rfl⟩, ⟨rfl, rfl⟩, trivial⟩⟩
        · simp [attrV]
        · simp
        · simp; omega
        · simpa using k3
        · simp only; omega
  · have hi : i = t.attrs.length := by have : t.attrs.length ≤ i := by simpa using hge
                                       omega
    subst hi
    rw [List.drop_length, refA] at k3
    refine ⟨fun q1 => go 300 ?_, fun q1 => go 300 ?_⟩
    · have hd : d = false := by simpa using q1
      subst hd
      refine ⟨⟨rfl, trivial⟩, rfl, rfl, rfl, (by simp), room_of (by simp; omega) (by decide), ?_⟩
      refine ⟨trivial, rfl, rfl, rfl, (by simp), rfl, ?_⟩
      rw [withAttrs_V, ← k3]
      simp [attrV]
    · have hd : d = true := by simpa using q1
      subst hd
      refine ⟨trivial, rfl, rfl, rfl, (by simp), rfl, ?_⟩
      rw [withAttrs_V, ← k3]
      simp
end Bow
/- W34: the reference's move. -/
namespace Bow
open Go Go.Proofs

theorem pure_sl_cast {P : Program} {f : FuncId} {a : V} {sz : Nat} {q q' : List V} {Q : V → Prop} (h : Pure P f [a, .sl sz q'] Q) (e : q = q') : Pure P f [a, .sl sz q] Q := e ▸ h

set_option maxHeartbeats 1000000 in
set_option maxRecDepth 100000 in
theorem w_refmove (t x z : Tree) (o : OpT) (ht : t.weight ≤ 400000) (ho : o.Ok) (hfr : ∀ i ∈ o.path, inI (i + 1)) (hne : o.path ≠ []) (hx : atT t o.path = some x) (hw : within o.path o.to = false) (hz : atT t o.to = some z) (h0 : 0 ≤ o.at_) (h1 : o.at_ ≤ z.subs.length) :
    Pure Tryz.prog 52 [nodeV t, opV o] (fun r => r = nodeV (moveT x t o)) := by
  have hp := ho.lt.path
  have hpt := ho.lt.to
  have hxw := atT_weight hx
  have hzw := atT_weight hz
  have hmw := change_weight_add (F := insT o.at_ x) (n := x.weight) (ins_weight o.at_ x) o.to t
  obtain ⟨s', hs'⟩ := lift_at h0 x o.path o.to t x z hne hx hw hz h1
  have law := move_law h0 x o.path o.to t x z hne hx hw hz h1
  refine pure_fn 300 Tryz.func52 rfl rfl rfl fun B => ?_
  show CallThen _ _ _ _ _ _
  refine call_pure (w_refAt t o.path hp) rfl ?_
  rintro _ rfl
  rw [hx]
  show CallThen _ _ _ _ _ _
  refine call_pure (w_refAt t o.to hpt) rfl ?_
  rintro _ rfl
  rw [hz]
  show Goes _ _ _ _
  refine goes_draw 300 ⟨_, w_refputs z x o.at_ (by omega) h0 h1, rfl, _, w_refchange t (insT o.at_ x z) z o.to hpt (by omega) hz, rfl, ?_⟩
  rw [change_const (F := insT o.at_ x) hz]
  refine ⟨by kernel_rfl, ?_⟩
  refine ⟨by kernel_rfl, ?_⟩
  show CallThen _ _ _ _ _ _
  refine call_sub [] (w_CopiedQ (o.path.map intV) (by simpa using hp)) rfl rfl trivial rfl rfl rfl ?_
  rintro r T1 ⟨rfl, rfl⟩
  refine ⟨rfl, ?_⟩
  show Goes _ _ _ _
  have hwith := w_refWithin o.to o.path hpt
  have hm : (changeT (insT o.at_ x) t o.to).weight ≤ 1000000 := by omega
  have hwo : Pure Tryz.prog 51 [nodeV (changeT (insT o.at_ x) t o.to), pathV (liftP o.to o.at_ o.path)] (fun r => r = nodeV (moveT x t o)) := by
    have := w_refWithout (changeT (insT o.at_ x) t o.to) s' (liftP o.to o.at_ o.path) (by rw [lift_len]; exact hp) (fun e => hne (List.length_eq_zero_iff.1 (by rw [← lift_len o.to o.at_ o.path, e]; rfl))) hm hs'
    rw [law] at this
    exact this
  have hsame : (decide (o.to.length < o.path.length) && (within o.to o.path && decide (o.at_ ≤ o.path.getD o.to.length 0))) = false → liftP o.to o.at_ o.path = o.path := fun h => by unfold liftP; rw [h]; rfl
  refine goes_draw 300 ⟨rfl, fun q1 => ⟨rfl, rfl, _, hwith, rfl, ⟨fun q2 => ?_, fun q2 => ?_⟩⟩, fun q1 => ?_⟩
  · have hd : o.to.length < o.path.length := by have := lt_of q1; simp at this; omega
    have hg : (o.path.map intV)[0 + (((o.to.map intV).length : Nat) : Int).toNat]? = some (intV o.path[o.to.length]) := by simp [hd]
    have hgd : o.path.getD o.to.length 0 = o.path[o.to.length] := by simp [List.getD_eq_getElem?_getD, hd]
    have hb0 : (0 : Int) ≤ ((o.to.map intV).length : Nat) := Int.natCast_nonneg _
    have hb1 : (((o.to.map intV).length : Nat) : Int) < ((o.path.map intV).length : Nat) := by simp; omega
    refine ⟨rfl, hb0, hb1, rfl, _, hg, ?_⟩
    refine ⟨by kernel_rfl, ?_⟩
    refine ⟨fun q3 => go 300 ?_, fun q3 => go 300 ?_⟩
    · have hin := hfr _ (List.getElem_mem hd)
      refine ⟨rfl, hb0, hb1, rfl, _, hg, hin, rfl, hb0, hb1, rfl, _, hg, ?_⟩
      show CallThen _ _ _ _ _ _
      refine call_pure_frz ?_
      refine ⟨rfl, by simp, fun r => r = nodeV (moveT x t o), ?_, rfl, ?_⟩
      · refine pure_sl_cast (q' := (liftP o.to o.at_ o.path).map intV) hwo ?_
        have e : liftP o.to o.at_ o.path = o.path.set o.to.length (o.path[o.to.length] + 1) := by
          unfold liftP
          have q2 : within o.to o.path = true := by simpa using q2
          have q3 : o.at_ ≤ o.path[o.to.length] := le_of q3
          rw [hgd, decide_eq_true hd, q2, decide_eq_true q3]
          rfl
        rw [e, List.map_set]
        simp
        rfl
      · rintro r rfl
        exact ⟨trivial, rfl, rfl, rfl, rfl⟩
    · have e := hsame (by
        have q3 := not_le_of q3
        rw [hgd, decide_eq_false (by omega : ¬ o.at_ ≤ o.path[o.to.length])]
        simp)
      rw [e] at hwo
      show CallThen _ _ _ _ _ _
      refine call_pure_frz ?_
      refine ⟨rfl, rfl, fun r => r = nodeV (moveT x t o), hwo, rfl, ?_⟩
      rintro r rfl
      exact ⟨trivial, rfl, rfl, rfl, rfl⟩
  · have e := hsame (by
      have q2 : within o.to o.path = false := by simpa using q2
      rw [q2]
      simp)
    rw [e] at hwo
    refine ⟨by kernel_rfl, ?_⟩
    show CallThen _ _ _ _ _ _
    refine call_pure_frz ?_
    refine ⟨rfl, rfl, fun r => r = nodeV (moveT x t o), hwo, rfl, ?_⟩
    rintro r rfl
    exact ⟨trivial, rfl, rfl, rfl, rfl⟩
  · have e := hsame (by
      have q1 : ¬ o.to.length < o.path.length := by have := not_lt_of q1; simp at this; omega
      rw [decide_eq_false q1]
      rfl)
    rw [e] at hwo
    refine ⟨by kernel_rfl, ?_⟩
    show CallThen _ _ _ _ _ _
    refine call_pure_frz ?_
    refine ⟨rfl, rfl, fun r => r = nodeV (moveT x t o), hwo, rfl, ?_⟩
    rintro r rfl
    exact ⟨trivial, rfl, rfl, rfl, rfl⟩
end Bow
/- WB2: strings.Compare at this program: by the kit's own tactics. -/
namespace Bow
open Go Go.Proofs Go.RowKit Go.Shelf

set_option maxHeartbeats 1000000 in
set_option maxRecDepth 100000 in
theorem c_CompareString (a b : ByteArray) (w : World) :
    Calls Tryz.prog 102 #[.string a, .string b] w fun e w' => e = .returned (.int .i64 (Lib.compareBytes a.data.toList b.data.toList)) ∧ w' = w := by
  go_enter Tryz.func102, Tryz.ntmps102
  go_wp2
  rw [run_callFunc_extern Tryz.func105 (by kernel_rfl) (by kernel_rfl) (by kernel_rfl) (e := Extern.BytealgCompare.compare) (by kernel_rfl), Lib.run_compareString]
  simp only [Result.andThen]
  rw [Oper.upon_value]
  go_wp2
  go_ret
  exact ⟨rfl, rfl⟩
set_option maxHeartbeats 1000000 in
set_option maxRecDepth 100000 in
theorem c_Compare (a b : ByteArray) (w : World) :
    Calls Tryz.prog 97 #[.string a, .string b] w fun e w' => e = .returned (.int .i64 (Lib.compareBytes a.data.toList b.data.toList)) ∧ w' = w := by
  go_enter Tryz.func97, Tryz.ntmps97
  go_wp2_with (go_at_call 102; refine (c_CompareString _ _ _).mono ?_; rintro e w' ⟨rfl, rfl⟩)
  go_ret
  exact ⟨rfl, rfl⟩

theorem w_Compare (a b : List UInt8) : Pure Tryz.prog 97 [.str a, .str b] (fun x => x = .int .i64 (Lib.compareBytes a b)) := by
  refine pure_of_calls ⟨_, Tryz.func97, rfl, rfl⟩ rfl fun w β H vals hv hr => ?_
  obtain ⟨v0, v1, rfl⟩ : ∃ v0 v1, vals = #[v0, v1] := by
    obtain ⟨l⟩ := vals
    match l, hv with
    | [v0, v1], _ => exact ⟨v0, v1, rfl⟩
  obtain ⟨rfl, _⟩ := rep_str (m := []) (hr 0 _ v0 rfl rfl)
  obtain ⟨rfl, _⟩ := rep_str (m := []) (hr 1 _ v1 rfl rfl)
  refine (c_Compare ⟨a.toArray⟩ ⟨b.toArray⟩ w).mono ?_
  rintro e w' ⟨rfl, rfl⟩
  exact ⟨Below.refl _ _, .int .i64 (Lib.compareBytes a b), _, rfl, rfl, rfl, .int _ _⟩
end Bow
/- W35: the program's search for an attribute. -/
namespace Bow
open Go Go.Proofs

theorem w_cmpAttr (a : List UInt8 × List UInt8) (k : List UInt8) : Pure Tryz.prog 96 [attrV a, .str k] (fun x => x = .int .i64 (Lib.compareBytes a.1 k)) := by
  refine pure_fn 300 Tryz.func96 rfl rfl rfl fun B => ?_
  show CallThen _ _ _ _ _ _
  refine call_pure (w_Compare a.1 k) rfl ?_
  rintro x rfl
  exact ⟨trivial, rfl, rfl, rfl, rfl⟩

theorem half_eq (i j : Nat) (h : i + j ≤ 2000000) : IntKind.i64.wrap (IntKind.u64.wrap ((i : Int) + j) / 2 ^ min (1 : Int).toNat IntKind.u64.bits) = (((i + j) / 2 : Nat) : Int) := by
  have e : IntKind.u64.wrap ((i : Int) + j) = ((i + j : Nat) : Int) := by
    unfold IntKind.wrap
    simp [IntKind.signed, IntKind.bits]
    omega
  rw [e]
  unfold IntKind.wrap
  simp [IntKind.signed, IntKind.bits]
  omega

set_option maxRecDepth 100000 in
theorem w_search (l : AttrL) (k : List UInt8) (k0 : Option (List UInt8)) (hl : l.length ≤ 1000000) (hs : attrsOk k0 l = true) : Pure Tryz.prog 95 [.sl 2 (l.map attrV), .str k, .fn (.func 96) [] []] (fun x => x = .tup [.int .i64 (posK k l), .bool (hasK k l)]) := by
  have hpl := pos_le k l
  refine pure_wk (pure_fn 300 Tryz.func95 rfl rfl rfl fun B => ?_)
  show Goes _ _ _ _
  refine goes_while (ι := Nat × Nat) (κ := Unit) (fun i => i.1 ≤ posK k l ∧ posK k l ≤ i.2 ∧ i.2 ≤ l.length) (fun i => i.2 - i.1)
    (fun i => [(9, .int .i64 i.1), (10, .int .i64 i.2), (8, .int .i64 (l.map attrV).length), (0, .sl 2 (l.map attrV)), (1, .str k), (2, .fn (.func 96) [] [])]) (fun _ => []) (0, (l.map attrV).length) (fun _ => True)
    (fun _ => [(9, .int .i64 (posK k l)), (8, .int .i64 (l.map attrV).length), (0, .sl 2 (l.map attrV)), (1, .str k), (2, .fn (.func 96) [] [])]) (fun _ => []) 300 (fun _ => rfl) (fun _ => rfl) (fun _ => rfl) (fun _ => rfl) ⟨⟨Nat.zero_le _, by simpa using hpl, by simp⟩, ?_, trivial⟩ ?_ ?_
  · exact ⟨⟨rfl, rfl⟩, ⟨rfl, rfl⟩, ⟨rfl, rfl⟩, ⟨rfl, rfl⟩, ⟨rfl, rfl⟩, ⟨rfl, rfl⟩, trivial⟩
  · rintro ⟨⟩ _
    refine ⟨fun q1 => go 300 ?_, fun q1 => go 300 ?_⟩
    · have hp : posK k l < l.length := by have := lt_of q1; simp at this; omega
      have hx : (l.map attrV)[posK k l]? = some (attrV l[posK k l]) := by simp [hp]
      refine ⟨Int.natCast_nonneg _, _, hx, ?_⟩
      show CallThen _ _ _ _ _ _
      refine call_pure (w_cmpAttr l[posK k l] k) rfl ?_
      rintro x rfl
      refine ⟨trivial, rfl, rfl, rfl, _, Wk.refl _, rfl, ?_⟩
      have hgd : l.getD (posK k l) ([], []) = l[posK k l] := by simp [List.getD_eq_getElem?_getD, hp]
      have e : hasK k l = decide (Lib.compareBytes l[posK k l].1 k = 0) := by
        unfold hasK
        rw [decide_eq_true hp, Bool.true_and, hgd]
        exact decide_eq_decide.2 (cmp_zero _ _).symm
      rw [e]
    · have hp : ¬ posK k l < l.length := by have := not_lt_of q1; simp at this; omega
      refine ⟨trivial, rfl, rfl, rfl, .tup [.int .i64 (posK k l), .bool false], Wk.tup ⟨.refl _, Wk.ff, trivial⟩, rfl, ?_⟩
      have e : hasK k l = false := by unfold hasK; rw [decide_eq_false hp]; rfl
      rw [e]
  · rintro ⟨i, j⟩ ⟨k1, k2, k3⟩ next post
    simp only at k1 k2 k3
    refine ⟨fun hlt => go 300 ?_, fun hge => go 300 ?_⟩
    · have hij : i < j := by have := lt_of hlt; omega
      refine ⟨by constructor <;> simp only <;> omega, ?_⟩
      show Goes _ _ _ _
      refine goes_shr 2 rfl rfl rfl rfl rfl (by decide) ?_
      show Goes _ _ _ _
      refine goes_wkSlot 11 (v' := .int .i64 (((i + j) / 2 : Nat) : Int)) rfl rfl rfl (Wk.of_eq (congrArg (V.int .i64) (half_eq i j (by omega)))) ?_
      refine go 300 ?_
      obtain ⟨m, hm⟩ : ∃ m, (i + j) / 2 = m := ⟨_, rfl⟩
      have hml : m < l.length := by omega
      have hx : (l.map attrV)[m]? = some (attrV l[m]) := by simp [hml]
      rw [hm]
      refine ⟨Int.natCast_nonneg _, _, hx, ?_⟩
      show CallThen _ _ _ _ _ _
      refine call_pure (w_cmpAttr l[m] k) rfl ?_
      rintro x rfl
      have hpi := pos_iff k hs m hml
      refine ⟨fun q2 => go 300 ?_, fun q2 => go 300 ?_⟩
      · have q2 := hpi.1 ((cmp_less _ _).1 (lt_of q2))
        refine ⟨by constructor <;> omega, ?_⟩
        show Goes _ _ _ _
        refine next (m + 1, j) _ _ ⟨⟨q2, k2, k3⟩, by simp only; omega, ⟨⟨rfl, rfl⟩, ⟨rfl, rfl⟩, ⟨rfl, rfl⟩, ⟨rfl, rfl⟩, ⟨rfl, rfl⟩, ⟨rfl, rfl⟩, trivial⟩, trivial⟩
      · have q2 : ¬ m < posK k l := fun h => by
          have := (cmp_less _ _).2 (hpi.2 h)
          have := not_lt_of q2
          omega
        show Goes _ _ _ _
        refine next (i, m) _ _ ⟨⟨k1, by simp only; omega, by simp only; omega⟩, by simp only; omega, ⟨⟨rfl, rfl⟩, ⟨rfl, rfl⟩, ⟨rfl, rfl⟩, ⟨rfl, rfl⟩, ⟨rfl, rfl⟩, ⟨rfl, rfl⟩, trivial⟩, trivial⟩
    · have hij : i = posK k l := by have := not_lt_of hge; omega
      subst hij
      exact post () _ _ _ rfl ⟨trivial, ⟨⟨rfl, rfl⟩, ⟨rfl, rfl⟩, ⟨rfl, rfl⟩, ⟨rfl, rfl⟩, ⟨rfl, rfl⟩, trivial⟩, trivial⟩
end Bow
/- W36: the program's setAttr. -/
namespace Bow
open Go Go.Proofs

set_option maxHeartbeats 1000000 in
set_option maxRecDepth 100000 in
theorem w_setAttr (o : OpT) (y : Tree) (k0 : Option (List UInt8)) (hs : attrsOk k0 y.attrs = true) (hl : y.attrs.length ≤ 900000) : Fun Tryz.prog 74 [some (.box (nodeV y).cells)] [.ptr (.loc 0) 0, opV o] (fun _ T => T = [some (.box (nodeV (setAT o y)).cells)]) := by
  refine fun_keep 1 rfl (fun_fn 300 Tryz.func74 rfl rfl rfl fun imps B hi => ?_)
  obtain ⟨r, rfl⟩ := List.length_eq_one_iff.1 hi
  have hpl := pos_le o.key y.attrs
  have hpl' : ((posK o.key y.attrs : Nat) : Int) ≤ (y.attrs.map attrV).length := by simp; omega
  have hsr := w_search y.attrs o.key k0 (by omega) hs
  show Goes _ _ _ _
  refine goes_draw 300 ⟨_, hsr, rfl, ?_⟩
  refine ⟨by kernel_rfl, ?_⟩
  refine ⟨fun q1 => go 300 ?_, fun q1 => go 300 ?_⟩
  · have q1 : hasK o.key y.attrs = true := by simpa using q1
    have hp : posK o.key y.attrs < y.attrs.length := by
      unfold hasK at q1
      simp only [Bool.and_eq_true, decide_eq_true_eq] at q1
      exact q1.1
    have hpl'' : ((posK o.key y.attrs : Nat) : Int) + 1 ≤ (y.attrs.map attrV).length := by simp; omega
    have hp0 : (0 : Int) ≤ ((posK o.key y.attrs : Nat) : Int) + 1 := by omega
    refine ⟨by constructor <;> omega, ?_⟩
    refine ⟨fun q2 => go 300 ?_, fun q2 => go 300 ?_⟩
    · have q2 : o.gone = false := by simpa using q2
      refine ⟨⟨rfl, trivial⟩, ?_⟩
      show Goes _ _ _ _
      have hc := w_ConcatAttr [(((y.attrs.map attrV).drop (Int.toNat 0)).take (((posK o.key y.attrs : Nat) : Int).toNat - Int.toNat 0)), [attrV (o.key, o.value)], (((y.attrs.map attrV).drop (((posK o.key y.attrs : Nat) : Int) + 1).toNat).take (((y.attrs.map attrV).length : Int).toNat - (((posK o.key y.attrs : Nat) : Int) + 1).toNat))] (by simp; omega) (by simp)
      refine goes_draw 300 ⟨by decide, Int.natCast_nonneg _, hpl', hp0, hpl'', Int.le_refl _, ?_⟩
      refine ⟨by kernel_rfl, rfl, rfl, ⟨rfl, rfl, rfl, trivial⟩, rfl, rfl, rfl, _, hc, rfl, ?_⟩
      refine ⟨by kernel_rfl, ?_⟩
      refine ⟨trivial, rfl, rfl, [some (.box [.int .u64 y.id, .bool y.leaf, .str y.label, .sl 2 [(((y.attrs.map attrV).drop (Int.toNat 0)).take (((posK o.key y.attrs : Nat) : Int).toNat - Int.toNat 0)), [attrV (o.key, o.value)], (((y.attrs.map attrV).drop (((posK o.key y.attrs : Nat) : Int) + 1).toNat).take (((y.attrs.map attrV).length : Int).toNat - (((posK o.key y.attrs : Nat) : Int) + 1).toNat))].flatten, .str y.text, .sl 6 y.subV])], rfl, rfl, ⟨⟨rfl, rfl⟩, trivial⟩, ?_⟩
      have e : [(((y.attrs.map attrV).drop (Int.toNat 0)).take (((posK o.key y.attrs : Nat) : Int).toNat - Int.toNat 0)), [attrV (o.key, o.value)], (((y.attrs.map attrV).drop (((posK o.key y.attrs : Nat) : Int) + 1).toNat).take (((y.attrs.map attrV).length : Int).toNat - (((posK o.key y.attrs : Nat) : Int) + 1).toNat))].flatten = (setA o y.attrs).map attrV := by
        unfold setA midA
        rw [q1, q2]
        rw [List.take_of_length_le (l := List.drop (((posK o.key y.attrs : Nat) : Int) + 1).toNat (y.attrs.map attrV)) (by simp)]
        have e1 : (((posK o.key y.attrs : Nat) : Int) + 1).toNat = posK o.key y.attrs + 1 := by omega
        rw [e1]
        simp [List.map_take, List.map_drop]
      rw [e, setAT, withAttrs_V]
      rfl
    · have q2 : o.gone = true := by simpa using q2
      show Goes _ _ _ _
      have hc := w_ConcatAttr [(((y.attrs.map attrV).drop (Int.toNat 0)).take (((posK o.key y.attrs : Nat) : Int).toNat - Int.toNat 0)), [], (((y.attrs.map attrV).drop (((posK o.key y.attrs : Nat) : Int) + 1).toNat).take (((y.attrs.map attrV).length : Int).toNat - (((posK o.key y.attrs : Nat) : Int) + 1).toNat))] (by simp; omega) (by simp)
      have hc := pure_args (args' := [.sl 1 ([(((y.attrs.map attrV).drop (Int.toNat 0)).take (((posK o.key y.attrs : Nat) : Int).toNat - Int.toNat 0)), [], (((y.attrs.map attrV).drop (((posK o.key y.attrs : Nat) : Int) + 1).toNat).take (((y.attrs.map attrV).length : Int).toNat - (((posK o.key y.attrs : Nat) : Int) + 1).toNat))].map (V.sl 2))]) (args := [.sl 1 [.sl 2 (((y.attrs.map attrV).drop (Int.toNat 0)).take (((posK o.key y.attrs : Nat) : Int).toNat - Int.toNat 0)), .nilsl, .sl 2 (((y.attrs.map attrV).drop (((posK o.key y.attrs : Nat) : Int) + 1).toNat).take (((y.attrs.map attrV).length : Int).toNat - (((posK o.key y.attrs : Nat) : Int) + 1).toNat))]]) hc ⟨Wk.sl ⟨⟨⟨.refl _, trivial⟩, ⟨rfl, rfl⟩⟩, ⟨⟨Wk.nil 2, trivial⟩, ⟨rfl, rfl⟩⟩, ⟨⟨.refl _, trivial⟩, ⟨rfl, rfl⟩⟩, trivial⟩, trivial⟩ rfl rfl
      refine goes_draw 300 ⟨by decide, Int.natCast_nonneg _, hpl', hp0, hpl'', Int.le_refl _, ?_⟩
      refine ⟨by kernel_rfl, ⟨rfl, rfl, rfl, trivial⟩, rfl, rfl, rfl, _, hc, rfl, ?_⟩
      refine ⟨by kernel_rfl, ?_⟩
      refine ⟨trivial, rfl, rfl, [some (.box [.int .u64 y.id, .bool y.leaf, .str y.label, .sl 2 [(((y.attrs.map attrV).drop (Int.toNat 0)).take (((posK o.key y.attrs : Nat) : Int).toNat - Int.toNat 0)), [], (((y.attrs.map attrV).drop (((posK o.key y.attrs : Nat) : Int) + 1).toNat).take (((y.attrs.map attrV).length : Int).toNat - (((posK o.key y.attrs : Nat) : Int) + 1).toNat))].flatten, .str y.text, .sl 6 y.subV])], rfl, rfl, ⟨⟨rfl, rfl⟩, trivial⟩, ?_⟩
      have e : [(((y.attrs.map attrV).drop (Int.toNat 0)).take (((posK o.key y.attrs : Nat) : Int).toNat - Int.toNat 0)), [], (((y.attrs.map attrV).drop (((posK o.key y.attrs : Nat) : Int) + 1).toNat).take (((y.attrs.map attrV).length : Int).toNat - (((posK o.key y.attrs : Nat) : Int) + 1).toNat))].flatten = (setA o y.attrs).map attrV := by
        unfold setA midA
        rw [q1, q2]
        rw [List.take_of_length_le (l := List.drop (((posK o.key y.attrs : Nat) : Int) + 1).toNat (y.attrs.map attrV)) (by simp)]
        have e1 : (((posK o.key y.attrs : Nat) : Int) + 1).toNat = posK o.key y.attrs + 1 := by omega
        rw [e1]
        simp [List.map_take, List.map_drop]
      rw [e, setAT, withAttrs_V]
      rfl
  · have q1 : hasK o.key y.attrs = false := by simpa using q1
    have hpl'' := hpl'
    have hp0 : (0 : Int) ≤ ((posK o.key y.attrs : Nat) : Int) := Int.natCast_nonneg _
    refine ⟨fun q2 => go 300 ?_, fun q2 => go 300 ?_⟩
    · have q2 : o.gone = false := by simpa using q2
      refine ⟨⟨rfl, trivial⟩, ?_⟩
      show Goes _ _ _ _
      have hc := w_ConcatAttr [(((y.attrs.map attrV).drop (Int.toNat 0)).take (((posK o.key y.attrs : Nat) : Int).toNat - Int.toNat 0)), [attrV (o.key, o.value)], (((y.attrs.map attrV).drop ((posK o.key y.attrs : Nat) : Int).toNat).take (((y.attrs.map attrV).length : Int).toNat - ((posK o.key y.attrs : Nat) : Int).toNat))] (by simp; omega) (by simp)
      refine goes_draw 300 ⟨by decide, Int.natCast_nonneg _, hpl', hp0, hpl'', Int.le_refl _, ?_⟩
      refine ⟨by kernel_rfl, rfl, rfl, ⟨rfl, rfl, rfl, trivial⟩, rfl, rfl, rfl, _, hc, rfl, ?_⟩
      refine ⟨by kernel_rfl, ?_⟩
      refine ⟨trivial, rfl, rfl, [some (.box [.int .u64 y.id, .bool y.leaf, .str y.label, .sl 2 [(((y.attrs.map attrV).drop (Int.toNat 0)).take (((posK o.key y.attrs : Nat) : Int).toNat - Int.toNat 0)), [attrV (o.key, o.value)], (((y.attrs.map attrV).drop ((posK o.key y.attrs : Nat) : Int).toNat).take (((y.attrs.map attrV).length : Int).toNat - ((posK o.key y.attrs : Nat) : Int).toNat))].flatten, .str y.text, .sl 6 y.subV])], rfl, rfl, ⟨⟨rfl, rfl⟩, trivial⟩, ?_⟩
      have e : [(((y.attrs.map attrV).drop (Int.toNat 0)).take (((posK o.key y.attrs : Nat) : Int).toNat - Int.toNat 0)), [attrV (o.key, o.value)], (((y.attrs.map attrV).drop ((posK o.key y.attrs : Nat) : Int).toNat).take (((y.attrs.map attrV).length : Int).toNat - ((posK o.key y.attrs : Nat) : Int).toNat))].flatten = (setA o y.attrs).map attrV := by
        unfold setA midA
        rw [q1, q2]
        rw [List.take_of_length_le (l := List.drop ((posK o.key y.attrs : Nat) : Int).toNat (y.attrs.map attrV)) (by simp)]
        simp [List.map_take, List.map_drop]
      rw [e, setAT, withAttrs_V]
      rfl
    · have q2 : o.gone = true := by simpa using q2
      show Goes _ _ _ _
      have hc := w_ConcatAttr [(((y.attrs.map attrV).drop (Int.toNat 0)).take (((posK o.key y.attrs : Nat) : Int).toNat - Int.toNat 0)), [], (((y.attrs.map attrV).drop ((posK o.key y.attrs : Nat) : Int).toNat).take (((y.attrs.map attrV).length : Int).toNat - ((posK o.key y.attrs : Nat) : Int).toNat))] (by simp; omega) (by simp)
      have hc := pure_args (args' := [.sl 1 ([(((y.attrs.map attrV).drop (Int.toNat 0)).take (((posK o.key y.attrs : Nat) : Int).toNat - Int.toNat 0)), [], (((y.attrs.map attrV).drop ((posK o.key y.attrs : Nat) : Int).toNat).take (((y.attrs.map attrV).length : Int).toNat - ((posK o.key y.attrs : Nat) : Int).toNat))].map (V.sl 2))]) (args := [.sl 1 [.sl 2 (((y.attrs.map attrV).drop (Int.toNat 0)).take (((posK o.key y.attrs : Nat) : Int).toNat - Int.toNat 0)), .nilsl, .sl 2 (((y.attrs.map attrV).drop ((posK o.key y.attrs : Nat) : Int).toNat).take (((y.attrs.map attrV).length : Int).toNat - ((posK o.key y.attrs : Nat) : Int).toNat))]]) hc ⟨Wk.sl ⟨⟨⟨.refl _, trivial⟩, ⟨rfl, rfl⟩⟩, ⟨⟨Wk.nil 2, trivial⟩, ⟨rfl, rfl⟩⟩, ⟨⟨.refl _, trivial⟩, ⟨rfl, rfl⟩⟩, trivial⟩, trivial⟩ rfl rfl
      refine goes_draw 300 ⟨by decide, Int.natCast_nonneg _, hpl', hp0, hpl'', Int.le_refl _, ?_⟩
      refine ⟨by kernel_rfl, ⟨rfl, rfl, rfl, trivial⟩, rfl, rfl, rfl, _, hc, rfl, ?_⟩
      refine ⟨by kernel_rfl, ?_⟩
      refine ⟨trivial, rfl, rfl, [some (.box [.int .u64 y.id, .bool y.leaf, .str y.label, .sl 2 [(((y.attrs.map attrV).drop (Int.toNat 0)).take (((posK o.key y.attrs : Nat) : Int).toNat - Int.toNat 0)), [], (((y.attrs.map attrV).drop ((posK o.key y.attrs : Nat) : Int).toNat).take (((y.attrs.map attrV).length : Int).toNat - ((posK o.key y.attrs : Nat) : Int).toNat))].flatten, .str y.text, .sl 6 y.subV])], rfl, rfl, ⟨⟨rfl, rfl⟩, trivial⟩, ?_⟩
      have e : [(((y.attrs.map attrV).drop (Int.toNat 0)).take (((posK o.key y.attrs : Nat) : Int).toNat - Int.toNat 0)), [], (((y.attrs.map attrV).drop ((posK o.key y.attrs : Nat) : Int).toNat).take (((y.attrs.map attrV).length : Int).toNat - ((posK o.key y.attrs : Nat) : Int).toNat))].flatten = (setA o y.attrs).map attrV := by
        unfold setA midA
        rw [q1, q2]
        rw [List.take_of_length_le (l := List.drop ((posK o.key y.attrs : Nat) : Int).toNat (y.attrs.map attrV)) (by simp)]
        simp [List.map_take, List.map_drop]
      rw [e, setAT, withAttrs_V]
      rfl
end Bow
/- W37: the program's apply, Apply. -/
namespace Bow
open Go Go.Proofs

theorem w_apply1 (o : OpT) (y : Tree) (k0 : Option (List UInt8)) (hs : attrsOk k0 y.attrs = true) (hl : y.attrs.length ≤ 900000) : Fun Tryz.prog 73 [some (.box (nodeV y).cells)] [.ptr (.loc 0) 0, .iptr (opV o).cells 0] (fun _ T => T = [some (.box (nodeV (setAT o y)).cells)]) := by
  refine fun_fn 100 Tryz.func73 rfl rfl rfl fun imps B hi => ?_
  obtain ⟨r, rfl⟩ := List.length_eq_one_iff.1 hi
  show CallThen _ _ _ _ _ _
  refine call_sub [0] (w_setAttr o y k0 hs hl) rfl rfl ⟨⟨rfl, rfl⟩, trivial⟩ rfl rfl rfl ?_
  rintro x T1 rfl
  refine ⟨rfl, ?_⟩
  exact ⟨trivial, rfl, rfl, rfl⟩

set_option maxRecDepth 100000 in
theorem w_apply_att (t y : Tree) (o : OpT) (ht : t.weight ≤ 900000) (ho : o.Ok) (hk : o.kind = 4) (hy : atT t o.path = some y) (hs : attrsOk none y.attrs = true) : Pure Tryz.prog 45 [nodeV t, opV o] (fun x => x = nodeV (changeT (setAT o) t o.path)) := by
  have hp := ho.lt.path
  have hyw := atT_weight hy
  have hya := attrs_le_weight y
  refine pure_fn 300 Tryz.func45 rfl rfl rfl fun B => ?_
  refine ⟨fun g1 => absurd (hk.symm.trans (eq_of g1)) (by decide), fun g1 => go 300 ?_⟩
  refine ⟨fun g1 => absurd (hk.symm.trans (eq_of g1)) (by decide), fun g1 => go 300 ?_⟩
  refine ⟨fun g1 => absurd (hk.symm.trans (eq_of g1)) (by decide), fun g1 => go 300 ?_⟩
  refine ⟨fun g1 => go 300 ?_, fun g1 => absurd hk (ne_of g1)⟩
  show CallThen _ _ _ _ _ _
  refine call_freeze 1 rfl rfl ?_
  refine call_pure (w_change1 73 (opV o).cells (setAT o) y (w_apply1 o y none hs (by omega)) o.path t hp (by omega) hy) rfl ?_
  rintro z rfl
  exact ⟨trivial, rfl, rfl, rfl, rfl⟩

theorem w_applyT (t : Tree) (o : OpT) (ht : t.weight ≤ 900000) (ho : o.Ok) (h : ValidE t o = 0) : Pure Tryz.prog 45 [nodeV t, opV o] (fun x => x = nodeV (applyT t o)) := by
  obtain ⟨hr, hf, _⟩ := valid_right h
  have hra : t.rightA = true := by
    unfold rightT at hr
    rw [Bool.and_eq_true] at hr
    exact hr.2
  have hto : o.kind = 3 → ∀ x ∈ o.to, inI x := fun hk x hx => by
    have := may_step (good_to hf hk) x hx
    constructor <;> omega
  cases good_of h with
  | ins y hk hy hl h0 h1 h2 =>
    have e : applyT t o = changeT (insT o.at_ (freshT o)) t o.path := by unfold applyT; rw [hk]; rfl
    rw [e]
    exact w_apply_k t o _ ht ho (fun h => absurd (hk.symm.trans h) (by decide)) (.ins y hk hy h0 h1)
  | del x hk hne hx =>
    have e : applyT t o = changeT (delT (lastP o.path)) t o.path.dropLast := by unfold applyT; rw [hk]; rfl
    rw [e]
    exact w_apply_k t o _ ht ho (fun h => absurd (hk.symm.trans h) (by decide)) (.del x hk hne hx)
  | mov x z hk hne hx hw hz hl h0 h1 =>
    have e : applyT t o = moveT x t o := by unfold applyT; rw [hk, hx]; rfl
    rw [e]
    exact w_apply_k t o _ ht ho (fun _ => hto hk) (.mov x z hk hne hx hw hz h0 h1)
  | att y hk hy h1 h2 =>
    have e : applyT t o = changeT (setAT o) t o.path := by unfold applyT; rw [hk]; rfl
    rw [e]
    exact w_apply_att t y o ht ho hk hy (right_attrs (right_at hra hy))
  | lab y hk hy h2 =>
    have e : applyT t o = changeT (relabelT o.label) t o.path := by unfold applyT; rw [hk]; rfl
    rw [e]
    exact w_apply_k t o _ ht ho (fun h => absurd (hk.symm.trans h) (by decide)) (.lab y hk hy)
  | edt y hk hy hl he =>
    have e : applyT t o = changeT (retextT o.pieces) t o.path := by unfold applyT; rw [hk]; rfl
    rw [e]
    exact w_apply_k t o _ ht ho (fun h => absurd (hk.symm.trans h) (by decide)) (.edt y hk hy)

end Bow
/- W38: the reference's Apply. -/
namespace Bow
open Go Go.Proofs

set_option maxRecDepth 100000 in
theorem w_refApply_bad (t : Tree) (o : OpT) (ht : t.weight ≤ 1000000) (ho : o.Ok) (h : ValidE t o ≠ 0) : Pure Tryz.prog 34 [nodeV t, opV o] (fun x => x = ApplyV (zeroT [], ValidE t o)) := by
  refine pure_wk (pure_fn 300 Tryz.func34 rfl rfl rfl fun B => ?_)
  show CallThen _ _ _ _ _ _
  refine call_pure (w_refValid t o ht ho) rfl ?_
  rintro x rfl
  refine ⟨fun g1 => go 300 ?_, fun g1 => absurd (eq_of' g1) h⟩
  exact ⟨trivial, rfl, rfl, rfl, ApplyV (zeroT [], ValidE t o), Wk.tup ⟨wk_zero (ss := []) (Wk.nil 6), .refl _, trivial⟩, rfl, rfl⟩

set_option maxHeartbeats 1000000 in
set_option maxRecDepth 100000 in
theorem w_refApply_ok (t : Tree) (o : OpT) (ht : t.weight ≤ 400000) (ho : o.Ok) (h : ValidE t o = 0) : Pure Tryz.prog 34 [nodeV t, opV o] (fun x => x = ApplyV (applyT t o, 0)) := by
  obtain ⟨hr, hf, _⟩ := valid_right h
  have hra : t.rightA = true := by
    unfold rightT at hr
    rw [Bool.and_eq_true] at hr
    exact hr.2
  have hp := ho.lt.path
  have hpi := may_step (formed_path hf)
  refine pure_fn 300 Tryz.func34 rfl rfl rfl fun B => ?_
  show CallThen _ _ _ _ _ _
  refine call_pure (w_refValid t o (by omega) ho) rfl ?_
  rintro x rfl
  refine ⟨fun g1 => absurd h (ne_of' g1), fun g1 => go 300 ?_⟩
  show CallThen _ _ _ _ _ _
  refine call_pure (w_refAt t o.path hp) rfl ?_
  rintro _ rfl
  cases good_of h with
  | ins y hk hy hl h0 h1 h2 =>
    have e : applyT t o = changeT (insT o.at_ (freshT o)) t o.path := by unfold applyT; rw [hk]; rfl
    have hyw := atT_weight hy
    rw [hy]
    refine ⟨fun g1 => go 300 ?_, fun g1 => absurd hk (ne_of g1)⟩
    show Goes _ _ _ _
    have hput := pure_args (args := [nodeV y, .int .i64 o.at_, .agg [.int .u64 o.id, .bool o.leaf, .str o.label, .nilsl, .str [], .nilsl]]) (w_refputs y (freshT o) o.at_ (by omega) h0 h1) ⟨.refl _, .refl _, wk_fresh o, trivial⟩ rfl rfl
    refine goes_draw 300 ⟨_, hput, rfl, _, w_refchange t (insT o.at_ (freshT o) y) y o.path hp (by omega) hy, rfl, ?_⟩
    refine ⟨by kernel_rfl, ?_⟩
    refine ⟨trivial, rfl, rfl, rfl, ?_⟩
    rw [change_const (F := insT o.at_ (freshT o)) hy, e]
    rfl
  | del x hk hne hx =>
    have e : applyT t o = withoutT t o.path := by unfold applyT; rw [hk]; rfl
    rw [hx]
    refine ⟨fun g1 => absurd (hk.symm.trans (eq_of g1)) (by decide), fun g1 => go 300 ?_⟩
    refine ⟨fun g1 => go 300 ?_, fun g1 => absurd hk (ne_of g1)⟩
    show CallThen _ _ _ _ _ _
    refine call_pure (w_refWithout t x o.path hp hne (by omega) hx) rfl ?_
    rintro z rfl
    exact ⟨trivial, rfl, rfl, rfl, by rw [e]; rfl⟩
  | mov x z hk hne hx hw hz hl h0 h1 =>
    have e : applyT t o = moveT x t o := by unfold applyT; rw [hk, hx]; rfl
    rw [hx]
    refine ⟨fun g1 => absurd (hk.symm.trans (eq_of g1)) (by decide), fun g1 => go 300 ?_⟩
    refine ⟨fun g1 => absurd (hk.symm.trans (eq_of g1)) (by decide), fun g1 => go 300 ?_⟩
    refine ⟨fun g1 => go 300 ?_, fun g1 => absurd hk (ne_of g1)⟩
    show CallThen _ _ _ _ _ _
    refine call_pure (w_refmove t x z o ht ho (fun i hi => by have := hpi i hi; constructor <;> omega) hne hx hw hz h0 h1) rfl ?_
    rintro r rfl
    exact ⟨trivial, rfl, rfl, rfl, by rw [e]; rfl⟩
  | att y hk hy h1 h2 =>
    have e : applyT t o = changeT (setAT o) t o.path := by unfold applyT; rw [hk]; rfl
    have hyw := atT_weight hy
    have ea : y.withAttrs (refA o o.gone y.attrs) = setAT o y := by rw [attr_law o (right_attrs (right_at hra hy))]; rfl
    rw [hy]
    refine ⟨fun g1 => absurd (hk.symm.trans (eq_of g1)) (by decide), fun g1 => go 300 ?_⟩
    refine ⟨fun g1 => absurd (hk.symm.trans (eq_of g1)) (by decide), fun g1 => go 300 ?_⟩
    refine ⟨fun g1 => absurd (hk.symm.trans (eq_of g1)) (by decide), fun g1 => go 300 ?_⟩
    refine ⟨fun g1 => go 300 ?_, fun g1 => absurd hk (ne_of g1)⟩
    show Goes _ _ _ _
    have hat := w_refattr y o (by omega)
    rw [ea] at hat
    refine goes_draw 300 ⟨_, hat, rfl, _, w_refchange t (setAT o y) y o.path hp (by omega) hy, rfl, ?_⟩
    refine ⟨by kernel_rfl, ?_⟩
    refine ⟨trivial, rfl, rfl, rfl, ?_⟩
    rw [change_const (F := setAT o) hy, e]
    rfl
  | lab y hk hy h2 =>
    have e : applyT t o = changeT (relabelT o.label) t o.path := by unfold applyT; rw [hk]; rfl
    rw [hy]
    refine ⟨fun g1 => absurd (hk.symm.trans (eq_of g1)) (by decide), fun g1 => go 300 ?_⟩
    refine ⟨fun g1 => absurd (hk.symm.trans (eq_of g1)) (by decide), fun g1 => go 300 ?_⟩
    refine ⟨fun g1 => absurd (hk.symm.trans (eq_of g1)) (by decide), fun g1 => go 300 ?_⟩
    refine ⟨fun g1 => absurd (hk.symm.trans (eq_of g1)) (by decide), fun g1 => go 300 ?_⟩
    refine ⟨fun g1 => go 300 ?_, fun g1 => absurd hk (ne_of g1)⟩
    show CallThen _ _ _ _ _ _
    cases y with
    | mk i lf b a c ss =>
    refine call_pure (w_refchange t (relabelT o.label (.mk i lf b a c ss)) (.mk i lf b a c ss) o.path hp (by omega) hy) rfl ?_
    rintro r rfl
    refine ⟨trivial, rfl, rfl, rfl, ?_⟩
    rw [change_const (F := relabelT o.label) hy, e]
    rfl
  | edt y hk hy hl he =>
    have e : applyT t o = changeT (retextT o.pieces) t o.path := by unfold applyT; rw [hk]; rfl
    have hyw := atT_weight hy
    have htw := text_le_weight y
    rw [hy]
    refine ⟨fun g1 => absurd (hk.symm.trans (eq_of g1)) (by decide), fun g1 => go 300 ?_⟩
    refine ⟨fun g1 => absurd (hk.symm.trans (eq_of g1)) (by decide), fun g1 => go 300 ?_⟩
    refine ⟨fun g1 => absurd (hk.symm.trans (eq_of g1)) (by decide), fun g1 => go 300 ?_⟩
    refine ⟨fun g1 => absurd (hk.symm.trans (eq_of g1)) (by decide), fun g1 => go 300 ?_⟩
    refine ⟨fun g1 => absurd (hk.symm.trans (eq_of g1)) (by decide), fun g1 => go 300 ?_⟩
    show CallThen _ _ _ _ _ _
    refine call_pure (w_refEdit y.text o.pieces (by omega) ho.lt.pieces ho.each) rfl ?_
    rintro r rfl
    show CallThen _ _ _ _ _ _
    cases y with
    | mk i lf b a c ss =>
    refine call_pure (w_refchange t (retextT o.pieces (.mk i lf b a c ss)) (.mk i lf b a c ss) o.path hp (by omega) hy) rfl ?_
    rintro r rfl
    refine ⟨trivial, rfl, rfl, rfl, ?_⟩
    rw [change_const (F := retextT o.pieces) hy, e]
    rfl

theorem w_refApply (t : Tree) (o : OpT) (ht : t.weight ≤ 400000) (ho : o.Ok) : Pure Tryz.prog 34 [nodeV t, opV o] (fun x => x = ApplyV (applyR t o)) := by
  by_cases h : ValidE t o = 0
  · have e : applyR t o = (applyT t o, 0) := by unfold applyR; rw [decide_eq_true h]; rfl
    rw [e]
    exact w_refApply_ok t o ht ho h
  · have e : applyR t o = (zeroT [], ValidE t o) := by unfold applyR; rw [decide_eq_false h]; rfl
    rw [e]
    exact w_refApply_bad t o (by omega) ho h
end Bow
/- SP14: how heavy a tree becomes, in plain Lean. -/
namespace Bow
open Go

theorem weights_set_eq {s u : Tree} : ∀ {l : List Tree} {i : Nat}, l[i]? = some s → weights (l.set i u) + s.weight = weights l + u.weight
  | [], i, h => by simp at h
  | x :: l, 0, h => by
    simp at h
    subst h
    rw [List.set_cons_zero, weights, weights]
    omega
  | x :: l, i + 1, h => by
    simp at h
    have := weights_set_eq (u := u) (l := l) h
    rw [List.set_cons_succ, weights, weights]
    omega
theorem change_weight_eq {F : Tree → Tree} {y : Tree} : ∀ {p : List Int} {t : Tree}, atT t p = some y → (changeT F t p).weight + y.weight = t.weight + (F y).weight
  | [], t, h => by
    rw [atT] at h
    injection h with h
    subst h
    rw [changeT]
    omega
  | i :: p, t, h => by
    rw [atT] at h
    cases hs : subT t i with
    | none => rw [hs] at h; cases h
    | some s =>
      rw [hs] at h
      have ih := change_weight_eq (F := F) (p := p) h
      rw [changeT, hs]
      simp only
      have h1 := weights_set_eq (u := changeT F s p) (subT_some hs).2.1
      have h2 := withSubs_weight t (t.subs.set i.toNat (changeT F s p))
      omega
theorem del_weight_eq {y x : Tree} {i : Int} (h : y.subs[i.toNat]? = some x) : (delT i y).weight + x.weight = y.weight := by
  have h1 := withSubs_weight y (y.subs.take i.toNat ++ y.subs.drop (i.toNat + 1))
  have h2 : weights (y.subs.take i.toNat ++ y.subs.drop (i.toNat + 1)) + x.weight = weights y.subs := by
    have hl := lt_of_get h
    conv => rhs; rw [← List.take_append_drop i.toNat y.subs]
    rw [weights_append, weights_append, List.drop_eq_getElem_cons hl, weights]
    have : y.subs[i.toNat] = x := by rw [List.getElem?_eq_getElem hl] at h; injection h
    rw [this]
    omega
  unfold delT
  omega
theorem without_weight {t x : Tree} {p : List Int} (hne : p ≠ []) (hx : atT t p = some x) : (withoutT t p).weight + x.weight = t.weight := by
  obtain ⟨y, y1, y2, y3, y4⟩ := at_parent hne hx
  rw [lastP_eq hne] at y4
  have h1 := change_weight_eq (F := delT (lastP p)) y1
  have h2 := del_weight_eq y4
  unfold withoutT
  omega
def costO (o : OpT) : Nat := 2 + o.label.length + o.key.length + o.value.length + putsLen o.pieces
theorem attrLen_append : ∀ a b : AttrL, attrLen (a ++ b) = attrLen a + attrLen b
  | [], b => by simp [attrLen]
  | x :: a, b => by
    have := attrLen_append a b
    rw [List.cons_append, attrLen_cons, attrLen_cons]
    omega
theorem setA_weight (o : OpT) (y : Tree) : (setAT o y).weight ≤ y.weight + (1 + o.key.length + o.value.length) := by
  have h1 : (setA o y.attrs).length + attrLen (setA o y.attrs) ≤ y.attrs.length + attrLen y.attrs + (1 + o.key.length + o.value.length) := by
    unfold setA
    rw [attrLen_append, attrLen_append]
    have e : attrLen y.attrs = attrLen (y.attrs.take (posK o.key y.attrs)) + attrLen (y.attrs.drop (posK o.key y.attrs)) := by rw [← attrLen_append, List.take_append_drop]
    have e2 : attrLen (y.attrs.drop (posK o.key y.attrs + (bif hasK o.key y.attrs then 1 else 0))) ≤ attrLen (y.attrs.drop (posK o.key y.attrs)) := by
      rw [← List.drop_drop]
      cases hasK o.key y.attrs with
      | false => simp
      | true =>
        cases y.attrs.drop (posK o.key y.attrs) with
        | nil => simp
        | cons a l => rw [attrLen_cons]; simp only [cond_true, List.drop_succ_cons, List.drop_zero]; omega
    have e3 : (midA o).length + attrLen (midA o) ≤ 1 + o.key.length + o.value.length := by
      unfold midA
      cases o.gone <;> simp [attrLen]
      omega
    simp only [List.length_append, List.length_take, List.length_drop]
    omega
  have w1 := weight_eq y
  have w2 := weight_eq (setAT o y)
  have : (setAT o y).label = y.label ∧ (setAT o y).text = y.text ∧ (setAT o y).attrs = setA o y.attrs ∧ (setAT o y).subs = y.subs := by cases y; exact ⟨rfl, rfl, rfl, rfl⟩
  obtain ⟨q1, q2, q3, q4⟩ := this
  rw [q1, q2, q3, q4] at w2
  omega
theorem relabel_weight (s : List UInt8) (y : Tree) : (relabelT s y).weight ≤ y.weight + s.length := by
  have w1 := weight_eq y
  have w2 := weight_eq (relabelT s y)
  have : (relabelT s y).label = s ∧ (relabelT s y).text = y.text ∧ (relabelT s y).attrs = y.attrs ∧ (relabelT s y).subs = y.subs := by cases y; exact ⟨rfl, rfl, rfl, rfl⟩
  obtain ⟨q1, q2, q3, q4⟩ := this
  rw [q1, q2, q3, q4] at w2
  omega
theorem applyE_length (t : List UInt8) (l : List PieceT) : (applyE t l).1.length ≤ t.length + putsLen l := by
  unfold applyE
  cases hr : rightP l with
  | false => simp
  | true =>
    obtain ⟨r1, r2, r3⟩ := rightP_ok hr
    by_cases h : (t.length : Int) < extentP l
    · rw [decide_eq_true h]; simp
    · rw [decide_eq_false h]
      exact editP_len r2 (by omega)
theorem retext_weight (l : List PieceT) (y : Tree) : (retextT l y).weight ≤ y.weight + putsLen l := by
  have w1 := weight_eq y
  have w2 := weight_eq (retextT l y)
  have : (retextT l y).label = y.label ∧ (retextT l y).text = (applyE y.text l).1 ∧ (retextT l y).attrs = y.attrs ∧ (retextT l y).subs = y.subs := by cases y; exact ⟨rfl, rfl, rfl, rfl⟩
  obtain ⟨q1, q2, q3, q4⟩ := this
  rw [q1, q2, q3, q4] at w2
  have := applyE_length y.text l
  omega
theorem fresh_weight (o : OpT) : (freshT o).weight = 1 + o.label.length := by
  have := weight_eq (freshT o)
  have e : (freshT o).label = o.label ∧ (freshT o).text = [] ∧ (freshT o).attrs = [] ∧ (freshT o).subs = [] := ⟨rfl, rfl, rfl, rfl⟩
  obtain ⟨q1, q2, q3, q4⟩ := e
  rw [q1, q2, q3, q4] at this
  simp [attrLen, weights] at this
  omega
theorem applyT_weight {t : Tree} {o : OpT} (h : ValidE t o = 0) : (applyT t o).weight ≤ t.weight + costO o := by
  unfold costO
  cases good_of h with
  | ins y hk hy hl h0 h1 h2 =>
    have e : applyT t o = changeT (insT o.at_ (freshT o)) t o.path := by unfold applyT; rw [hk]; rfl
    have := change_weight_eq (F := insT o.at_ (freshT o)) hy
    have := ins_weight o.at_ (freshT o) y
    have := fresh_weight o
    rw [e]
    omega
  | del x hk hne hx =>
    have e : applyT t o = withoutT t o.path := by unfold applyT; rw [hk]; rfl
    have := without_weight hne hx
    rw [e]
    omega
  | mov x z hk hne hx hw hz hl h0 h1 =>
    have e : applyT t o = moveT x t o := by unfold applyT; rw [hk, hx]; rfl
    have := without_weight hne hx
    have := change_weight_add (F := insT (landT o.path.dropLast (lastP o.path) o.to o.at_).2 x) (n := x.weight) (ins_weight _ x) (landT o.path.dropLast (lastP o.path) o.to o.at_).1 (withoutT t o.path)
    rw [e, moveT_eq]
    omega
  | att y hk hy h1 h2 =>
    have e : applyT t o = changeT (setAT o) t o.path := by unfold applyT; rw [hk]; rfl
    have := change_weight_eq (F := setAT o) hy
    have := setA_weight o y
    rw [e]
    omega
  | lab y hk hy h2 =>
    have e : applyT t o = changeT (relabelT o.label) t o.path := by unfold applyT; rw [hk]; rfl
    have := change_weight_eq (F := relabelT o.label) hy
    have := relabel_weight o.label y
    rw [e]
    omega
  | edt y hk hy hl he =>
    have e : applyT t o = changeT (retextT o.pieces) t o.path := by unfold applyT; rw [hk]; rfl
    have := change_weight_eq (F := retextT o.pieces) hy
    have := retext_weight o.pieces y
    rw [e]
    omega
theorem applyR_weight (t : Tree) (o : OpT) : (applyR t o).1.weight ≤ t.weight + costO o := by
  unfold applyR
  by_cases h : ValidE t o = 0
  · rw [decide_eq_true h]
    exact applyT_weight h
  · rw [decide_eq_false h]
    have e : (Tree.mk 0 false [] [] [] []).weight = 1 := by
      have := weight_eq (Tree.mk 0 false [] [] [] [])
      simp [attrLen, weights, Tree.label, Tree.text, Tree.attrs, Tree.subs] at this
      exact this
    show (Tree.mk 0 false [] [] [] []).weight ≤ _
    rw [e]
    unfold costO
    omega
end Bow
