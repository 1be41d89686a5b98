/- The library, part 7: W63, SP24, W64, W119, W120, SP25, SP26, SP30, W65, W66, W68, W69, W121, W76, W77, W78, SP28, W67, SP27, SP31, W70, W71, W72, W79, SP32, W73, SP33, W80, SP58, SP59, SP60, SP61, SP40, SP41, SP42, SP43, SP44, SP45, SP46, SP47, SP48, SP49, SP50, SP51, SP52, SP53, SP54, SP55, SP56, SP57, SP62, SP63, SP64, SP65, W98, W75, SP68, SP69, W107, W28, W29, W30, W40, W90, W108, AE57, W109, W122, AE63, W123, W124, W125, W126, AE48, W127, W128, W129, W110, W111, W113, W130, AE64, W131. -/
import Derived.Test.YtbffliejmnokpaaGreatMf
import Derived.Test.YtbffliejmnokpaaGreatMd
import Derived.Test.YtbffliejmnokpaaGreatMe
import Derived.Test.YtbffliejmnokpaaGreatMc
/- W63: lists of operations: joined (slices.Concat), made bare; which are too many. -/
namespace Bow
open Go Go.Proofs
theorem w_GrowOp (n : Nat) (h : n ≤ 10000000) : Fun Tryz.prog 187 [] [.nilsl, .int .i64 n] (fun x T => ∃ g, x = .osl (.loc 0) g 0 0 ∧ T = [some (.vec g 11 [])]) := by
  refine fun_fn 100 Tryz.func187 rfl rfl rfl fun imps B hi => ?_
  have : imps = [] := List.length_eq_zero_iff.1 hi
  subst this
  refine ⟨fun g1 => go 100 ?_, fun g1 => go 100 ?_⟩
  · have := lt_of g1; omega
  show Goes _ _ _ _
  refine goes_cap0 100 rfl rfl rfl rfl rfl ?_
  refine ⟨by constructor <;> omega, by constructor <;> omega, ?_⟩
  refine ⟨fun g2 => go 100 ?_, fun g2 => ?_⟩
  · have g2 := lt_of g2
    show Goes _ _ _ _
    refine goes_cap0 100 rfl rfl rfl rfl rfl ?_
    show Goes _ _ _ _
    refine goes_nilcut 100 rfl rfl rfl rfl rfl rfl rfl ?_
    show Goes _ _ _ _
    refine goes_growTo 100 n rfl rfl rfl rfl (congrArg (V.int .i64) (by omega)) (by omega) rfl rfl rfl rfl rfl (Nat.le_trans (Nat.mul_le_mul_right _ h) (by decide)) ?_
    show Goes _ _ _ _
    refine goes_cut (h := 0) 100 rfl rfl rfl rfl rfl rfl rfl rfl (Nat.zero_le _) ?_
    exact ⟨trivial, rfl, rfl, 2, rfl, rfl⟩
  · refine goes_own 0 11 rfl ?_
    refine go 100 ?_
    exact ⟨trivial, rfl, rfl, 0, rfl, rfl⟩
set_option maxRecDepth 100000 in
theorem w_ConcatOp (ls : List (List V)) (h : ls.flatten.length ≤ 1000000) (hl : ls.length ≤ 1000000) : Pure Tryz.prog 153 [.sl 1 (ls.map (V.sl 11))] (fun x => x = .sl 11 ls.flatten) := by
  refine pure_fn 100 Tryz.func153 rfl rfl rfl fun B => ?_
  show Goes _ _ _ _
  refine goes_iter (ι := Nat) (fun i => i ≤ ls.length) (fun i => ls.length - i) (fun i => [(3, .int .i64 (ls.take i).flatten.length), (11, .int .i64 i), (10, .int .i64 (ls.map (V.sl 11)).length), (9, .sl 1 (ls.map (V.sl 11))), (0, .sl 1 (ls.map (V.sl 11)))]) (fun _ => []) 0 100 (fun _ => rfl) (fun _ => rfl) ⟨Nat.zero_le _, ?_, trivial⟩ ?_
  · exact ⟨⟨rfl, rfl⟩, ⟨rfl, rfl⟩, ⟨rfl, rfl⟩, ⟨rfl, rfl⟩, ⟨rfl, rfl⟩, trivial⟩
  intro i k1 next
  have hb1 := flatten_take_le ls i
  refine ⟨fun hlt => go 100 ?_, fun hge => go 100 ?_⟩
  · have hi : i < ls.length := by simpa using hlt
    have hx : (ls.map (V.sl 11))[i]? = some (.sl 11 ls[i]) := by simp [hi]
    have hb2 := flatten_take_le ls (i + 1)
    have hs := flatten_take_succ hi
    have hsl : (ls.take (i + 1)).flatten.length = (ls.take i).flatten.length + ls[i].length := by rw [hs, List.length_append]
    refine ⟨Int.natCast_nonneg i, _, hx, ?_⟩
    refine ⟨by constructor <;> omega, ?_⟩
    refine ⟨fun g1 => go 100 ?_, fun g1 => go 100 ?_⟩
    · have := lt_of g1; omega
    refine ⟨by constructor <;> omega, ?_⟩
    refine next (i + 1) _ _ ⟨by omega, by omega, ?_, trivial⟩
    exact ⟨⟨by simp only [lk]; exact congrArg (V.int .i64) (by omega), rfl⟩, ⟨rfl, rfl⟩, ⟨rfl, rfl⟩, ⟨rfl, rfl⟩, ⟨rfl, rfl⟩, trivial⟩
  · have hi : i = ls.length := by have : ls.length ≤ i := by simpa using hge
                                  omega
    subst hi
    rw [List.take_length]
    show CallThen _ _ _ _ _ _
    refine call_sub [] (w_GrowOp ls.flatten.length (by omega)) rfl rfl trivial rfl rfl rfl ?_
    rintro x T1 ⟨g, rfl, rfl⟩
    refine ⟨rfl, ?_⟩
    show Goes _ _ _ _
    refine goes_iter (ι := Nat × Nat) (fun i => i.1 ≤ ls.length) (fun i => ls.length - i.1) (fun i => [(6, .osl (.loc 0) i.2 0 (ls.take i.1).flatten.length), (27, .int .i64 i.1), (26, .int .i64 (ls.map (V.sl 11)).length), (25, .sl 1 (ls.map (V.sl 11)))]) (fun i => [some (.vec i.2 11 (ls.take i.1).flatten)]) (0, g) 100 (fun _ => rfl) (fun _ => rfl) ⟨Nat.zero_le _, ?_, ?_⟩ ?_
    · exact ⟨⟨rfl, rfl⟩, ⟨rfl, rfl⟩, ⟨rfl, rfl⟩, ⟨rfl, rfl⟩, trivial⟩
    · exact ⟨⟨rfl, rfl⟩, trivial⟩
    rintro ⟨i, g⟩ k1 next
    have hb1 := flatten_take_le ls i
    simp only at k1 hb1
    refine ⟨fun hlt => go 100 ?_, fun hge => go 100 ?_⟩
    · have hi : i < ls.length := by simpa using hlt
      have hx : (ls.map (V.sl 11))[i]? = some (.sl 11 ls[i]) := by simp [hi]
      have hb2 := flatten_take_le ls (i + 1)
      have hs := flatten_take_succ hi
      have hsl : (ls.take (i + 1)).flatten.length = (ls.take i).flatten.length + ls[i].length := by rw [hs, List.length_append]
      refine ⟨Int.natCast_nonneg i, _, hx, ?_⟩
      simp only
      refine ⟨rfl, rfl, Nat.le_trans (Nat.mul_le_mul_right _ (show _ ≤ 1000000 by omega)) (by decide), ?_⟩
      refine ⟨by constructor <;> omega, ?_⟩
      refine next (i + 1, bump g) _ _ ⟨by simp only; omega, by simp only; omega, ?_, ?_⟩
      · exact ⟨⟨by simp only [lk]; exact congrArg (V.osl _ _ _) hsl.symm, rfl⟩, ⟨rfl, rfl⟩, ⟨rfl, rfl⟩, ⟨rfl, rfl⟩, trivial⟩
      · exact ⟨⟨by rw [hs], rfl⟩, trivial⟩
    · have hi : i = ls.length := by have : ls.length ≤ i := by simpa using hge
                                    omega
      subst hi
      exact ⟨trivial, rfl, rfl, rfl, rfl, rfl, by simp only [List.take_length]⟩
theorem w_much1 (l : List OpT) : Pure Tryz.prog 186 [opsV l] (fun x => x = .bool (decide (4096 < l.length))) := by
  refine pure_wk (pure_fn 300 Tryz.func186 rfl rfl rfl fun B => ?_)
  refine ⟨trivial, rfl, rfl, rfl, leaf_b ?_⟩
  simp only [List.length_map]
  exact decide_eq_decide.2 ⟨fun h => by omega, fun h => by omega⟩
def findL (f : List OpT → Bool) : Nat → List (List OpT) → Int
  | _, [] => -1
  | i, x :: xs => bif f x then i else findL f (i + 1) xs
theorem findL_any (f : List OpT → Bool) : ∀ (xs : List (List OpT)) (i : Nat), decide (0 ≤ findL f i xs) = xs.any f
  | [], i => by simp [findL]
  | x :: xs, i => by
    rw [findL, List.any_cons]
    cases h : f x with
    | true => simp
    | false => simpa using findL_any f xs (i + 1)
def listsV (l : List (List OpT)) : V := .sl 1 (l.map opsV)
set_option maxRecDepth 100000 in
theorem w_IndexMuch (xs : List (List OpT)) (hl : xs.length ≤ 1000000) :
    Pure Tryz.prog 200 [listsV xs, .fn (.func 186) [] []] (fun x => x = .int .i64 (findL (fun l => decide (4096 < l.length)) 0 xs)) := by
  refine pure_fn 100 Tryz.func200 rfl rfl rfl fun B => ?_
  show Goes _ _ _ _
  refine goes_iter (ι := Nat) (fun i => i ≤ xs.length ∧ findL (fun l => decide (4096 < l.length)) i (xs.drop i) = findL (fun l => decide (4096 < l.length)) 0 xs) (fun i => xs.length - i) (fun i => [(8, .int .i64 i), (7, .int .i64 (xs.map opsV).length), (1, .fn (.func 186) [] []), (0, listsV xs)]) (fun _ => []) 0 200 (fun _ => rfl) (fun _ => rfl) ⟨⟨Nat.zero_le _, rfl⟩, ?_, ?_⟩ ?_
  · exact ⟨⟨rfl, rfl⟩, ⟨rfl, rfl⟩, ⟨rfl, rfl⟩, ⟨rfl, rfl⟩, trivial⟩
  · trivial
  · rintro i ⟨h1, h2⟩ next
    refine ⟨fun hlt => go 200 ?_, fun hge => go 200 ?_⟩
    · have hi : i < xs.length := by simpa using hlt
      have hx : (xs.map opsV)[i]? = some (opsV xs[i]) := by simp [hi]
      rw [drop_cons hi, findL] at h2
      refine ⟨Int.natCast_nonneg i, _, hx, ?_⟩
      show CallThen _ _ _ _ _ _
      refine call_pure (w_much1 xs[i]) rfl ?_
      rintro x rfl
      refine ⟨fun h => go 200 ?_, fun h => go 200 ?_⟩
      · rw [h] at h2
        exact ⟨trivial, rfl, rfl, rfl, by rw [← h2]; rfl⟩
      · rw [h] at h2
        refine ⟨by constructor <;> omega, ?_⟩
        show Goes _ _ _ _
        exact next (i + 1) _ _ ⟨⟨hi, h2⟩, by omega, ⟨⟨rfl, rfl⟩, ⟨rfl, rfl⟩, ⟨rfl, rfl⟩, ⟨rfl, rfl⟩, trivial⟩, trivial⟩
    · have hi : xs.length ≤ i := by simpa using hge
      rw [List.drop_eq_nil_of_le hi] at h2
      exact ⟨trivial, rfl, rfl, rfl, by rw [← h2]; rfl⟩
theorem w_much (xs : List (List OpT)) (hl : xs.length ≤ 1000000) : Pure Tryz.prog 152 [listsV xs] (fun x => x = .bool (xs.any fun l => decide (4096 < l.length))) := by
  have hc : Pure Tryz.prog 185 [listsV xs, .fn (.func 186) [] []] (fun x => x = .bool (xs.any fun l => decide (4096 < l.length))) := by
    refine pure_fn 100 Tryz.func185 rfl rfl rfl fun B => ?_
    show CallThen _ _ _ _ _ _
    refine call_pure (w_IndexMuch xs hl) rfl ?_
    rintro x rfl
    exact ⟨trivial, rfl, rfl, rfl, by rw [← findL_any _ xs 0]; rfl⟩
  refine pure_fn 100 Tryz.func152 rfl rfl rfl fun B => ?_
  show CallThen _ _ _ _ _ _
  refine call_pure hc rfl ?_
  rintro x rfl
  exact ⟨trivial, rfl, rfl, rfl, rfl⟩
end Bow
/- SP24: lists of operations behind each other, in plain Lean; that it ends. -/
namespace Bow
open Go
def muchP (xs ys : List OpT) : Bool:=decide (4096 < xs.length) || decide (4096 < ys.length)
def bringS (prior : Bool) (f : List OpT → List OpT → Option (List OpT × List OpT × Int)) (xs ys : List OpT) : Option (List OpT × List OpT × Int) :=
 bif muchP xs ys then some ([],[],3)
 else match xs,ys with
  | [],ys => some ([],ys,0)
  | a :: xs,[] => some (a :: xs,[],0)
  | a :: a' :: xs,b :: ys => match f [a] (b :: ys) with
   | none => none
   | some (x,y,e) => bif !decide (e = 0) then some ([],[],e) else match f (a' :: xs) y with
    | none => none
    | some (z,w,e) => bif !decide (e = 0) then some ([],[],e) else bif muchP (x ++ z) w then some ([],[],3) else some (x ++ z,w,0)
  | [a],b :: b' :: ys => match f [a] [b] with
   | none => none
   | some (x,y,e) => bif !decide (e = 0) then some ([],[],e) else match f x (b' :: ys) with
    | none => none
    | some (z,w,e) => bif !decide (e = 0) then some ([],[],e) else bif muchP z (y ++ w) then some ([],[],3) else some (z,y ++ w,0)
  | [a],[b] => some (bothX a b prior)
def bringF (prior : Bool) : Nat → List OpT → List OpT → Option (List OpT × List OpT × Int)
 | 0 => fun _ _ => none
 | n + 1 => bringS prior (bringF prior n)
theorem bringF_succ (prior : Bool) (n : Nat) (xs ys : List OpT) : bringF prior (n + 1) xs ys = bringS prior (bringF prior n) xs ys:=rfl
def mv1 (o : OpT) : Nat:=bif decide (o.kind = 3) then 1 else 0
def mvs (l : List OpT) : Nat:=(l.map mv1).sum
theorem mvs_nil : mvs [] = 0:=rfl
theorem mvs_cons (o : OpT) (l : List OpT) : mvs (o :: l) = mv1 o + mvs l:=by simp [mvs]
theorem mvs_append (a b : List OpT) : mvs (a ++ b) = mvs a + mvs b:=by simp [mvs]
theorem mv1_le (o : OpT) : mv1 o ≤ 1:=by unfold mv1;cases decide (o.kind = 3) <;> simp
theorem bare_kind (o : OpT) : (bareO o).kind = o.kind:=by
 unfold bareO
 cases h1 : o.kind == 1 with
 | true => exact (eq_of_beq h1).symm
 | false => cases h2 : o.kind == 2 with
  | true => exact (eq_of_beq h2).symm
  | false => cases h3 : o.kind == 3 with
   | true => exact (eq_of_beq h3).symm
   | false => cases h4 : o.kind == 4 with
    | true => exact (eq_of_beq h4).symm
    | false => cases h5 : o.kind == 5 with
     | true => exact (eq_of_beq h5).symm
     | false => cases h6 : o.kind == 6 with
      | true => exact (eq_of_beq h6).symm
      | false => rfl
theorem mv1_bare (o : OpT) : mv1 (bareO o) = mv1 o:=by unfold mv1;rw [bare_kind]
theorem mvs_bare (l : List OpT) : mvs (l.map bareO) = mvs l:=by
 induction l with
 | nil => rfl
 | cons o l ih => rw [List.map_cons,mvs_cons,mvs_cons,ih,mv1_bare]
theorem mv1_of {o o' : OpT} (h : o.kind = o'.kind) : mv1 o = mv1 o':=by unfold mv1;rw [h]
theorem shifted_kind (b a : OpT) (p : Bool) : (shiftedO b a p).kind = b.kind:=by
 unfold shiftedO
 cases decide (b.kind = 1) <;> cases decide (b.kind = 3) <;> rfl
theorem mv1_drop (p : List Int) : mv1 (dropO p) = 0:=rfl
theorem row_two {b a : OpT} {p : Bool} (h : (rowO b a p).length = 2) : rowO a b (!p) = [] ∧ ((a.kind = 3 ∧ b.kind = 2 ∧ mvs (rowO b a p) = 0) ∨ (a.kind = 3 ∧ b.kind = 3 ∧ p = true ∧ mvs (rowO b a p) ≤ 2)):=by
 unfold rowO at h ⊢
 cases h1 : decide (a.kind = 2) with
 | true =>
  rw [h1] at h
  cases h2 : within a.path b.path with
  | true => rw [h2] at h;cases h
  | false =>
   rw [h2] at h
   cases h3 : decide (b.kind = 3) && within a.path b.to <;> (rw [h3] at h;cases h)
 | false =>
  rw [h1] at h
  cases h2 : wonO b a with
  | true => rw [h2] at h;cases p <;> cases h
  | false =>
   rw [h2] at h
   have k1 : a.kind ≠ 2:=of_decide_eq_false h1
   cases h3 : decide (a.kind = 3) with
   | false => rw [h3] at h;cases h
   | true =>
    rw [h3] at h
    have k3 : a.kind = 3:=of_decide_eq_true h3
    cases h4 : decide (b.kind = 2) with
    | true =>
     rw [h4] at h
     have k4 : b.kind = 2:=of_decide_eq_true h4
     cases h5 : within b.path a.path && (!decide (b.path = a.path) && !within b.path a.to) with
     | false => rw [h5] at h;cases h
     | true =>
      rw [Bool.and_eq_true] at h5
      refine ⟨?_,.inl ⟨k3,k4,?_⟩⟩
      ·rw [h5.1];rfl
      ·simp [mvs_cons,mvs_nil,mv1_drop]
    | false =>
     rw [h4] at h
     cases h5 : decide (b.kind = 3) && (within b.path a.to && within a.path b.to) with
     | false => rw [h5] at h;cases h
     | true =>
      rw [h5] at h
      have h5':=h5
      simp only [Bool.and_eq_true,decide_eq_true_eq] at h5
      obtain ⟨k5,w1,w2⟩:=h5
      cases p with
      | false => cases h
      | true =>
       have hwon : wonO a b = false:=by
        unfold wonO at h2 ⊢
        simp only [k3,k5] at h2 ⊢
        have : decide (b.path = a.path) = decide (a.path = b.path):=decide_eq_decide.2 ⟨fun h => h.symm,fun h => h.symm⟩
        simpa [this] using h2
       refine ⟨?_,.inr ⟨k3,k5,rfl,?_⟩⟩
       ·rw [hwon]
        simp [k5,w1,w2]
       ·have:=mv1_le (undoO a)
        have:=mv1_le b
        simp [mvs_cons,mvs_nil]
        omega
theorem row_one {b a : OpT} {p : Bool} (h : (rowO b a p).length ≠ 2) : mvs (rowO b a p) ≤ mv1 b:=by
 have e0 : mvs [] ≤ mv1 b:=Nat.zero_le _
 have e1 : mvs [shiftedO b a p] ≤ mv1 b:=Nat.le_of_eq (by simp [mvs_cons,mvs_nil,mv1_of (shifted_kind b a p)])
 have e2 : ∀ q,mvs [dropO q] ≤ mv1 b:=fun q => by simp [mvs_cons,mvs_nil,mv1_drop]
 unfold rowO at h ⊢
 cases h1 : decide (a.kind = 2) with
 | true =>
  cases h2 : within a.path b.path with
  | true => exact e0
  | false => cases h3 : decide (b.kind = 3) && within a.path b.to with
   | true => exact e2 _
   | false => exact e1
 | false =>
  rw [h1] at h
  cases h2 : wonO b a with
  | true => cases p with
   | true => exact e1
   | false => exact e0
  | false =>
   rw [h2] at h
   cases h3 : decide (a.kind = 3) with
   | false => exact e1
   | true =>
    rw [h3] at h
    cases h4 : decide (b.kind = 2) with
    | true =>
     rw [h4] at h
     cases h5 : within b.path a.path && (!decide (b.path = a.path) && !within b.path a.to) with
     | false => exact e1
     | true => rw [h5] at h;exact absurd rfl h
    | false =>
     rw [h4] at h
     cases h5 : decide (b.kind = 3) && (within b.path a.to && within a.path b.to) with
     | false => exact e1
     | true =>
      rw [h5] at h
      cases p with
      | true => exact absurd rfl h
      | false => exact e0
structure Inv (prior : Bool) (xs ys x y : List OpT) : Prop where
 s : x.length + y.length ≤ xs.length + ys.length
 m : mvs x + mvs y ≤ mvs xs + mvs ys
 t : x.length + y.length = xs.length + ys.length → mvs x + mvs y = mvs xs + mvs ys → (bif prior then y.length else x.length) ≤ (bif prior then ys.length else xs.length)
theorem sound_kinds {b a : OpT} {p : Bool} {l : List OpT} (hs : soundO a = true ∧ soundO b = true) (he : bothEdit b a = false) (h : behindX b a p = (l,0)) : l = (rowO b a p).map bareO:=by
 unfold behindX at h
 rw [he] at h
 unfold behindO at h
 rw [hs.1,hs.2] at h
 simp only [Bool.not_true,Bool.or_self,cond_false] at h
 cases hf : (rowO b a p).all formedB with
 | true => rw [hf] at h;exact (Prod.mk.inj h).1.symm
 | false => rw [hf] at h;simp at h
theorem behX_sound {b a : OpT} {p : Bool} {l : List OpT} (h : behindX b a p = (l,0)) : soundO a = true ∧ soundO b = true:=by
 unfold behindX at h
 cases he : bothEdit b a with
 | true =>
  rw [he] at h
  unfold behindE at h
  cases ha : soundO a <;> cases hb : soundO b <;> simp_all
 | false =>
  rw [he] at h
  unfold behindO at h
  cases ha : soundO a <;> cases hb : soundO b <;> simp_all
theorem bothX_ok {a b : OpT} {prior : Bool} {x y : List OpT} (h : bothX a b prior = (x,y,0)) : behindX a b prior = (x,0) ∧ behindX b a (!prior) = (y,0):=by
 unfold bothX at h
 by_cases h1 : (behindX a b prior).2 = 0
 ·by_cases h2 : (behindX b a (!prior)).2 = 0
  ·rw [decide_eq_true h1,decide_eq_true h2] at h
   injection h with e1 e2
   injection e2 with e2 _
   exact ⟨Prod.ext e1 h1,Prod.ext e2 h2⟩
  ·rw [decide_eq_true h1,decide_eq_false h2] at h
   injection h with _ e2
   injection e2 with _ e2
   exact absurd e2 h2
 ·rw [decide_eq_false h1] at h
  injection h with _ e2
  injection e2 with _ e2
  exact absurd e2 h1
theorem edit_mv {b a : OpT} {p : Bool} {l : List OpT} (he : bothEdit b a = true) (h : behindX b a p = (l,0)) : l.length = 1 ∧ mvs l = 0:=by
 unfold behindX at h
 rw [he] at h
 unfold behindE at h
 have hk : b.kind = 6:=by
  unfold bothEdit at he
  simp only [Bool.and_eq_true,decide_eq_true_eq] at he
  exact he.2.1
 cases ha : !soundO a || !soundO b with
 | true => rw [ha] at h;simp at h
 | false =>
  rw [ha] at h
  cases hc : decide ((transP b.pieces a.pieces p).2.2 = 0) && formedB (editO b a p) with
  | false => rw [hc] at h;simp at h
  | true =>
   rw [hc] at h
   have:=(Prod.mk.inj h).1
   subst this
   refine ⟨rfl,?_⟩
   have : mv1 (bareO (editO b a p)) = 0:=by
    rw [mv1_bare]
    unfold mv1
    have : (editO b a p).kind = 6:=hk
    simp [this]
   simp [mvs_cons,mvs_nil,this]
theorem cell_inv {a b : OpT} {prior : Bool} {x y : List OpT} (h : bothX a b prior = (x,y,0)) : Inv prior [a] [b] x y:=by
 obtain ⟨h1,h2⟩:=bothX_ok h
 have hs:=behX_sound h1
 cases he : bothEdit a b with
 | true =>
  obtain ⟨q1,q2⟩:=edit_mv he h1
  obtain ⟨q3,q4⟩:=edit_mv (by rw [bothEdit_comm];exact he) h2
  exact ⟨by simp [q1,q3],by omega,fun _ _ => by cases prior <;> simp [q1,q3]⟩
 | false =>
  have ex:=sound_kinds hs he h1
  have ey:=sound_kinds ⟨hs.2,hs.1⟩ (by rw [bothEdit_comm];exact he) h2
  have lx : x.length = (rowO a b prior).length:=by rw [ex];simp
  have ly : y.length = (rowO b a (!prior)).length:=by rw [ey];simp
  have mx : mvs x = mvs (rowO a b prior):=by rw [ex,mvs_bare]
  have my : mvs y = mvs (rowO b a (!prior)):=by rw [ey,mvs_bare]
  have ba:=row_len a b prior
  have bb:=row_len b a (!prior)
  by_cases c1 : (rowO a b prior).length = 2
  ·obtain ⟨r0,rk⟩:=row_two c1
   rw [r0] at ly my
   rcases rk with ⟨k1,k2,k3⟩ | ⟨k1,k2,k3,k4⟩
   ·have : mv1 b = 1:=by unfold mv1;simp [k1]
    refine ⟨by simp only [List.length_cons,List.length_nil] at ly ⊢;omega,by simp only [mvs_cons,mvs_nil] at my ⊢;omega,fun _ hm => ?_⟩
    simp only [mvs_cons,mvs_nil] at my hm
    omega
   ·have q1 : mv1 b = 1:=by unfold mv1;simp [k1]
    have q2 : mv1 a = 1:=by unfold mv1;simp [k2]
    refine ⟨by simp only [List.length_cons,List.length_nil] at ly ⊢;omega,by simp only [mvs_cons,mvs_nil] at my ⊢;omega,fun _ _ => ?_⟩
    rw [k3]
    simp only [cond_true,List.length_nil] at ly ⊢
    omega
  ·have m1:=row_one c1
   by_cases c2 : (rowO b a (!prior)).length = 2
   ·obtain ⟨r0,rk⟩:=row_two c2
    rw [Bool.not_not] at r0
    rw [r0] at lx mx
    rcases rk with ⟨k1,k2,k3⟩ | ⟨k1,k2,k3,k4⟩
    ·have : mv1 a = 1:=by unfold mv1;simp [k1]
     refine ⟨by simp only [List.length_cons,List.length_nil] at lx ⊢;omega,by simp only [mvs_cons,mvs_nil] at mx ⊢;omega,fun _ hm => ?_⟩
     simp only [mvs_cons,mvs_nil] at mx hm
     omega
    ·have q1 : mv1 a = 1:=by unfold mv1;simp [k1]
     have q2 : mv1 b = 1:=by unfold mv1;simp [k2]
     have hp : prior = false:=by simpa using k3
     refine ⟨by simp only [List.length_cons,List.length_nil] at lx ⊢;omega,by simp only [mvs_cons,mvs_nil] at mx ⊢;omega,fun _ _ => ?_⟩
     rw [hp]
     simp only [cond_false,List.length_nil] at lx ⊢
     omega
   ·have m2:=row_one c2
    refine ⟨by simp only [List.length_cons,List.length_nil];omega,by simp only [mvs_cons,mvs_nil];omega,fun _ _ => ?_⟩
    cases prior <;> simp only [cond_true,cond_false,List.length_cons,List.length_nil] <;> omega
theorem bringF_inv (prior : Bool) : ∀ (n : Nat) (xs ys x y : List OpT),bringF prior n xs ys = some (x,y,0) → Inv prior xs ys x y
 | 0,_,_,_,_,h => by cases h
 | n + 1,xs,ys,x,y,h => by
  rw [bringF_succ] at h
  unfold bringS at h
  cases hm : muchP xs ys with
  | true => rw [hm] at h;simp at h
  | false =>
   rw [hm,cond_false] at h
   match xs,ys,h with
   | [],ys,h =>
    simp only [Option.some.injEq,Prod.mk.injEq] at h
    obtain ⟨rfl,rfl,_⟩:=h
    exact ⟨Nat.le_refl _,Nat.le_refl _,fun _ _ => Nat.le_refl _⟩
   | a :: xs,[],h =>
    simp only [Option.some.injEq,Prod.mk.injEq] at h
    obtain ⟨rfl,rfl,_⟩:=h
    exact ⟨Nat.le_refl _,Nat.le_refl _,fun _ _ => Nat.le_refl _⟩
   | [a],[b],h =>
    simp only [Option.some.injEq] at h
    exact cell_inv h
   | a :: a' :: xs,b :: ys,h =>
    simp only at h
    cases h1 : bringF prior n [a] (b :: ys) with
    | none => rw [h1] at h;cases h
    | some r =>
     obtain ⟨x1,y1,e1⟩:=r
     rw [h1] at h
     simp only at h
     by_cases he : e1 = 0
     ·subst he
      simp only [decide_true,Bool.not_true,cond_false] at h
      cases h2 : bringF prior n (a' :: xs) y1 with
      | none => rw [h2] at h;cases h
      | some r =>
       obtain ⟨z,w,e2⟩:=r
       rw [h2] at h
       simp only at h
       by_cases he : e2 = 0
       ·subst he
        simp only [decide_true,Bool.not_true,cond_false] at h
        cases hmm : muchP (x1 ++ z) w with
        | true => rw [hmm] at h;simp at h
        | false =>
         rw [hmm] at h
         simp only [cond_false,Option.some.injEq,Prod.mk.injEq,and_true] at h
         obtain ⟨rfl,rfl⟩:=h
         have i1:=bringF_inv prior n _ _ _ _ h1
         have i2:=bringF_inv prior n _ _ _ _ h2
         have s1:=i1.s
         have s2:=i2.s
         have m1:=i1.m
         have m2:=i2.m
         simp only [mvs_cons,mvs_nil,List.length_cons,List.length_nil] at s1 s2 m1 m2
         refine ⟨by simp only [List.length_append,List.length_cons];omega,by simp only [mvs_append,mvs_cons];omega,fun q1 q2 => ?_⟩
         simp only [List.length_append,List.length_cons,mvs_append,mvs_cons] at q1 q2
         have t1:=i1.t (by simp only [List.length_cons,List.length_nil];omega) (by simp only [mvs_cons,mvs_nil];omega)
         have t2:=i2.t (by simp only [List.length_cons];omega) (by simp only [mvs_cons];omega)
         cases prior <;> simp only [cond_true,cond_false,List.length_cons,List.length_nil,List.length_append] at t1 t2 ⊢ <;> omega
       ·simp [he] at h
     ·simp [he] at h
   | [a],b :: b' :: ys,h =>
    simp only at h
    cases h1 : bringF prior n [a] [b] with
    | none => rw [h1] at h;cases h
    | some r =>
     obtain ⟨x1,y1,e1⟩:=r
     rw [h1] at h
     simp only at h
     by_cases he : e1 = 0
     ·subst he
      simp only [decide_true,Bool.not_true,cond_false] at h
      cases h2 : bringF prior n x1 (b' :: ys) with
      | none => rw [h2] at h;cases h
      | some r =>
       obtain ⟨z,w,e2⟩:=r
       rw [h2] at h
       simp only at h
       by_cases he : e2 = 0
       ·subst he
        simp only [decide_true,Bool.not_true,cond_false] at h
        cases hmm : muchP z (y1 ++ w) with
        | true => rw [hmm] at h;simp at h
        | false =>
         rw [hmm] at h
         simp only [cond_false,Option.some.injEq,Prod.mk.injEq,and_true] at h
         obtain ⟨rfl,rfl⟩:=h
         have i1:=bringF_inv prior n _ _ _ _ h1
         have i2:=bringF_inv prior n _ _ _ _ h2
         have s1:=i1.s
         have s2:=i2.s
         have m1:=i1.m
         have m2:=i2.m
         simp only [mvs_cons,mvs_nil,List.length_cons,List.length_nil] at s1 s2 m1 m2
         refine ⟨by simp only [List.length_append,List.length_cons,List.length_nil];omega,by simp only [mvs_append,mvs_cons,mvs_nil];omega,fun q1 q2 => ?_⟩
         simp only [List.length_append,List.length_cons,List.length_nil,mvs_append,mvs_cons,mvs_nil] at q1 q2
         have t1:=i1.t (by simp only [List.length_cons,List.length_nil];omega) (by simp only [mvs_cons,mvs_nil];omega)
         have t2:=i2.t (by simp only [List.length_cons];omega) (by simp only [mvs_cons];omega)
         cases prior <;> simp only [cond_true,cond_false,List.length_cons,List.length_nil,List.length_append] at t1 t2 ⊢ <;> omega
       ·simp [he] at h
     ·simp [he] at h
theorem bringF_err {prior : Bool} : ∀ {n : Nat} {xs ys x y : List OpT} {e : Int},bringF prior n xs ys = some (x,y,e) → e ≠ 0 → x = [] ∧ y = []
 | 0,_,_,_,_,_,h,_ => by cases h
 | n + 1,xs,ys,x,y,e,h,he => by
  rw [bringF_succ] at h
  unfold bringS at h
  cases hm : muchP xs ys with
  | true => rw [hm] at h;simp at h;exact ⟨h.1,h.2.1⟩
  | false =>
   rw [hm,cond_false] at h
   match xs,ys,h with
   | [],ys,h => simp at h;exact absurd h.2.2.symm he
   | a :: xs,[],h => simp at h;exact absurd h.2.2.symm he
   | [a],[b],h =>
    simp only [Option.some.injEq] at h
    unfold bothX at h
    cases h1 : decide ((behindX a b prior).2 = 0) with
    | false => rw [h1] at h;simp at h;exact ⟨h.1,h.2.1⟩
    | true => cases h2 : decide ((behindX b a (!prior)).2 = 0) with
     | false => rw [h1,h2] at h;simp at h;exact ⟨h.1,h.2.1⟩
     | true => rw [h1,h2] at h;simp at h;exact absurd h.2.2.symm he
   | a :: a' :: xs,b :: ys,h =>
    simp only at h
    cases h1 : bringF prior n [a] (b :: ys) with
    | none => rw [h1] at h;cases h
    | some r =>
     obtain ⟨x1,y1,e1⟩:=r
     rw [h1] at h
     simp only at h
     cases h3 : !decide (e1 = 0) with
     | true => rw [h3] at h;simp at h;exact ⟨h.1,h.2.1⟩
     | false =>
      rw [h3,cond_false] at h
      cases h2 : bringF prior n (a' :: xs) y1 with
      | none => rw [h2] at h;cases h
      | some r =>
       obtain ⟨z,w,e2⟩:=r
       rw [h2] at h
       simp only at h
       cases h4 : !decide (e2 = 0) with
       | true => rw [h4] at h;simp at h;exact ⟨h.1,h.2.1⟩
       | false =>
        rw [h4,cond_false] at h
        cases hmm : muchP (x1 ++ z) w with
        | true => rw [hmm] at h;simp at h;exact ⟨h.1,h.2.1⟩
        | false => rw [hmm] at h;simp at h;exact absurd h.2.2.symm he
   | [a],b :: b' :: ys,h =>
    simp only at h
    cases h1 : bringF prior n [a] [b] with
    | none => rw [h1] at h;cases h
    | some r =>
     obtain ⟨x1,y1,e1⟩:=r
     rw [h1] at h
     simp only at h
     cases h3 : !decide (e1 = 0) with
     | true => rw [h3] at h;simp at h;exact ⟨h.1,h.2.1⟩
     | false =>
      rw [h3,cond_false] at h
      cases h2 : bringF prior n x1 (b' :: ys) with
      | none => rw [h2] at h;cases h
      | some r =>
       obtain ⟨z,w,e2⟩:=r
       rw [h2] at h
       simp only at h
       cases h4 : !decide (e2 = 0) with
       | true => rw [h4] at h;simp at h;exact ⟨h.1,h.2.1⟩
       | false =>
        rw [h4,cond_false] at h
        cases hmm : muchP z (y1 ++ w) with
        | true => rw [hmm] at h;simp at h;exact ⟨h.1,h.2.1⟩
        | false => rw [hmm] at h;simp at h;exact absurd h.2.2.symm he
theorem bringF_mono (prior : Bool) : ∀ (n : Nat) (xs ys : List OpT) (r),bringF prior n xs ys = some r → bringF prior (n + 1) xs ys = some r
 | 0,_,_,_,h => by cases h
 | n + 1,xs,ys,r,h => by
  rw [bringF_succ] at h ⊢
  unfold bringS at h ⊢
  cases hm : muchP xs ys with
  | true => rw [hm] at h;exact h
  | false =>
   rw [hm,cond_false] at h
   rw [cond_false]
   match xs,ys,h with
   | [],ys,h => exact h
   | a :: xs,[],h => exact h
   | [a],[b],h => exact h
   | a :: a' :: xs,b :: ys,h =>
    simp only at h ⊢
    cases h1 : bringF prior n [a] (b :: ys) with
    | none => rw [h1] at h;cases h
    | some r1 =>
     rw [h1] at h
     rw [bringF_mono prior n _ _ _ h1]
     obtain ⟨x1,y1,e1⟩:=r1
     simp only at h ⊢
     cases he : !decide (e1 = 0) with
     | true => rw [he] at h;exact h
     | false =>
      rw [he,cond_false] at h
      rw [cond_false]
      cases h2 : bringF prior n (a' :: xs) y1 with
      | none => rw [h2] at h;cases h
      | some r2 => rw [h2] at h;rw [bringF_mono prior n _ _ _ h2];exact h
   | [a],b :: b' :: ys,h =>
    simp only at h ⊢
    cases h1 : bringF prior n [a] [b] with
    | none => rw [h1] at h;cases h
    | some r1 =>
     rw [h1] at h
     rw [bringF_mono prior n _ _ _ h1]
     obtain ⟨x1,y1,e1⟩:=r1
     simp only at h ⊢
     cases he : !decide (e1 = 0) with
     | true => rw [he] at h;exact h
     | false =>
      rw [he,cond_false] at h
      rw [cond_false]
      cases h2 : bringF prior n x1 (b' :: ys) with
      | none => rw [h2] at h;cases h
      | some r2 => rw [h2] at h;rw [bringF_mono prior n _ _ _ h2];exact h
theorem bringF_le {prior : Bool} {n m : Nat} {xs ys : List OpT} {r} (h : bringF prior n xs ys = some r) (hn : n ≤ m) : bringF prior m xs ys = some r:=by
 induction hn with
 | refl => exact h
 | step _ ih => exact bringF_mono prior _ _ _ _ ih
theorem bringF_det {prior : Bool} {n m : Nat} {xs ys : List OpT} {r r'} (h : bringF prior n xs ys = some r) (h' : bringF prior m xs ys = some r') : r = r':=by
 have h1:=bringF_le h (Nat.le_max_left n m)
 rw [bringF_le h' (Nat.le_max_right n m)] at h1
 injection h1 with h1
 exact h1.symm
theorem bringF_total (prior : Bool) : ∀ (s m t : Nat) (xs ys : List OpT),xs.length + ys.length = s → mvs xs + mvs ys = m → (bif prior then ys.length else xs.length) = t → ∃ n r,bringF prior n xs ys = some r:=by
 intro s
 induction s using Nat.strongRecOn with
 | _ s ihs =>
 intro m
 induction m using Nat.strongRecOn with
 | _ m ihm =>
 intro t
 induction t using Nat.strongRecOn with
 | _ t iht =>
 intro xs ys hs hm ht
 have hrec : ∀ (x y : List OpT),(x.length + y.length < s ∨ (x.length + y.length = s ∧ (mvs x + mvs y < m ∨ (mvs x + mvs y = m ∧ (bif prior then y.length else x.length) < t)))) → ∃ n r,bringF prior n x y = some r:=by
  intro x y h
  rcases h with h | ⟨h1,h | ⟨h2,h3⟩⟩
  ·exact ihs _ h _ _ x y rfl rfl rfl
  ·exact ihm _ h _ x y h1 rfl rfl
  ·exact iht _ h3 x y h1 h2 rfl
 match xs,ys,hs,hm,ht with
 | [],ys,_,_,_ => exact ⟨1,by rw [bringF_succ];unfold bringS;cases muchP [] ys <;> exact ⟨_,rfl⟩⟩
 | a :: xs,[],_,_,_ => exact ⟨1,by rw [bringF_succ];unfold bringS;cases muchP (a :: xs) [] <;> exact ⟨_,rfl⟩⟩
 | [a],[b],_,_,_ => exact ⟨1,by rw [bringF_succ];unfold bringS;cases muchP [a] [b] <;> exact ⟨_,rfl⟩⟩
 | a :: a' :: xs,b :: ys,hs,hm,ht =>
  simp only [List.length_cons,mvs_cons] at hs hm ht
  obtain ⟨n1,⟨x1,y1,e1⟩,h1⟩:=hrec [a] (b :: ys) (.inl (by simp only [List.length_cons,List.length_nil];omega))
  by_cases he : e1 = 0
  ·subst he
   have i1:=bringF_inv prior n1 _ _ _ _ h1
   have s1:=i1.s
   have m1:=i1.m
   have t1:=i1.t
   simp only [mvs_cons,mvs_nil,List.length_cons,List.length_nil] at s1 m1 t1
   obtain ⟨n2,⟨z,w,e2⟩,h2⟩:=hrec (a' :: xs) y1 (by
    simp only [List.length_cons,mvs_cons]
    by_cases c1 : xs.length + 1 + y1.length < s
    ·exact .inl c1
    ·refine .inr ⟨by omega,?_⟩
     by_cases c2 : mv1 a' + mvs xs + mvs y1 < m
     ·exact .inl c2
     ·refine .inr ⟨by omega,?_⟩
      have:=t1 (by omega) (by omega)
      cases prior <;> simp only [cond_true,cond_false] at this ht ⊢ <;> omega)
   refine ⟨max n1 n2 + 1,?_⟩
   rw [bringF_succ]
   unfold bringS
   cases muchP (a :: a' :: xs) (b :: ys) with
   | true => exact ⟨_,rfl⟩
   | false =>
    rw [cond_false]
    simp only
    rw [bringF_le h1 (Nat.le_max_left _ _)]
    simp only [decide_true,Bool.not_true,cond_false]
    rw [bringF_le h2 (Nat.le_max_right _ _)]
    simp only
    cases !decide (e2 = 0) <;> cases muchP (x1 ++ z) w <;> exact ⟨_,rfl⟩
  ·refine ⟨n1 + 1,?_⟩
   rw [bringF_succ]
   unfold bringS
   cases muchP (a :: a' :: xs) (b :: ys) with
   | true => exact ⟨_,rfl⟩
   | false =>
    rw [cond_false]
    simp only
    rw [h1]
    simp only [decide_eq_false he,Bool.not_false,cond_true]
    exact ⟨_,rfl⟩
 | [a],b :: b' :: ys,hs,hm,ht =>
  simp only [List.length_cons,List.length_nil,mvs_cons,mvs_nil] at hs hm ht
  obtain ⟨n1,⟨x1,y1,e1⟩,h1⟩:=hrec [a] [b] (.inl (by simp only [List.length_cons,List.length_nil];omega))
  by_cases he : e1 = 0
  ·subst he
   have i1:=bringF_inv prior n1 _ _ _ _ h1
   have s1:=i1.s
   have m1:=i1.m
   have t1:=i1.t
   simp only [mvs_cons,mvs_nil,List.length_cons,List.length_nil] at s1 m1 t1
   obtain ⟨n2,⟨z,w,e2⟩,h2⟩:=hrec x1 (b' :: ys) (by
    simp only [List.length_cons,mvs_cons]
    by_cases c1 : x1.length + (ys.length + 1) < s
    ·exact .inl c1
    ·refine .inr ⟨by omega,?_⟩
     by_cases c2 : mvs x1 + (mv1 b' + mvs ys) < m
     ·exact .inl c2
     ·refine .inr ⟨by omega,?_⟩
      have:=t1 (by omega) (by omega)
      cases prior <;> simp only [cond_true,cond_false] at this ht ⊢ <;> omega)
   refine ⟨max n1 n2 + 1,?_⟩
   rw [bringF_succ]
   unfold bringS
   cases muchP [a] (b :: b' :: ys) with
   | true => exact ⟨_,rfl⟩
   | false =>
    rw [cond_false]
    simp only
    rw [bringF_le h1 (Nat.le_max_left _ _)]
    simp only [decide_true,Bool.not_true,cond_false]
    rw [bringF_le h2 (Nat.le_max_right _ _)]
    simp only
    cases !decide (e2 = 0) <;> cases muchP z (y1 ++ w) <;> exact ⟨_,rfl⟩
  ·refine ⟨n1 + 1,?_⟩
   rw [bringF_succ]
   unfold bringS
   cases muchP [a] (b :: b' :: ys) with
   | true => exact ⟨_,rfl⟩
   | false =>
    rw [cond_false]
    simp only
    rw [h1]
    simp only [decide_eq_false he,Bool.not_false,cond_true]
    exact ⟨_,rfl⟩
theorem bring_ends (prior : Bool) (xs ys : List OpT) : ∃ n r,bringF prior n xs ys = some r:=bringF_total prior _ _ _ xs ys rfl rfl rfl
end Bow
/- W64: lists.bring, Both. -/
namespace Bow
open Go Go.Proofs
def OkL (l : List OpT) : Prop:=∀ o ∈ l,o.Ok ∧ o.to.length ≤ 1000
theorem bare_formed_ok {o : OpT} (h : formedB o = true) : (bareO o).Ok ∧ (bareO o).to.length ≤ 1000:=by
 have hp:=may_len (formed_path h)
 have nil : ∀ k : Int,(noOp k).Ok:=fun k => ⟨⟨Nat.zero_le _,Nat.zero_le _,Nat.zero_le _,Nat.zero_le _,Nat.zero_le _,Nat.zero_le _⟩,Nat.zero_le _⟩
 unfold bareO
 cases k1 : o.kind == 1 with
 | true =>
  have hk : o.kind = 1:=eq_of_beq k1
  have hl : o.label.length ≤ 64:=by
   unfold formedB at h
   rw [hk] at h
   simp only [Bool.and_eq_true] at h
   have:=h.2
   simp at this
   omega
  exact ⟨⟨⟨by show o.path.length ≤ _;omega,Nat.zero_le _,by show o.label.length ≤ _;omega,Nat.zero_le _,Nat.zero_le _,Nat.zero_le _⟩,Nat.zero_le _⟩,Nat.zero_le _⟩
 | false => cases k2 : o.kind == 2 with
  | true => exact ⟨⟨⟨by show o.path.length ≤ _;omega,Nat.zero_le _,Nat.zero_le _,Nat.zero_le _,Nat.zero_le _,Nat.zero_le _⟩,Nat.zero_le _⟩,Nat.zero_le _⟩
  | false => cases k3 : o.kind == 3 with
   | true =>
    have ht:=may_len (good_to h (eq_of_beq k3))
    exact ⟨⟨⟨by show o.path.length ≤ _;omega,by show o.to.length ≤ _;omega,Nat.zero_le _,Nat.zero_le _,Nat.zero_le _,Nat.zero_le _⟩,Nat.zero_le _⟩,by show o.to.length ≤ _;omega⟩
   | false => cases k4 : o.kind == 4 with
    | true =>
     have hk : o.kind = 4:=eq_of_beq k4
     have hl : o.key.length ≤ 64 ∧ (o.gone = true ∨ o.value.length ≤ 256):=by
      unfold formedB at h
      rw [hk] at h
      simp [keyOk] at h
      exact ⟨h.2.1.2,h.2.2.imp id (fun h => by omega)⟩
     refine ⟨⟨⟨by show o.path.length ≤ _;omega,Nat.zero_le _,Nat.zero_le _,by show o.key.length ≤ _;omega,?_,Nat.zero_le _⟩,Nat.zero_le _⟩,Nat.zero_le _⟩
     show (bif o.gone then [] else o.value : List UInt8).length ≤ _
     rcases hl.2 with hg | hg
     ·rw [hg];exact Nat.zero_le _
     ·cases o.gone with
      | true => exact Nat.zero_le _
      | false => show o.value.length ≤ _;omega
    | false => cases k5 : o.kind == 5 with
     | true =>
      have hk : o.kind = 5:=eq_of_beq k5
      have hl : o.label.length ≤ 64:=by
       unfold formedB at h
       rw [hk] at h
       simp at h
       omega
      exact ⟨⟨⟨by show o.path.length ≤ _;omega,Nat.zero_le _,by show o.label.length ≤ _;omega,Nat.zero_le _,Nat.zero_le _,Nat.zero_le _⟩,Nat.zero_le _⟩,Nat.zero_le _⟩
     | false => cases k6 : o.kind == 6 with
      | true =>
       have hr:=formed_pieces h (eq_of_beq k6)
       have h1:=right_puts hr
       have h2:=(right_bounds hr).1
       exact ⟨⟨⟨by show o.path.length ≤ _;omega,Nat.zero_le _,Nat.zero_le _,Nat.zero_le _,Nat.zero_le _,by show o.pieces.length ≤ _;omega⟩,h1⟩,Nat.zero_le _⟩
      | false => exact ⟨nil _,Nat.zero_le _⟩
theorem behX_okL (b a : OpT) (p : Bool) : OkL (behindX b a p).1:=by
 unfold behindX
 cases bothEdit b a with
 | false =>
  simp only [cond_false]
  unfold behindO
  cases !soundO a || !soundO b with
  | true => intro o ho;simp at ho
  | false =>
   cases hf : (rowO b a p).all formedB with
   | false => intro o ho;simp at ho
   | true =>
    intro o ho
    simp only [cond_true,cond_false] at ho
    obtain ⟨o',h1,rfl⟩:=List.mem_map.1 ho
    exact bare_formed_ok (List.all_eq_true.1 hf o' h1)
 | true =>
  simp only [cond_true]
  unfold behindE
  cases !soundO a || !soundO b with
  | true => intro o ho;simp at ho
  | false =>
   cases hf : decide ((transP b.pieces a.pieces p).2.2 = 0) && formedB (editO b a p) with
   | false => intro o ho;simp at ho
   | true =>
    intro o ho
    simp only [cond_true,cond_false,List.mem_singleton] at ho
    subst ho
    exact bare_formed_ok (Bool.and_eq_true_iff.1 hf).2
theorem okL_nil : OkL []:=fun o ho => by cases ho
theorem OkL.app {x y : List OpT} (hx : OkL x) (hy : OkL y) : OkL (x ++ y):=fun o ho => by
 rcases List.mem_append.1 ho with h | h
 ·exact hx o h
 ·exact hy o h
theorem bothX_okL (a b : OpT) (p : Bool) : OkL (bothX a b p).1 ∧ OkL (bothX a b p).2.1:=by
 unfold bothX
 cases decide ((behindX a b p).2 = 0) with
 | false => exact ⟨okL_nil,okL_nil⟩
 | true =>
  cases decide ((behindX b a (!p)).2 = 0) with
  | false => exact ⟨okL_nil,okL_nil⟩
  | true => exact ⟨behX_okL _ _ _,behX_okL _ _ _⟩
theorem OkL.tail {a : OpT} {x : List OpT} (h : OkL (a :: x)) : OkL x:=fun o ho => h o (List.mem_cons_of_mem _ ho)
theorem OkL.head {a : OpT} {x : List OpT} (h : OkL (a :: x)) : OkL [a]:=fun o ho => by rw [List.mem_singleton] at ho;exact ho ▸ h a List.mem_cons_self
theorem bringF_okL (prior : Bool) : ∀ (n : Nat) (xs ys : List OpT) (r),bringF prior n xs ys = some r → OkL xs → OkL ys → OkL r.1 ∧ OkL r.2.1
 | 0,_,_,_,h,_,_ => by cases h
 | n + 1,xs,ys,r,h,ox,oy => by
  rw [bringF_succ] at h
  unfold bringS at h
  cases hm : muchP xs ys with
  | true => rw [hm] at h;simp at h;subst h;exact ⟨okL_nil,okL_nil⟩
  | false =>
   rw [hm,cond_false] at h
   match xs,ys,h,ox,oy with
   | [],ys,h,_,oy => simp at h;subst h;exact ⟨okL_nil,oy⟩
   | a :: xs,[],h,ox,_ => simp at h;subst h;exact ⟨ox,okL_nil⟩
   | [a],[b],h,_,_ => simp at h;subst h;exact bothX_okL _ _ _
   | a :: a' :: xs,b :: ys,h,ox,oy =>
    simp only at h
    cases h1 : bringF prior n [a] (b :: ys) with
    | none => rw [h1] at h;cases h
    | some r1 =>
     rw [h1] at h
     obtain ⟨x1,y1,e1⟩:=r1
     obtain ⟨o1,o2⟩:=bringF_okL prior n _ _ _ h1 ox.head oy
     simp only at h
     cases he : !decide (e1 = 0) with
     | true => rw [he] at h;simp at h;subst h;exact ⟨okL_nil,okL_nil⟩
     | false =>
      rw [he,cond_false] at h
      cases h2 : bringF prior n (a' :: xs) y1 with
      | none => rw [h2] at h;cases h
      | some r2 =>
       rw [h2] at h
       obtain ⟨z,w,e2⟩:=r2
       obtain ⟨o3,o4⟩:=bringF_okL prior n _ _ _ h2 ox.tail o2
       simp only at h
       cases he : !decide (e2 = 0) with
       | true => rw [he] at h;simp at h;subst h;exact ⟨okL_nil,okL_nil⟩
       | false =>
        rw [he,cond_false] at h
        cases hmm : muchP (x1 ++ z) w with
        | true => rw [hmm] at h;simp at h;subst h;exact ⟨okL_nil,okL_nil⟩
        | false => rw [hmm] at h;simp at h;subst h;exact ⟨o1.app o3,o4⟩
   | [a],b :: b' :: ys,h,ox,oy =>
    simp only at h
    cases h1 : bringF prior n [a] [b] with
    | none => rw [h1] at h;cases h
    | some r1 =>
     rw [h1] at h
     obtain ⟨x1,y1,e1⟩:=r1
     obtain ⟨o1,o2⟩:=bringF_okL prior n _ _ _ h1 ox oy.head
     simp only at h
     cases he : !decide (e1 = 0) with
     | true => rw [he] at h;simp at h;subst h;exact ⟨okL_nil,okL_nil⟩
     | false =>
      rw [he,cond_false] at h
      cases h2 : bringF prior n x1 (b' :: ys) with
      | none => rw [h2] at h;cases h
      | some r2 =>
       rw [h2] at h
       obtain ⟨z,w,e2⟩:=r2
       obtain ⟨o3,o4⟩:=bringF_okL prior n _ _ _ h2 o1 oy.tail
       simp only at h
       cases he : !decide (e2 = 0) with
       | true => rw [he] at h;simp at h;subst h;exact ⟨okL_nil,okL_nil⟩
       | false =>
        rw [he,cond_false] at h
        cases hmm : muchP z (y1 ++ w) with
        | true => rw [hmm] at h;simp at h;subst h;exact ⟨okL_nil,okL_nil⟩
        | false => rw [hmm] at h;simp at h;subst h;exact ⟨o3,o2.app o4⟩
theorem w_Concat2 (x z : List OpT) (h : x.length + z.length ≤ 1000000) : Pure Tryz.prog 153 [listsV [x,z]] (fun v => v = opsV (x ++ z)) :=
 (w_ConcatOp [x.map opV,z.map opV] (by simp;omega) (by simp)).mono fun v hv => by rw [hv];simp [opsV]
theorem w_much2 (x z : List OpT) : Pure Tryz.prog 152 [listsV [x,z]] (fun v => v = .bool (muchP x z)) :=
 (w_much [x,z] (by simp)).mono fun v hv => by rw [hv];simp [muchP]
theorem bothZ' {e : Int} {R : List OpT × List OpT × Int} (h : R = ([],[],e)) : ∃ y,Wk (.tup [.nilsl,.nilsl,.int .i64 e]) y ∧ y.pureB = true ∧ y = BothV R:=⟨BothV ([],[],e),Wk.tup ⟨Wk.nil 11,Wk.nil 11,.refl _,trivial⟩,rfl,by rw [h]⟩
end Bow
/- W119: simplify: what does nothing; what stands instead of two. -/
namespace Bow
open Go Go.Proofs
theorem okO_pieces {o : OpT} (h : o.Ok) : ∀ p ∈ o.pieces,p.put.length ≤ 1000000000:=fun p hp => by
 have h1:=put_le p hp
 have h2:=h.puts
 omega
set_option maxRecDepth 100000 in
theorem w_Parent0 : Pure Tryz.prog 147 [pathV []] (fun x => x = .tup [pathV [],intV 0,.ff]):=by
 refine pure_wk (pure_fn 60 Tryz.func147 rfl rfl rfl fun B => ?_)
 refine ⟨fun _ => go 60 ?_,fun g1 => absurd rfl (ne_of g1)⟩
 exact ⟨trivial,rfl,rfl,rfl,.tup [pathV [],intV 0,.ff],Wk.tup ⟨Wk.nil 1,.refl _,.refl _,trivial⟩,rfl,rfl⟩
set_option maxHeartbeats 1000000 in
set_option maxRecDepth 100000 in
theorem w_Idle (o : OpT) (ho : o.Ok) : Pure Tryz.prog 109 [opV o] (fun x => x = .bool (idleO o)):=by
 have hpl:=okO_pieces ho
 have cf:=w_Formed o ho.lt hpl
 have cn:=w_Norm o.pieces ho.lt.pieces hpl
 obtain ⟨R,hR⟩ : ∃ R,idleO o = R:=⟨_,rfl⟩
 rw [hR]
 unfold idleO at hR
 obtain ⟨fb,hfb⟩ : ∃ fb,formedB o = fb:=⟨_,rfl⟩
 rw [hfb] at cf
 refine pure_wk (pure_fn 60 Tryz.func109 rfl rfl rfl fun B => ?_)
 show CallThen _ _ _ _ _ _
 refine call_pure cf rfl ?_
 rintro x rfl
 refine ⟨fun g1 => go 60 ?_,fun g1 => go 60 ?_⟩
 ·have g1 : fb = false:=by simpa using g1
  exact ⟨trivial,rfl,rfl,rfl,leaf_ff (by rw [← hR,hfb,g1];rfl)⟩
 have g1 : fb = true:=by simpa using g1
 rw [hfb,g1] at hR
 have hfo : formedB o = true:=hfb.trans g1
 refine ⟨fun g2 => go 60 ?_,fun g2 => go 60 ?_⟩
 ·rw [g2] at hR
  show CallThen _ _ _ _ _ _
  refine call_pure cn rfl ?_
  rintro x rfl
  exact ⟨trivial,rfl,rfl,rfl,leaf_b (by rw [← hR];simp)⟩
 rw [g2] at hR
 refine ⟨fun g3 => go 60 ?_,fun g3 => go 60 ?_⟩
 rotate_left
 ·exact ⟨trivial,rfl,rfl,rfl,leaf_ff (by rw [← hR,g3];rfl)⟩
 rw [g3] at hR
 by_cases hne : o.path = []
 ·rw [hne] at hR
  have cp:=w_Parent0
  rw [← hne] at cp
  show CallThen _ _ _ _ _ _
  refine call_pure cp rfl ?_
  rintro x rfl
  exact ⟨trivial,rfl,rfl,rfl,leaf_ff (by rw [← hR];rfl)⟩
 have cp:=w_Parent o.path (by have:=ho.lt.path;omega) hne
 have cs:=w_pathSame o.path.dropLast o.to (by rw [List.length_dropLast];have:=ho.lt.path;omega)
 have hlast : 0 ≤ o.path.getLast hne ∧ o.path.getLast hne ≤ 1048576:=may_step (formed_path hfo) _ (List.getLast_mem hne)
 have hemp : o.path.isEmpty = false:=by simpa using hne
 rw [hemp,← lastP_eq hne] at hR
 generalize o.path.getLast hne = i at cp hlast hR
 obtain ⟨sb,hsb⟩ : ∃ sb,decide (o.path.dropLast = o.to) = sb:=⟨_,rfl⟩
 rw [hsb] at cs hR
 show CallThen _ _ _ _ _ _
 refine call_pure cp rfl ?_
 rintro x rfl
 show CallThen _ _ _ _ _ _
 refine call_pure cs rfl ?_
 rintro x rfl
 refine ⟨fun g4 => go 60 ?_,fun g4 => go 60 ?_⟩
 rotate_left
 ·have g4 : sb = false:=g4
  exact ⟨trivial,rfl,rfl,rfl,leaf_ff (by rw [← hR,g4];rfl)⟩
 have g4 : sb = true:=g4
 rw [g4] at hR
 refine ⟨fun g5 => go 60 ?_,fun g5 => go 60 ?_⟩
 ·exact ⟨trivial,rfl,rfl,rfl,leaf_tt (by rw [← hR,g5];rfl)⟩
 refine ⟨by constructor <;> omega,?_⟩
 exact ⟨trivial,rfl,rfl,rfl,leaf_b (by rw [← hR,g5];simp)⟩
theorem w_busy (o : OpT) (ho : o.Ok) : Pure Tryz.prog 149 [opV o] (fun x => x = .bool (busyO o)):=by
 have cf:=w_Formed o ho.lt (okO_pieces ho)
 have ci:=w_Idle o ho
 unfold busyO
 generalize formedB o = fb at cf
 generalize idleO o = ib at ci
 refine pure_wk (pure_fn 60 Tryz.func149 rfl rfl rfl fun B => ?_)
 show CallThen _ _ _ _ _ _
 refine call_pure cf rfl ?_
 rintro x rfl
 refine ⟨fun g1 => go 60 ?_,fun g1 => go 60 ?_⟩
 ·show CallThen _ _ _ _ _ _
  refine call_pure ci rfl ?_
  rintro x rfl
  have g1 : fb = true:=g1
  exact ⟨trivial,rfl,rfl,rfl,leaf_b (by rw [g1];rfl)⟩
 ·have g1 : fb = false:=g1
  exact ⟨trivial,rfl,rfl,rfl,leaf_ff (by rw [g1];rfl)⟩
set_option maxRecDepth 100000 in
theorem w_Child (p : List Int) (i : Int) (hp : p.length ≤ 1000000) : Pure Tryz.prog 150 [pathV p,intV i] (fun x => x = pathV (p ++ [i])):=by
 refine pure_wk (pure_fn 60 Tryz.func150 rfl rfl rfl fun B => ?_)
 show CallThen _ _ _ _ _ _
 refine call_sub [] (w_CloneInt (p.map intV) (by rw [List.length_map];exact hp)) rfl rfl trivial rfl rfl rfl ?_
 rintro x T1 (⟨e,rfl,rfl⟩ | ⟨rfl,rfl⟩)
 ·have hp : p = []:=by simpa using e
  subst hp
  refine ⟨rfl,?_⟩
  refine ⟨⟨rfl,trivial⟩,rfl,rfl,room_of (by simp) (by decide),?_⟩
  exact ⟨trivial,rfl,rfl,rfl,rfl,rfl,_,.refl _,rfl,rfl⟩
 ·refine ⟨rfl,?_⟩
  refine ⟨⟨rfl,trivial⟩,rfl,rfl,rfl,rfl,Nat.le_trans (Nat.mul_le_mul_right _ (show _ ≤ 1000001 by simp only [List.length_map,List.length_cons,List.length_nil];omega)) (by decide),?_⟩
  refine ⟨trivial,rfl,rfl,rfl,by simp,rfl,pathV (p ++ [i]),?_,rfl,rfl⟩
  exact Wk.of_eq (congrArg (V.sl 1) (by simp [intV]))
end Bow
/- W120: simplify.Pair. -/
namespace Bow
open Go Go.Proofs
def pairV (r : Option (Option OpT)) : V :=
 match r with
 | none => .tup [opsV [],.ff]
 | some none => .tup [opsV [],.tt]
 | some (some z) => .tup [opsV [z],.tt]
theorem pair_no {R : Option (Option OpT)} (h : R = none) : ∃ y,Wk (.tup [.nilsl,.ff]) y ∧ y.pureB = true ∧ y = pairV R:=⟨pairV none,Wk.tup ⟨Wk.nil 11,.refl _,trivial⟩,rfl,by rw [h]⟩
theorem pair_nil {R : Option (Option OpT)} (h : R = some none) : ∃ y,Wk (.tup [.nilsl,.tt]) y ∧ y.pureB = true ∧ y = pairV R:=⟨pairV (some none),Wk.tup ⟨Wk.nil 11,.refl _,trivial⟩,rfl,by rw [h]⟩
theorem pair_one {R : Option (Option OpT)} {z : OpT} (h : R = some (some z)) : ∃ y,Wk (.tup [.sl 11 [opV z],.tt]) y ∧ y.pureB = true ∧ y = pairV R:=⟨pairV (some (some z)),.refl _,rfl,by rw [h]⟩
theorem compose_len {a b : List PieceT} : (composeP a b).1.length ≤ 1000000 ∧ putsLen (composeP a b).1 ≤ 1048576:=by
 obtain ⟨⟨l,e⟩,h⟩ : ∃ r,composeP a b = r:=⟨_,rfl⟩
 rw [h]
 simp only
 by_cases he : e = 0
 ·subst he
  obtain ⟨h1,_,h2⟩:=rightP_ok (compose_right h)
  exact ⟨by omega,h2⟩
 ·have : l = []:=by
   unfold composeP at h
   cases hr : !rightP a || !rightP b with
   | true => rw [hr] at h;simp at h;exact h.1
   | false =>
    rw [hr] at h
    simp only [cond_false] at h
    generalize cpGo _ _ = s at h
    cases hl : rightP s.x.l with
    | false => rw [hl] at h;simp at h;exact h.1
    | true => rw [hl] at h;simp at h;exact absurd h.2.symm he
  subst this
  exact ⟨by simp,by simp [putsLen]⟩
set_option maxHeartbeats 2000000 in
set_option maxRecDepth 100000 in
theorem w_Pair (a b : OpT) (ha : a.Ok) (hb : b.Ok) : Pure Tryz.prog 110 [opV a,opV b] (fun x => x = pairV (pairO a b)):=by
 have ca:=w_busy a ha
 have cb:=w_busy b hb
 have cc:=w_Child a.path a.at_ (by have:=ha.lt.path;omega)
 have cs1 : busyO a = true → Pure Tryz.prog 148 [pathV (a.path ++ [a.at_]),pathV b.path] (fun x => x = .bool (decide (a.path ++ [a.at_] = b.path))):=fun h => w_pathSame (a.path ++ [a.at_]) b.path (by
  unfold busyO at h
  simp only [Bool.and_eq_true] at h
  have hm:=formed_path h.1
  unfold mayP at hm
  simp only [Bool.and_eq_true,decide_eq_true_eq] at hm
  rw [List.length_append]
  simp
  omega)
 have cs2:=w_pathSame a.path b.path (by have:=ha.lt.path;omega)
 have ck:=w_Compose a.pieces b.pieces ha.lt.pieces hb.lt.pieces (okO_pieces ha) (okO_pieces hb)
 have cr1:=w_Bare { a with label:=b.label } ⟨ha.lt.path,ha.lt.to,hb.lt.label,ha.lt.key,ha.lt.value,ha.lt.pieces⟩
 have cr2:=w_Bare b hb.lt
 have cr3:=w_Bare { b with pieces:=(composeP a.pieces b.pieces).1 } ⟨hb.lt.path,hb.lt.to,hb.lt.label,hb.lt.key,hb.lt.value,compose_len.1⟩
 obtain ⟨R,hR⟩ : ∃ R,pairO a b = R:=⟨_,rfl⟩
 rw [hR]
 unfold pairO at hR
 generalize busyO a = ba at ca hR cs1
 generalize busyO b = bb at cb hR
 generalize composeP a.pieces b.pieces = cr at ck cr3 hR
 obtain ⟨l,e⟩:=cr
 simp only at cr3 hR
 obtain ⟨s1,hs1⟩ : ∃ s1,decide (a.path ++ [a.at_] = b.path) = s1:=⟨_,rfl⟩
 rw [hs1] at cs1 hR
 obtain ⟨s2,hs2⟩ : ∃ s2,decide (a.path = b.path) = s2:=⟨_,rfl⟩
 rw [hs2] at cs2 hR
 clear hs1 hs2
 refine pure_wk (pure_fn 60 Tryz.func110 rfl rfl rfl fun B => ?_)
 show CallThen _ _ _ _ _ _
 refine call_pure ca rfl ?_
 rintro x rfl
 refine ⟨fun g1 => go 60 ?_,fun g1 => go 60 ?_⟩
 ·have g1 : ba = false:=by simpa using g1
  exact ⟨trivial,rfl,rfl,rfl,pair_no (by rw [← hR,g1];rfl)⟩
 have g1 : ba = true:=by simpa using g1
 show CallThen _ _ _ _ _ _
 refine call_pure cb rfl ?_
 rintro x rfl
 refine ⟨fun g2 => go 60 ?_,fun g2 => go 60 ?_⟩
 ·have g2 : bb = false:=by simpa using g2
  exact ⟨trivial,rfl,rfl,rfl,pair_no (by rw [← hR,g1,g2];rfl)⟩
 have g2 : bb = true:=by simpa using g2
 rw [g1,g2] at hR
 have cs1:=cs1 g1
 obtain ⟨tail,htail⟩ : ∃ tail : Option (Option OpT),(bif !decide (a.kind = b.kind) || !s2 then none
 else bif decide (a.kind = 5) then some (some (bareO b))
 else bif decide (a.kind = 4) then (bif decide (a.key = b.key) then some (some (bareO b)) else none)
 else bif decide (a.kind = 6) then (bif !decide (e = 0) then none else bif decide (l.length = 0) then some none else some (some (bareO { b with pieces:=l })))
 else none) = tail:=⟨_,rfl⟩
 rw [htail] at hR
 show Goes _ _ _ _
 refine goes_draw 60 ?_
 refine ⟨fun q1 => ?_,fun q1 => ?_⟩
 ·refine ⟨_,cc,rfl,_,cs1,rfl,?_⟩
  refine ⟨by kernel_rfl,?_⟩
  rw [q1] at hR
  refine ⟨fun q2 => go 60 ?_,fun q2 => go 60 ?_⟩
  ·have q2 : s1 = true:=q2
   rw [q2] at hR
   refine ⟨fun q3 => go 60 ?_,fun q3 => go 60 ?_⟩
   ·exact ⟨trivial,rfl,rfl,rfl,pair_nil (by rw [← hR,q3];rfl)⟩
   rw [q3] at hR
   refine ⟨fun q4 => go 60 ?_,fun q4 => go 60 ?_⟩
   ·show CallThen _ _ _ _ _ _
    refine call_pure cr1 rfl ?_
    rintro x rfl
    refine ⟨⟨rfl,trivial⟩,?_⟩
    exact ⟨trivial,rfl,rfl,rfl,rfl,rfl,pair_one (by rw [← hR,q4];rfl)⟩
   rw [q4] at hR
   have ht : tail = R:=hR
   rw [← htail] at ht
   refine ⟨fun q5 => go 60 ?_,fun q5 => go 60 ?_⟩
   ·exact ⟨trivial,rfl,rfl,rfl,pair_no (by rw [← ht,q5];rfl)⟩
   rw [q5] at ht
   show CallThen _ _ _ _ _ _
   refine call_pure cs2 rfl ?_
   rintro x rfl
   refine ⟨fun q6 => go 60 ?_,fun q6 => go 60 ?_⟩
   ·exact ⟨trivial,rfl,rfl,rfl,pair_no (by rw [← ht,q6];rfl)⟩
   rw [q6] at ht
   refine ⟨fun q7 => go 60 ?_,fun q7 => go 60 ?_⟩
   ·rw [q7] at ht
    show CallThen _ _ _ _ _ _
    refine call_pure cr2 rfl ?_
    rintro x rfl
    refine ⟨⟨rfl,trivial⟩,?_⟩
    exact ⟨trivial,rfl,rfl,rfl,rfl,rfl,pair_one ht.symm⟩
   rw [q7] at ht
   refine ⟨fun q8 => go 60 ?_,fun q8 => go 60 ?_⟩
   ·rw [q8] at ht
    refine ⟨fun q9 => go 60 ?_,fun q9 => go 60 ?_⟩
    ·have q9 : decide (a.key = b.key) = false:=by simpa using q9
     exact ⟨trivial,rfl,rfl,rfl,pair_no (by rw [← ht,q9];rfl)⟩
    have q9 : decide (a.key = b.key) = true:=by simpa using q9
    rw [q9] at ht
    show CallThen _ _ _ _ _ _
    refine call_pure cr2 rfl ?_
    rintro x rfl
    refine ⟨⟨rfl,trivial⟩,?_⟩
    exact ⟨trivial,rfl,rfl,rfl,rfl,rfl,pair_one ht.symm⟩
   rw [q8] at ht
   refine ⟨fun q9 => go 60 ?_,fun q9 => go 60 ?_⟩
   rotate_left
   ·exact ⟨trivial,rfl,rfl,rfl,pair_no (by rw [← ht,q9];rfl)⟩
   rw [q9] at ht
   show CallThen _ _ _ _ _ _
   refine call_pure ck rfl ?_
   rintro x rfl
   refine ⟨fun q10 => go 60 ?_,fun q10 => go 60 ?_⟩
   ·have q10 : decide (e = 0) = false:=by simpa using q10
    exact ⟨trivial,rfl,rfl,rfl,pair_no (by rw [← ht,q10];rfl)⟩
   have q10 : decide (e = 0) = true:=by simpa using q10
   rw [q10] at ht
   refine ⟨fun q11 => go 60 ?_,fun q11 => go 60 ?_⟩
   ·have q11 : decide (l.length = 0) = true:=by simpa using q11
    exact ⟨trivial,rfl,rfl,rfl,pair_nil (by rw [← ht,q11];rfl)⟩
   have q11 : decide (l.length = 0) = false:=by simpa using q11
   rw [q11] at ht
   show CallThen _ _ _ _ _ _
   refine call_pure cr3 rfl ?_
   rintro x rfl
   refine ⟨⟨rfl,trivial⟩,?_⟩
   exact ⟨trivial,rfl,rfl,rfl,rfl,rfl,pair_one ht.symm⟩
  ·have q2 : s1 = false:=q2
   rw [q2] at hR
   have ht : tail = R:=hR
   rw [← htail] at ht
   refine ⟨fun q5 => go 60 ?_,fun q5 => go 60 ?_⟩
   ·exact ⟨trivial,rfl,rfl,rfl,pair_no (by rw [← ht,q5];rfl)⟩
   rw [q5] at ht
   show CallThen _ _ _ _ _ _
   refine call_pure cs2 rfl ?_
   rintro x rfl
   refine ⟨fun q6 => go 60 ?_,fun q6 => go 60 ?_⟩
   ·exact ⟨trivial,rfl,rfl,rfl,pair_no (by rw [← ht,q6];rfl)⟩
   rw [q6] at ht
   refine ⟨fun q7 => go 60 ?_,fun q7 => go 60 ?_⟩
   ·rw [q7] at ht
    show CallThen _ _ _ _ _ _
    refine call_pure cr2 rfl ?_
    rintro x rfl
    refine ⟨⟨rfl,trivial⟩,?_⟩
    exact ⟨trivial,rfl,rfl,rfl,rfl,rfl,pair_one ht.symm⟩
   rw [q7] at ht
   refine ⟨fun q8 => go 60 ?_,fun q8 => go 60 ?_⟩
   ·rw [q8] at ht
    refine ⟨fun q9 => go 60 ?_,fun q9 => go 60 ?_⟩
    ·have q9 : decide (a.key = b.key) = false:=by simpa using q9
     exact ⟨trivial,rfl,rfl,rfl,pair_no (by rw [← ht,q9];rfl)⟩
    have q9 : decide (a.key = b.key) = true:=by simpa using q9
    rw [q9] at ht
    show CallThen _ _ _ _ _ _
    refine call_pure cr2 rfl ?_
    rintro x rfl
    refine ⟨⟨rfl,trivial⟩,?_⟩
    exact ⟨trivial,rfl,rfl,rfl,rfl,rfl,pair_one ht.symm⟩
   rw [q8] at ht
   refine ⟨fun q9 => go 60 ?_,fun q9 => go 60 ?_⟩
   rotate_left
   ·exact ⟨trivial,rfl,rfl,rfl,pair_no (by rw [← ht,q9];rfl)⟩
   rw [q9] at ht
   show CallThen _ _ _ _ _ _
   refine call_pure ck rfl ?_
   rintro x rfl
   refine ⟨fun q10 => go 60 ?_,fun q10 => go 60 ?_⟩
   ·have q10 : decide (e = 0) = false:=by simpa using q10
    exact ⟨trivial,rfl,rfl,rfl,pair_no (by rw [← ht,q10];rfl)⟩
   have q10 : decide (e = 0) = true:=by simpa using q10
   rw [q10] at ht
   refine ⟨fun q11 => go 60 ?_,fun q11 => go 60 ?_⟩
   ·have q11 : decide (l.length = 0) = true:=by simpa using q11
    exact ⟨trivial,rfl,rfl,rfl,pair_nil (by rw [← ht,q11];rfl)⟩
   have q11 : decide (l.length = 0) = false:=by simpa using q11
   rw [q11] at ht
   show CallThen _ _ _ _ _ _
   refine call_pure cr3 rfl ?_
   rintro x rfl
   refine ⟨⟨rfl,trivial⟩,?_⟩
   exact ⟨trivial,rfl,rfl,rfl,rfl,rfl,pair_one ht.symm⟩
 ·refine ⟨by kernel_rfl,?_⟩
  rw [q1] at hR
  have ht : tail = R:=hR
  rw [← htail] at ht
  refine ⟨fun q5 => go 60 ?_,fun q5 => go 60 ?_⟩
  ·exact ⟨trivial,rfl,rfl,rfl,pair_no (by rw [← ht,q5];rfl)⟩
  rw [q5] at ht
  show CallThen _ _ _ _ _ _
  refine call_pure cs2 rfl ?_
  rintro x rfl
  refine ⟨fun q6 => go 60 ?_,fun q6 => go 60 ?_⟩
  ·exact ⟨trivial,rfl,rfl,rfl,pair_no (by rw [← ht,q6];rfl)⟩
  rw [q6] at ht
  refine ⟨fun q7 => go 60 ?_,fun q7 => go 60 ?_⟩
  ·rw [q7] at ht
   show CallThen _ _ _ _ _ _
   refine call_pure cr2 rfl ?_
   rintro x rfl
   refine ⟨⟨rfl,trivial⟩,?_⟩
   exact ⟨trivial,rfl,rfl,rfl,rfl,rfl,pair_one ht.symm⟩
  rw [q7] at ht
  refine ⟨fun q8 => go 60 ?_,fun q8 => go 60 ?_⟩
  ·rw [q8] at ht
   refine ⟨fun q9 => go 60 ?_,fun q9 => go 60 ?_⟩
   ·have q9 : decide (a.key = b.key) = false:=by simpa using q9
    exact ⟨trivial,rfl,rfl,rfl,pair_no (by rw [← ht,q9];rfl)⟩
   have q9 : decide (a.key = b.key) = true:=by simpa using q9
   rw [q9] at ht
   show CallThen _ _ _ _ _ _
   refine call_pure cr2 rfl ?_
   rintro x rfl
   refine ⟨⟨rfl,trivial⟩,?_⟩
   exact ⟨trivial,rfl,rfl,rfl,rfl,rfl,pair_one ht.symm⟩
  rw [q8] at ht
  refine ⟨fun q9 => go 60 ?_,fun q9 => go 60 ?_⟩
  rotate_left
  ·exact ⟨trivial,rfl,rfl,rfl,pair_no (by rw [← ht,q9];rfl)⟩
  rw [q9] at ht
  show CallThen _ _ _ _ _ _
  refine call_pure ck rfl ?_
  rintro x rfl
  refine ⟨fun q10 => go 60 ?_,fun q10 => go 60 ?_⟩
  ·have q10 : decide (e = 0) = false:=by simpa using q10
   exact ⟨trivial,rfl,rfl,rfl,pair_no (by rw [← ht,q10];rfl)⟩
  have q10 : decide (e = 0) = true:=by simpa using q10
  rw [q10] at ht
  refine ⟨fun q11 => go 60 ?_,fun q11 => go 60 ?_⟩
  ·have q11 : decide (l.length = 0) = true:=by simpa using q11
   exact ⟨trivial,rfl,rfl,rfl,pair_nil (by rw [← ht,q11];rfl)⟩
  have q11 : decide (l.length = 0) = false:=by simpa using q11
  rw [q11] at ht
  show CallThen _ _ _ _ _ _
  refine call_pure cr3 rfl ?_
  rintro x rfl
  refine ⟨⟨rfl,trivial⟩,?_⟩
  exact ⟨trivial,rfl,rfl,rfl,rfl,rfl,pair_one ht.symm⟩
end Bow
/- SP25: what an operation does not say counts for nothing (square); lists brought one behind the other, in plain Lean. -/
namespace Bow
open Go
end Bow
/- SP26: a list brought by two lists, one behind the other, and by both in one, in plain Lean. -/
namespace Bow
open Go
section
variable {prior : Bool}
end
end Bow
/- SP30: what two lists come to; brought by two lists or by both in one, in plain Lean. -/
namespace Bow
open Go
noncomputable def bringX (prior : Bool) (xs ys : List OpT) : List OpT × List OpT × Int :=
 Classical.choose (show ∃ r n,bringF prior n xs ys = some r from let ⟨n,r,h⟩:=bring_ends prior xs ys;⟨r,n,h⟩)
theorem bringX_spec (prior : Bool) (xs ys : List OpT) : ∃ n,bringF prior n xs ys = some (bringX prior xs ys) :=
 Classical.choose_spec (show ∃ r n,bringF prior n xs ys = some r from let ⟨n,r,h⟩:=bring_ends prior xs ys;⟨r,n,h⟩)
theorem bringX_eq {prior : Bool} {n : Nat} {xs ys : List OpT} {r} (h : bringF prior n xs ys = some r) : bringX prior xs ys = r:=by
 obtain ⟨m,hm⟩:=bringX_spec prior xs ys
 exact bringF_det hm h
noncomputable def listsX (prior : Bool) (xs ys : List OpT) : List OpT × List OpT × Int:=(bareL (bringX prior xs ys).1,bareL (bringX prior xs ys).2.1,(bringX prior xs ys).2.2)
end Bow
/- W65: lists.bring's walk. -/
namespace Bow
open Go Go.Proofs
theorem muchP_le {x y : List OpT} (h : muchP x y = false) : x.length ≤ 4096 ∧ y.length ≤ 4096:=by
 unfold muchP at h
 simp only [Bool.or_eq_false_iff,decide_eq_false_iff_not] at h
 omega
theorem cut1 (o : OpT) (l : List OpT) : V.sl 11 ((((o :: l).map opV).drop (1 : Int).toNat).take (((((o :: l).map opV).length : Nat) : Int).toNat - (1 : Int).toNat)) = opsV l:=by
 show V.sl 11 ((l.map opV).take (((((o :: l).map opV).length : Nat) : Int).toNat - (1 : Int).toNat)) = V.sl 11 (l.map opV)
 rw [List.take_of_length_le]
 simp
set_option maxHeartbeats 4000000 in
set_option maxRecDepth 100000 in
theorem w_bring (prior : Bool) : ∀ (n : Nat) (xs ys : List OpT) (R),bringF prior n xs ys = some R → OkL xs → OkL ys → Pure Tryz.prog 111 [opsV xs,opsV ys,.bool prior] (fun x => x = BothV R)
 | 0,_,_,_,h,_,_ => by cases h
 | n + 1,xs,ys,R,h,ox,oy => by
  have cm:=w_much2 xs ys
  rw [bringF_succ] at h
  unfold bringS at h
  refine pure_wk (pure_fn 300 Tryz.func111 rfl rfl rfl fun B => ?_)
  refine ⟨⟨rfl,rfl,trivial⟩,?_⟩
  show CallThen _ _ _ _ _ _
  refine call_pure_frz ?_
  refine ⟨rfl,rfl,_,cm,rfl,?_⟩
  rintro x rfl
  refine ⟨fun g1 => go 300 ?_,fun g1 => go 300 ?_⟩
  ·rw [g1] at h
   simp only [cond_true,Option.some.injEq] at h
   exact ⟨trivial,rfl,rfl,rfl,bothZ' h.symm⟩
  rw [g1,cond_false] at h
  have hlen:=muchP_le g1
  match xs,ys,h,ox,oy,hlen with
  | [],ys,h,_,_,_ =>
   simp only [Option.some.injEq] at h
   refine ⟨fun g2 => go 300 ?_,fun g2 => absurd rfl (ne_of g2)⟩
   exact ⟨trivial,rfl,rfl,rfl,BothV ([],ys,0),Wk.refl _,rfl,by rw [h]⟩
  | a :: xs,[],h,_,_,_ =>
   simp only [Option.some.injEq] at h
   refine ⟨fun g2 => absurd (eq_of g2) (by simp;omega),fun g2 => go 300 ?_⟩
   refine ⟨fun g3 => go 300 ?_,fun g3 => absurd rfl (ne_of g3)⟩
   exact ⟨trivial,rfl,rfl,rfl,BothV (a :: xs,[],0),Wk.refl _,rfl,by rw [h]⟩
  | [a],[b],h,ox,oy,_ =>
   simp only [Option.some.injEq] at h
   have cb:=w_BothX a b prior (ox a List.mem_cons_self).1 (oy b List.mem_cons_self).1 ⟨(ox a List.mem_cons_self).2,(oy b List.mem_cons_self).2⟩
   rw [h] at cb
   refine ⟨fun g2 => absurd (eq_of g2) (by simp),fun g2 => go 300 ?_⟩
   refine ⟨fun g3 => absurd (eq_of g3) (by simp),fun g3 => go 300 ?_⟩
   refine ⟨fun g4 => absurd (lt_of g4) (by simp),fun g4 => go 300 ?_⟩
   refine ⟨fun g5 => absurd (lt_of g5) (by simp),fun g5 => go 300 ?_⟩
   show Goes _ _ _ _
   refine goes_draw 300 ⟨by decide,_,rfl,by decide,_,rfl,_,cb,rfl,?_⟩
   refine ⟨by kernel_rfl,?_⟩
   exact ⟨trivial,rfl,rfl,rfl,BothV R,Wk.refl _,rfl,rfl⟩
  | a :: a' :: xs,b :: ys,h,ox,oy,hlen =>
   simp only at h
   obtain ⟨r1,h1⟩ : ∃ r1,bringF prior n [a] (b :: ys) = r1:=⟨_,rfl⟩
   rw [h1] at h
   match r1,h1,h with
   | none,_,h => cases h
   | some (x1,y1,e1),h1,h =>
   simp only at h
   have c1:=w_bring prior n _ _ _ h1 ox.head oy
   obtain ⟨o1,o2⟩:=bringF_okL prior n _ _ _ h1 ox.head oy
   refine ⟨fun g2 => absurd (eq_of g2) (by simp;omega),fun g2 => go 300 ?_⟩
   refine ⟨fun g3 => absurd (eq_of g3) (by simp;omega),fun g3 => go 300 ?_⟩
   refine ⟨fun g4 => go 300 ?_,fun g4 => absurd (not_lt_of g4) (by simp;omega)⟩
   refine ⟨by decide,by decide,by simp;omega,?_⟩
   show CallThen _ _ _ _ _ _
   refine call_pure c1 rfl ?_
   rintro x rfl
   refine ⟨fun g5 => go 300 ?_,fun g5 => go 300 ?_⟩
   ·have g5:=ne_of' g5
    rw [decide_eq_false g5] at h
    simp only [Bool.not_false,cond_true,Option.some.injEq] at h
    exact ⟨trivial,rfl,rfl,rfl,bothZ' h.symm⟩
   have g5:=eq_of' g5
   subst g5
   simp only [decide_true,Bool.not_true,cond_false] at h
   obtain ⟨r2,h2⟩ : ∃ r2,bringF prior n (a' :: xs) y1 = r2:=⟨_,rfl⟩
   rw [h2] at h
   match r2,h2,h with
   | none,_,h => cases h
   | some (z,w,e2),h2,h =>
   simp only at h
   have c2:=w_bring prior n _ _ _ h2 ox.tail o2
   refine ⟨by decide,by simp only [List.length_map,List.length_cons];omega,Int.le_refl _,?_⟩
   show CallThen _ _ _ _ _ _
   refine call_pure (pure_args c2 ⟨Wk.of_eq (cut1 a (a' :: xs)),.refl _,.refl _,trivial⟩ rfl rfl) rfl ?_
   rintro x rfl
   refine ⟨fun g6 => go 300 ?_,fun g6 => go 300 ?_⟩
   ·have g6:=ne_of' g6
    rw [decide_eq_false g6] at h
    simp only [Bool.not_false,cond_true,Option.some.injEq] at h
    exact ⟨trivial,rfl,rfl,rfl,bothZ' h.symm⟩
   have g6:=eq_of' g6
   subst g6
   simp only [decide_true,Bool.not_true,cond_false] at h
   have i1:=(bringF_inv prior n _ _ _ _ h1).s
   have i2:=(bringF_inv prior n _ _ _ _ h2).s
   simp only [List.length_cons,List.length_nil] at i1 i2 hlen
   refine ⟨⟨rfl,rfl,trivial⟩,?_⟩
   show CallThen _ _ _ _ _ _
   refine call_pure_frz ?_
   refine ⟨rfl,rfl,_,w_Concat2 x1 z (by omega),rfl,?_⟩
   rintro x rfl
   refine ⟨⟨rfl,rfl,trivial⟩,?_⟩
   show CallThen _ _ _ _ _ _
   refine call_pure_frz ?_
   refine ⟨rfl,rfl,_,w_much2 (x1 ++ z) w,rfl,?_⟩
   rintro x rfl
   refine ⟨fun g7 => go 300 ?_,fun g7 => go 300 ?_⟩
   ·have g7 : muchP (x1 ++ z) w = false:=by simpa using g7
    rw [g7] at h
    simp only [cond_false,Option.some.injEq] at h
    exact ⟨trivial,rfl,rfl,rfl,BothV (x1 ++ z,w,0),Wk.refl _,rfl,by rw [h]⟩
   ·have g7 : muchP (x1 ++ z) w = true:=by simpa using g7
    rw [g7] at h
    simp only [cond_true,Option.some.injEq] at h
    exact ⟨trivial,rfl,rfl,rfl,bothZ' h.symm⟩
  | [a],b :: b' :: ys,h,ox,oy,hlen =>
   simp only at h
   obtain ⟨r1,h1⟩ : ∃ r1,bringF prior n [a] [b] = r1:=⟨_,rfl⟩
   rw [h1] at h
   match r1,h1,h with
   | none,_,h => cases h
   | some (x1,y1,e1),h1,h =>
   simp only at h
   have c1:=w_bring prior n _ _ _ h1 ox oy.head
   obtain ⟨o1,o2⟩:=bringF_okL prior n _ _ _ h1 ox oy.head
   refine ⟨fun g2 => absurd (eq_of g2) (by simp),fun g2 => go 300 ?_⟩
   refine ⟨fun g3 => absurd (eq_of g3) (by simp;omega),fun g3 => go 300 ?_⟩
   refine ⟨fun g4 => absurd (lt_of g4) (by simp),fun g4 => go 300 ?_⟩
   refine ⟨fun g4 => go 300 ?_,fun g4 => absurd (not_lt_of g4) (by simp;omega)⟩
   refine ⟨by decide,by decide,by simp;omega,?_⟩
   show CallThen _ _ _ _ _ _
   refine call_pure c1 rfl ?_
   rintro x rfl
   refine ⟨fun g5 => go 300 ?_,fun g5 => go 300 ?_⟩
   ·have g5:=ne_of' g5
    rw [decide_eq_false g5] at h
    simp only [Bool.not_false,cond_true,Option.some.injEq] at h
    exact ⟨trivial,rfl,rfl,rfl,bothZ' h.symm⟩
   have g5:=eq_of' g5
   subst g5
   simp only [decide_true,Bool.not_true,cond_false] at h
   obtain ⟨r2,h2⟩ : ∃ r2,bringF prior n x1 (b' :: ys) = r2:=⟨_,rfl⟩
   rw [h2] at h
   match r2,h2,h with
   | none,_,h => cases h
   | some (z,w,e2),h2,h =>
   simp only at h
   have c2:=w_bring prior n _ _ _ h2 o1 oy.tail
   refine ⟨by decide,by simp only [List.length_map,List.length_cons];omega,Int.le_refl _,?_⟩
   show CallThen _ _ _ _ _ _
   refine call_pure (pure_args c2 ⟨.refl _,Wk.of_eq (cut1 b (b' :: ys)),.refl _,trivial⟩ rfl rfl) rfl ?_
   rintro x rfl
   refine ⟨fun g6 => go 300 ?_,fun g6 => go 300 ?_⟩
   ·have g6:=ne_of' g6
    rw [decide_eq_false g6] at h
    simp only [Bool.not_false,cond_true,Option.some.injEq] at h
    exact ⟨trivial,rfl,rfl,rfl,bothZ' h.symm⟩
   have g6:=eq_of' g6
   subst g6
   simp only [decide_true,Bool.not_true,cond_false] at h
   have i1:=(bringF_inv prior n _ _ _ _ h1).s
   have i2:=(bringF_inv prior n _ _ _ _ h2).s
   simp only [List.length_cons,List.length_nil] at i1 i2 hlen
   refine ⟨⟨rfl,rfl,trivial⟩,?_⟩
   show CallThen _ _ _ _ _ _
   refine call_pure_frz ?_
   refine ⟨rfl,rfl,_,w_Concat2 y1 w (by omega),rfl,?_⟩
   rintro x rfl
   refine ⟨⟨rfl,rfl,trivial⟩,?_⟩
   show CallThen _ _ _ _ _ _
   refine call_pure_frz ?_
   refine ⟨rfl,rfl,_,w_much2 z (y1 ++ w),rfl,?_⟩
   rintro x rfl
   refine ⟨fun g7 => go 300 ?_,fun g7 => go 300 ?_⟩
   ·have g7 : muchP z (y1 ++ w) = false:=by simpa using g7
    rw [g7] at h
    simp only [cond_false,Option.some.injEq] at h
    exact ⟨trivial,rfl,rfl,rfl,BothV (z,y1 ++ w,0),Wk.refl _,rfl,by rw [h]⟩
   ·have g7 : muchP z (y1 ++ w) = true:=by simpa using g7
    rw [g7] at h
    simp only [cond_true,Option.some.injEq] at h
    exact ⟨trivial,rfl,rfl,rfl,bothZ' h.symm⟩
theorem bringX_inv (prior : Bool) (xs ys : List OpT) : (bringX prior xs ys).1.length + (bringX prior xs ys).2.1.length ≤ xs.length + ys.length:=by
 obtain ⟨n,h⟩:=bringX_spec prior xs ys
 obtain ⟨⟨x,y,e⟩,hr⟩ : ∃ r,bringX prior xs ys = r:=⟨_,rfl⟩
 rw [hr] at h ⊢
 by_cases he : e = 0
 ·subst he
  exact (bringF_inv prior n _ _ _ _ h).s
 ·obtain ⟨q1,q2⟩:=bringF_err h he
  simp only [q1,q2,List.length_nil]
  omega
theorem bringX_okL {prior : Bool} {xs ys : List OpT} (ox : OkL xs) (oy : OkL ys) : OkL (bringX prior xs ys).1 ∧ OkL (bringX prior xs ys).2.1:=by
 obtain ⟨n,h⟩:=bringX_spec prior xs ys
 exact bringF_okL prior n _ _ _ h ox oy
theorem bareL_len (l : List OpT) : (bareL l).length = l.length:=by simp [bareL]
theorem bareL_okL {l : List OpT} (h : OkL l) : OkL (bareL l):=fun o ho => by
 obtain ⟨o',h1,rfl⟩:=List.mem_map.1 ho
 refine ⟨bare_ok (h o' h1).1,?_⟩
 have:=(h o' h1).2
 unfold bareO
 cases o'.kind == 1 <;> cases o'.kind == 2 <;> cases o'.kind == 3 <;> cases o'.kind == 4 <;> cases o'.kind == 5 <;> cases o'.kind == 6 <;> simp [noOp] <;> omega
end Bow
/- W66: the laws of chapter 13: what they use; the examples; which lists say the same. -/
namespace Bow
open Go Go.Proofs
end Bow
/- W68: which lists say the same; chapter 13's few. -/
namespace Bow
open Go Go.Proofs
def sameL : List OpT → List OpT → Bool
 | [],[] => true
 | a :: x,b :: y => sameO a b && sameL x y
 | _,_ => false
theorem sameL_len : ∀ {x y : List OpT},x.length ≠ y.length → sameL x y = false
 | [],[],h => absurd rfl h
 | [],_ :: _,_ => rfl
 | _ :: _,[],_ => rfl
 | a :: x,b :: y,h => by
  rw [sameL,sameL_len (x:=x) (y:=y) (fun e => h (by simp [e])),Bool.and_false]
theorem sameL_drop {x y : List OpT} {i : Nat} (h : i < x.length) (h' : i < y.length) : sameL (x.drop i) (y.drop i) = (sameO x[i] y[i] && sameL (x.drop (i + 1)) (y.drop (i + 1))):=by
 rw [List.drop_eq_getElem_cons h,List.drop_eq_getElem_cons h',sameL]
theorem op_at {l : List OpT} {i : Nat} (h : i < l.length) : (l.map opV)[i]? = some (opV l[i]):=by simp [h]
set_option maxRecDepth 100000 in
theorem w_ref13Same (x y : List OpT) (hl : x.length ≤ 1000000) (hx : ∀ o ∈ x,o.Lt 1000000) (hy : ∀ o ∈ y,o.Lt 1000000) : Pure Tryz.prog 22 [opsV x,opsV y] (fun v => v = .bool (sameL x y)):=by
 refine pure_wk (pure_fn 300 Tryz.func22 rfl rfl rfl fun B => ?_)
 refine ⟨fun g => go 300 ?_,fun g => go 300 ?_⟩
 ·have:=ne_of' g
  exact ⟨trivial,rfl,rfl,rfl,leaf_ff (sameL_len fun e => this (by simp [e]))⟩
 have hlen : x.length = y.length:=by have:=eq_of' g;simp at this;omega
 show Goes _ _ _ _
 refine goes_iter (ι:=Nat) (fun i => i ≤ x.length ∧ sameL x y = sameL (x.drop i) (y.drop i)) (fun i => x.length - i) (fun i => [(5,.int .i64 i),(0,opsV x),(1,opsV y)]) (fun _ => []) 0 300 (fun _ => rfl) (fun _ => rfl) ⟨⟨Nat.zero_le _,rfl⟩,⟨⟨rfl,rfl⟩,⟨rfl,rfl⟩,⟨rfl,rfl⟩,trivial⟩,trivial⟩ ?_
 rintro i ⟨k1,k2⟩ next
 refine ⟨fun hlt => go 300 ?_,fun hge => go 300 ?_⟩
 ·have hi : i < x.length:=by have:=lt_of hlt;simp at this;omega
  have hi' : i < y.length:=by omega
  show Goes _ _ _ _
  refine goes_draw 300 ⟨Int.natCast_nonneg i,_,op_at hi,Int.natCast_nonneg i,_,op_at hi',_,w_refSameO x[i] y[i] (hx _ (List.getElem_mem hi)) (hy _ (List.getElem_mem hi')),rfl,?_⟩
  rw [sameL_drop hi hi'] at k2
  refine ⟨by kernel_rfl,?_⟩
  refine ⟨fun g1 => go 300 ?_,fun g1 => go 300 ?_⟩
  ·have g1 : sameO x[i] y[i] = false:=by simpa using g1
   exact ⟨trivial,rfl,rfl,rfl,leaf_ff (by rw [k2,g1];rfl)⟩
  have g1 : sameO x[i] y[i] = true:=by simpa using g1
  refine ⟨by constructor <;> omega,?_⟩
  show Goes _ _ _ _
  refine next (i + 1) _ _ ⟨⟨hi,by rw [k2,g1,Bool.true_and]⟩,by omega,⟨⟨rfl,rfl⟩,⟨rfl,rfl⟩,⟨rfl,rfl⟩,trivial⟩,trivial⟩
 ·have hi : i = x.length:=by have:=not_lt_of hge;simp at this;omega
  refine ⟨trivial,rfl,rfl,rfl,leaf_tt ?_⟩
  rw [k2,List.drop_of_length_le (by omega),List.drop_of_length_le (by omega)]
  rfl
theorem sameO_refl (o : OpT) : sameO o o = true:=by
 unfold sameO eqO
 simp
theorem sameL_refl : ∀ l : List OpT,sameL l l = true
 | [] => rfl
 | o :: l => by rw [sameL,sameO_refl,sameL_refl l];rfl
end Bow
/- W69: the laws ListsSame and ListsJoined, walked. -/
namespace Bow
open Go Go.Proofs
theorem lt_mono {o : OpT} {a b : Nat} (h : o.Lt a) (hab : a ≤ b) : o.Lt b:=⟨Nat.le_trans h.path hab,Nat.le_trans h.to hab,Nat.le_trans h.label hab,Nat.le_trans h.key hab,Nat.le_trans h.value hab,Nat.le_trans h.pieces hab⟩
theorem lightL_ok {l : List OpT} {c : Nat} (h : LightL l c 60) : OkL l:=fun o ho => by
 obtain ⟨h1,h2⟩:=h.ops o ho
 have:=h1.to
 exact ⟨⟨lt_mono h1 (by decide),by omega⟩,by omega⟩
end Bow
/- W121: simplify.List; a client's lists, bare. -/
namespace Bow
open Go Go.Proofs
theorem pair_okO {a b z : OpT} (ha : a.Ok) (hb : b.Ok) (h : pairO a b = some (some z)) : z.Ok := by
  unfold pairO at h
  cases h1 : !busyO a || !busyO b with
  | true => rw [h1] at h; cases h
  | false =>
  rw [h1, cond_false] at h
  cases h2 : decide (a.kind = 1) && decide (a.path ++ [a.at_] = b.path) && decide (b.kind = 2) with
  | true => rw [h2] at h; simp at h
  | false =>
  rw [h2, cond_false] at h
  cases h3 : decide (a.kind = 1) && decide (a.path ++ [a.at_] = b.path) && decide (b.kind = 5) with
  | true =>
    rw [h3, cond_true] at h
    injection h with h
    injection h with h
    rw [← h]
    exact bare_ok ⟨⟨ha.lt.path, ha.lt.to, hb.lt.label, ha.lt.key, ha.lt.value, ha.lt.pieces⟩, ha.puts⟩
  | false =>
  rw [h3, cond_false] at h
  cases h4 : !decide (a.kind = b.kind) || !decide (a.path = b.path) with
  | true => rw [h4] at h; cases h
  | false =>
  rw [h4, cond_false] at h
  cases h5 : decide (a.kind = 5) with
  | true =>
    rw [h5, cond_true] at h
    injection h with h
    injection h with h
    rw [← h]
    exact bare_ok hb
  | false =>
  rw [h5, cond_false] at h
  cases h6 : decide (a.kind = 4) with
  | true =>
    rw [h6, cond_true] at h
    cases h7 : decide (a.key = b.key) with
    | false => rw [h7] at h; cases h
    | true =>
      rw [h7, cond_true] at h
      injection h with h
      injection h with h
      rw [← h]
      exact bare_ok hb
  | false =>
  rw [h6, cond_false] at h
  cases h7 : decide (a.kind = 6) with
  | false => rw [h7] at h; cases h
  | true =>
  rw [h7, cond_true] at h
  obtain ⟨q1, q2⟩ := compose_len (a := a.pieces) (b := b.pieces)
  cases h8 : !decide ((composeP a.pieces b.pieces).2 = 0) with
  | true => rw [h8] at h; cases h
  | false =>
  rw [h8, cond_false] at h
  cases h9 : decide ((composeP a.pieces b.pieces).1.length = 0) with
  | true => rw [h9] at h; simp at h
  | false =>
  rw [h9, cond_false] at h
  injection h with h
  injection h with h
  rw [← h]
  exact bare_ok ⟨⟨hb.lt.path, hb.lt.to, hb.lt.label, hb.lt.key, hb.lt.value, q1⟩, q2⟩
def OkS (l : List OpT) : Prop := ∀ o ∈ l, o.Ok
theorem OkS.cons {o : OpT} {l : List OpT} (h : o.Ok) (k : OkS l) : OkS (o :: l) := fun z hz => by
  rcases List.mem_cons.1 hz with rfl | hz
  · exact h
  · exact k z hz
set_option maxHeartbeats 2000000 in
set_option maxRecDepth 100000 in
theorem w_List (l : List OpT) (hl : l.length ≤ 1000000) (hok : OkS l) : Fun Tryz.prog 76 [] [opsV l] (fun x T' => ∃ g0, x = .osl (.loc 0) g0 0 ((listS l).map opV).length ∧ T' = [some (.vec g0 11 ((listS l).map opV))]) := by
  refine fun_keep 1 rfl (fun_fn 60 Tryz.func76 rfl rfl rfl fun imps B hi => ?_)
  have : imps = [] := List.length_eq_zero_iff.1 hi
  subst this
  show Goes _ _ _ _
  refine goes_own 3 11 rfl ?_
  refine goes_iter (ι := Nat × Nat × List OpT) (fun i => i.1 ≤ l.length ∧ listR (l.drop i.1) i.2.2 = listR l [] ∧ OkS i.2.2 ∧ i.2.2.length ≤ i.1) (fun i => l.length - i.1)
    (fun i => [(11, .int .i64 i.1), (10, .int .i64 (l.map opV).length), (9, opsV l), (3, .osl (.loc 0) i.2.1 0 (i.2.2.reverse.map opV).length)]) (fun i => [some (.vec i.2.1 11 (i.2.2.reverse.map opV))]) (0, 0, []) 60 (fun _ => rfl) (fun _ => rfl)
    ⟨⟨Nat.zero_le _, rfl, (fun z hz => by cases hz), Nat.zero_le _⟩, ⟨⟨rfl, rfl⟩, ⟨rfl, rfl⟩, ⟨rfl, rfl⟩, ⟨rfl, rfl⟩, trivial⟩, ⟨⟨rfl, rfl⟩, trivial⟩⟩ ?_
  rintro ⟨i, g, s⟩ ⟨k1, k2, k3, k4⟩ next
  simp only at k1 k2 k3 k4
  refine ⟨fun hlt => go 60 ?_, fun hge => go 60 ?_⟩
  rotate_left
  · have hi : i = l.length := by have : l.length ≤ i := by simpa using hge
                                 omega
    subst hi
    rw [List.drop_of_length_le (Nat.le_refl _), listR] at k2
    have e : listS l = s.reverse := by unfold listS; rw [← k2]
    rw [e]
    exact ⟨trivial, rfl, rfl, [some (.vec g 11 (s.reverse.map opV))], rfl, rfl, ⟨⟨rfl, rfl⟩, trivial⟩, g, rfl, rfl⟩
  have hi : i < l.length := by simpa using hlt
  have hx : (l.map opV)[i]? = some (opV l[i]) := by simp [hi]
  have hd : l.drop i = l[i] :: l.drop (i + 1) := List.drop_eq_getElem_cons hi
  have ho := hok _ (List.getElem_mem hi)
  rw [hd, listR] at k2
  generalize l[i] = o at hx ho k2
  have ci := w_Idle o ho
  have cb := w_Bare o ho.lt
  obtain ⟨ib, hib⟩ : ∃ ib, idleO o = ib := ⟨_, rfl⟩
  rw [hib] at ci k2
  refine ⟨Int.natCast_nonneg i, _, hx, ?_⟩
  show CallThen _ _ _ _ _ _
  refine call_pure ci rfl ?_
  rintro x rfl
  refine ⟨fun g1 => go 60 ?_, fun g1 => go 60 ?_⟩
  · have g1 : ib = true := g1
    rw [g1, cond_true] at k2
    refine ⟨by constructor <;> omega, ?_⟩
    show Goes _ _ _ _
    exact next (i + 1, g, s) _ _ ⟨⟨hi, k2, k3, by simp only; omega⟩, by simp only; omega, ⟨⟨rfl, rfl⟩, ⟨rfl, rfl⟩, ⟨rfl, rfl⟩, ⟨rfl, rfl⟩, trivial⟩, ⟨⟨rfl, rfl⟩, trivial⟩⟩
  have g1 : ib = false := g1
  rw [g1, cond_false] at k2
  show CallThen _ _ _ _ _ _
  refine call_pure cb rfl ?_
  rintro x rfl
  refine ⟨⟨rfl, trivial⟩, rfl, rfl, rfl, rfl, Nat.le_trans (Nat.mul_le_mul_right _ (show _ ≤ 1000001 by simp only [List.length_map, List.length_reverse, List.length_cons, List.length_nil]; omega)) (by decide), ?_⟩
  show Goes _ _ _ _
  refine goes_iter (ι := Nat × List OpT) (fun j => sqz j.2 = pushO s (bareO o) ∧ OkS j.2 ∧ j.2.length ≤ i + 1) (fun j => j.2.length)
    (fun j => [(11, .int .i64 i), (10, .int .i64 (l.map opV).length), (9, opsV l), (3, .osl (.loc 0) j.1 0 (j.2.reverse.map opV).length)]) (fun j => [some (.vec j.1 11 (j.2.reverse.map opV))]) (bump g, bareO o :: s) 60 (fun _ => rfl) (fun _ => rfl)
    ⟨⟨rfl, k3.cons (bare_ok ho), by simp only [List.length_cons]; omega⟩, ⟨⟨rfl, rfl⟩, ⟨rfl, rfl⟩, ⟨rfl, rfl⟩, ⟨?_, rfl⟩, trivial⟩, ⟨⟨?_, rfl⟩, trivial⟩⟩ ?_
  · exact congrArg (V.osl (.loc 0) (bump g) 0) (by simp)
  · exact congrArg (fun z => some (HObj.vec (bump g) 11 z)) (by simp; rfl)
  rintro ⟨g2, r⟩ ⟨j1, j2, j3⟩ next2
  simp only at j1 j2 j3
  have done : sqz r = r → ∀ E T, envIs 1 E [(11, .int .i64 ((i + 1 : Nat) : Int)), (10, .int .i64 (l.map opV).length), (9, opsV l), (3, .osl (.loc 0) g2 0 (r.reverse.map opV).length)] → heapIs 1 T [some (.vec g2 11 (r.reverse.map opV))] → Goes _ _ E T := fun e E T hE hT => by
    have e2 : pushO s (bareO o) = r := j1.symm.trans e
    rw [e2] at k2
    exact next (i + 1, g2, r) E T ⟨⟨hi, k2, j2, j3⟩, by simp only; omega, hE, hT⟩
  clear next
  match r, j1, j2, j3, next2, done with
  | [], j1, j2, j3, next2, done =>
    refine ⟨rfl, ?_⟩
    refine ⟨fun q => absurd (lt_of q) (by simp), fun _ => go 60 ?_⟩
    refine ⟨by constructor <;> omega, ?_⟩
    show Goes _ _ _ _
    exact done rfl _ _ ⟨⟨rfl, rfl⟩, ⟨rfl, rfl⟩, ⟨rfl, rfl⟩, ⟨rfl, rfl⟩, trivial⟩ ⟨⟨rfl, rfl⟩, trivial⟩
  | [x], j1, j2, j3, next2, done =>
    refine ⟨rfl, ?_⟩
    refine ⟨fun q => absurd (lt_of q) (by simp), fun _ => go 60 ?_⟩
    refine ⟨by constructor <;> omega, ?_⟩
    show Goes _ _ _ _
    exact done rfl _ _ ⟨⟨rfl, rfl⟩, ⟨rfl, rfl⟩, ⟨rfl, rfl⟩, ⟨rfl, rfl⟩, trivial⟩ ⟨⟨rfl, rfl⟩, trivial⟩
  | b :: a :: rest, j1, j2, j3, next2, done =>
    rw [sqz_two] at j1 done
    have ha := j2 a (by simp)
    have hb := j2 b (by simp)
    have cp := w_Pair a b ha hb
    have hz : ∀ z, pairO a b = some (some z) → z.Ok := fun z => pair_okO ha hb
    have hrest : OkS rest := fun z hz => j2 z (by simp [hz])
    have hlen : (((b :: a :: rest).reverse.map opV).length : Int) = rest.length + 2 := by simp
    have h0 : ((b :: a :: rest).reverse.map opV)[0 + ((((b :: a :: rest).reverse.map opV).length : Int) - 2).toNat]? = some (opV a) := by
      rw [hlen]
      simp
    have h1 : ((b :: a :: rest).reverse.map opV)[0 + ((((b :: a :: rest).reverse.map opV).length : Int) - 2 + 1).toNat]? = some (opV b) := by
      rw [hlen, show ((rest.length : Int) + 2 - 2 + 1).toNat = rest.length + 1 by omega]
      simp
    generalize pairO a b = pr at cp j1 done hz
    have hrl : rest.length + 2 ≤ i + 1 := by simpa using j3
    have hcut : ((b :: a :: rest).reverse.map opV).take rest.length = rest.reverse.map opV := by
      simp
    have hcutl : rest.length = (((b :: a :: rest).reverse.map opV).take rest.length).length := by rw [hcut]; simp
    rcases pr with _ | _ | z
    all_goals
      refine ⟨rfl, ?_⟩
      refine ⟨fun _ => go 60 ?_, fun q => absurd (not_lt_of q) (by rw [hlen]; omega)⟩
      refine ⟨rfl, ?_⟩
      refine ⟨by constructor <;> (rw [hlen]; omega), ?_⟩
      show Goes _ _ _ _
      refine goes_draw 60 ?_
      refine ⟨rfl, by rw [hlen]; omega, by rw [hlen]; omega, rfl, opV a, h0, ?_⟩
      refine ⟨by constructor <;> (rw [hlen]; omega), ?_⟩
      refine ⟨rfl, by rw [hlen]; omega, by rw [hlen]; omega, rfl, opV b, h1, ?_⟩
      refine ⟨_, cp, rfl, ?_⟩
      refine ⟨by kernel_rfl, ?_⟩
    · refine ⟨by constructor <;> omega, ?_⟩
      show Goes _ _ _ _
      exact done rfl _ _ ⟨⟨rfl, rfl⟩, ⟨rfl, rfl⟩, ⟨rfl, rfl⟩, ⟨rfl, rfl⟩, trivial⟩ ⟨⟨rfl, rfl⟩, trivial⟩
    · show Goes _ _ _ _
      refine goes_cut (h := rest.length) 60 rfl rfl rfl rfl (congrArg (V.int .i64) (show (((b :: a :: rest).reverse.map opV).length : Int) - 2 = ((rest.length : Nat) : Int) by rw [hlen]; omega)) rfl rfl rfl (by simp) ?_
      refine ⟨rfl, hcutl, Nat.le_trans (Nat.mul_le_mul_right _ (show _ ≤ 1000001 by rw [hcut]; simp only [List.length_map, List.length_reverse, List.length_nil]; omega)) (by decide), ?_⟩
      show Goes _ _ _ _
      refine next2 (bump (bump g2), rest) _ _ ⟨⟨j1, hrest, by simp only; omega⟩, by simp only [List.length_cons]; omega, ⟨⟨rfl, rfl⟩, ⟨rfl, rfl⟩, ⟨rfl, rfl⟩, ⟨?_, rfl⟩, trivial⟩, ⟨⟨?_, rfl⟩, trivial⟩⟩
      · exact congrArg (V.osl (.loc 0) (bump (bump g2)) 0) (by rw [hcut]; simp)
      · exact congrArg (fun z => some (HObj.vec (bump (bump g2)) 11 z)) (by rw [hcut]; simp)
    · show Goes _ _ _ _
      refine goes_cut (h := rest.length) 60 rfl rfl rfl rfl (congrArg (V.int .i64) (show (((b :: a :: rest).reverse.map opV).length : Int) - 2 = ((rest.length : Nat) : Int) by rw [hlen]; omega)) rfl rfl rfl (by simp) ?_
      refine ⟨rfl, hcutl, Nat.le_trans (Nat.mul_le_mul_right _ (show _ ≤ 1000001 by rw [hcut]; simp only [List.length_map, List.length_reverse, List.length_cons, List.length_nil]; omega)) (by decide), ?_⟩
      show Goes _ _ _ _
      refine next2 (bump (bump g2), z :: rest) _ _ ⟨⟨j1, hrest.cons (hz z rfl), by simp only [List.length_cons]; omega⟩, by simp only [List.length_cons]; omega, ⟨⟨rfl, rfl⟩, ⟨rfl, rfl⟩, ⟨rfl, rfl⟩, ⟨?_, rfl⟩, trivial⟩, ⟨⟨?_, rfl⟩, trivial⟩⟩
      · exact congrArg (V.osl (.loc 0) (bump (bump g2)) 0) (by rw [hcut]; simp)
      · exact congrArg (fun z => some (HObj.vec (bump (bump g2)) 11 z)) (by rw [hcut]; simp)
end Bow
/- W76: treeops.Bare, seen to hand back rows of its own. -/
namespace Bow
open Go Go.Proofs
end Bow
/- W77: lists of operations whose rows have names; lists.bare, square.Behind, square.Both, lists.Both, seen to hand back memory of their own. -/
namespace Bow
open Go Go.Proofs
end Bow
/- W78: bowerlaw12.spoil, which writes over an operation's own rows. -/
namespace Bow
open Go Go.Proofs
end Bow
/- SP28: where a node is, number by number (the document's answer), in plain Lean. -/
namespace Bow
open Go
end Bow
/- W67: the document's answer of chapter 11: Moves, parent, child, Node, Gap, Undo. -/
namespace Bow
open Go Go.Proofs
end Bow
/- SP27: two edits behind each other, place by place, in plain Lean: as leaftext goes, by runs, it is the same. -/
namespace Bow
open Go
end Bow
/- SP31: the document's normal form and views, step by step, in plain Lean. -/
namespace Bow
open Go
end Bow
/- W70: the document's answer of chapter 5: norm, Extent, view, behind, Transform. -/
namespace Bow
open Go Go.Proofs
end Bow
/- W71: the document's answer of chapter 12: what becomes of an operation behind another one. -/
namespace Bow
open Go Go.Proofs
end Bow
/- W72: the document's Behind and Both (chapter 12); the law SquareBehind, walked. -/
namespace Bow
open Go Go.Proofs
end Bow
/- W79: the law SquareBoth, walked. -/
namespace Bow
open Go Go.Proofs
end Bow
/- SP32: the errors of lists brought by each other; a list brought by rows, in plain Lean. -/
namespace Bow
open Go
end Bow
/- W73: the document's answer of chapter 13: bare, joined, much, both, Both, Through; lists.Through. -/
namespace Bow
open Go Go.Proofs
end Bow
/- SP33: lists, both sides named the other way round; bare ones; in plain Lean. -/
namespace Bow
open Go
section
variable {prior : Bool}
end
end Bow
/- W80: the law ListsBoth, walked. -/
namespace Bow
open Go Go.Proofs
end Bow
/- SP58: a text, turned place by place by two. -/
namespace Bow
open Go
end Bow
/- SP59: an edit, done place by place. -/
namespace Bow
open Go
end Bow
/- SP60: an edit that is normal, done place by place. -/
namespace Bow
open Go
end Bow
/- SP61: an edit made normal does what it did; two edits of one text behind each other end in one text. -/
namespace Bow
open Go
end Bow
/- SP40: trees as what names unfold to: whose children are which, and what stands at each. -/
namespace Bow
open Go
section
variable {α : Type}
end
end Bow
/- SP41: a change at a node, seen by names. -/
namespace Bow
open Go
section
variable {α : Type}
end
end Bow
/- SP42: nodes taken out, put in, changed, seen by names. -/
namespace Bow
open Go
section
variable {α : Type}
section
variable [DecidableEq α]
end
end
end Bow
/- SP43: what an operation does to the lists of children, by names; where a child stands then. -/
namespace Bow
open Go
section
variable {α : Type} [DecidableEq α]
end
end Bow
/- SP44: two changes of the lists of children, one behind the other, and the other way round. -/
namespace Bow
open Go
section
variable {α : Type} [DecidableEq α]
end
end Bow
/- SP45: where nodes and gaps are behind an operation: the same names. -/
namespace Bow
open Go
section
variable {α : Type} [DecidableEq α]
end
end Bow
/- SP46: nodes' paths and gaps behind an operation lead to the same names. -/
namespace Bow
open Go
section
variable {α : Type} [DecidableEq α]
end
end Bow
/- SP47: what becomes of a tree, by names. -/
namespace Bow
open Go
section
variable {α : Type} [DecidableEq α]
end
end Bow
/- SP48: operations that are valid, by names; one behind another one. -/
namespace Bow
open Go
section
variable {α : Type} [DecidableEq α]
end
end Bow
/- SP49: an operation behind another one, by names: it does what it did. -/
namespace Bow
open Go
section
variable {α : Type} [DecidableEq α]
end
end Bow
/- SP50: both ways round, by names: two that take out and put in; a deletion, and what is below it. -/
namespace Bow
open Go
section
variable {α : Type} [DecidableEq α]
end
end Bow
/- SP51: two attributes set, one behind the other. -/
namespace Bow
open Go
end Bow
/- SP52: both ways round, by names: what stands at nodes is turned; a deletion, and what is below it. -/
namespace Bow
open Go
section
variable {α : Type} [DecidableEq α]
end
end Bow
/- SP53: both ways round, by names: the same node moved by both; a deletion, and what the other one does below it. -/
namespace Bow
open Go
section
variable {α : Type} [DecidableEq α]
end
end Bow
/- SP54: both ways round, by names: a deletion, and what the other one does at or below the node. -/
namespace Bow
open Go
section
variable {α : Type} [DecidableEq α]
end
end Bow
/- SP55: both ways round, by names: a move out of what is deleted, and a move into it. -/
namespace Bow
open Go
section
variable {α : Type} [DecidableEq α]
end
end Bow
/- SP56: a move undone, by names. -/
namespace Bow
open Go
section
variable {α : Type} [DecidableEq α]
end
end Bow
/- SP57: two moves, each of which would bring the other one's node below its own: one is undone. -/
namespace Bow
open Go
section
variable {α : Type} [DecidableEq α]
end
end Bow
/- SP62: two edits of one leaf; any two operations, both ways round: the same tree. -/
namespace Bow
open Go
section
variable {α : Type} [DecidableEq α]
end
end Bow
/- SP63: any two operations that are valid on a tree, both ways round, by names: the same tree. -/
namespace Bow
open Go
section
variable {α : Type} [DecidableEq α]
end
end Bow
/- SP64: names for any tree; two operations and two lists, both ways round: the same tree. -/
namespace Bow
open Go
end Bow
/- SP65: what two lists come to costs no more an operation than they. -/
namespace Bow
open Go
def AtMost (C : Nat) (l : List OpT) : Prop:=∀ o ∈ l,costO o ≤ C
theorem bothX_cost1 (a b : OpT) (prior : Bool) : ∀ o ∈ (bothX a b prior).1,costO o ≤ costO a:=by
 unfold bothX
 cases decide ((behindX a b prior).2 = 0) with
 | false => intro o ho;cases ho
 | true =>
  cases decide ((behindX b a (!prior)).2 = 0) with
  | false => intro o ho;cases ho
  | true => exact behX_cost a b prior
end Bow
/- W98: the law ListsCloses. -/
namespace Bow
open Go Go.Proofs
theorem light_most {l : List OpT} {n m : Nat} (hL : LightL l n m) : AtMost (2 + 4 * m) l:=fun o ho => by
 obtain ⟨h1,h2⟩:=hL.ops o ho
 have:=h1.label
 have:=h1.key
 have:=h1.value
 unfold costO
 omega
end Bow
/- W75: a list brought by rows: lists.Through, the document's; the law ListsThrough, walked. -/
namespace Bow
open Go Go.Proofs
end Bow
/- SP68: a window: its revisions' trees, and the lists between them; a list brought behind them, in plain Lean. -/
namespace Bow
open Go
end Bow
/- SP69: a call of a window's script, as it is handed over. -/
namespace Bow
open Go
end Bow
/- W107: a window's revisions: what is known of them; in plain Lean. -/
namespace Bow
open Go Go.Proofs
end Bow
/- W28: the chapter's examples. -/
namespace Bow
open Go Go.Proofs
end Bow
/- W29: the chapter's examples, all. -/
namespace Bow
open Go Go.Proofs
end Bow
/- W30: the laws' functions: TreeopsFormed, TreeopsValid. -/
namespace Bow
open Go Go.Proofs
end Bow
/- W40: the law's function TreeopsApply. -/
namespace Bow
open Go Go.Proofs
end Bow
/- W90: the law TreeopsSame, walked. -/
namespace Bow
open Go Go.Proofs
theorem apart_int {ss : List Nat} : ∀ l : List Int,V.apartL ss (l.map intV) = true
 | [] => rfl
 | i :: l => by rw [List.map_cons,V.apartL,apart_int l];rfl
theorem apart_attrs {ss : List Nat} : ∀ l : List (List UInt8 × List UInt8),V.apartL ss (l.map attrV) = true
 | [] => rfl
 | i :: l => by rw [List.map_cons,V.apartL,apart_attrs l];rfl
theorem apart_pieces {ss : List Nat} : ∀ l : List PieceT,V.apartL ss (l.map pieceV) = true
 | [] => rfl
 | i :: l => by rw [List.map_cons,V.apartL,apart_pieces l];rfl
mutual
theorem apart_node {ss : List Nat} (h : ss.contains 2 = false ∧ ss.contains 6 = false) : ∀ t : Tree,(nodeV t).apart ss = true
 | .mk i l b a c s => by
  rw [show nodeV (.mk i l b a c s) = .agg [.int .u64 i,.bool l,.str b,.sl 2 (a.map attrV),.str c,.sl 6 (nodesV s)] from rfl]
  simp only [V.apart,V.apartL,h.1,h.2,apart_attrs,apart_nodes h s,Bool.not_false,Bool.and_self]
theorem apart_nodes {ss : List Nat} (h : ss.contains 2 = false ∧ ss.contains 6 = false) : ∀ l : List Tree,V.apartL ss (nodesV l) = true
 | [] => by rw [nodesV];rfl
 | s :: l => by
  have h1:=apart_node h s
  rw [nodesV,V.apartL,apart_nodes h l,Bool.and_true]
  exact h1
end
end Bow
/- W108: a window that is lent. -/
namespace Bow
open Go Go.Proofs
theorem apart_op {ss : List Nat} (h : ss.contains 1 = false ∧ ss.contains 3 = false) (o : OpT) : (opV o).apart ss = true:=by
 show V.apart ss (.agg [.int .u8 o.kind,pathV o.path,.int .i64 o.at_,pathV o.to,.int .u64 o.id,.bool o.leaf,.str o.label,.str o.key,.str o.value,.bool o.gone,piecesV o.pieces]) = true
 unfold pathV piecesV
 simp only [V.apart,V.apartL,h.1,h.2,apart_int,apart_pieces,Bool.not_false,Bool.and_self]
theorem apart_opL {ss : List Nat} (h : ss.contains 1 = false ∧ ss.contains 3 = false) : ∀ l : List OpT,V.apartL ss (l.map opV) = true
 | [] => rfl
 | o :: l => by rw [List.map_cons,V.apartL,apart_op h,apart_opL h l];rfl
theorem apart_ops {ss : List Nat} (h : ss.contains 1 = false ∧ ss.contains 3 = false) (h2 : ss.contains 11 = false) (l : List OpT) : (opsV l).apart ss = true:=by
 unfold opsV
 simp only [V.apart,h2,apart_opL h,Bool.not_false,Bool.and_self]
end Bow
/- AE57: a pointer to memory that is only read, held against nil. -/
namespace Bow
open Go
section
variable {c : Cx} {ops : Array Oper} {i : Nat} {o : Oper} {rest : List Nat} {k : List Item} {E : Env} {T : Heap}
theorem goes_ptrPG {t t' e : TypeId} {x : Operand} {kb off j s : Nat} {cs : List V} {oj : Oper} (n : Nat) (ho : lget ops.toList i = some o) (hg : o.guard = some (j, false)) (hoj : lget ops.toList j = some oj) (hdj : oj.dst = some s) (hsj : lk E s = .ff) (hop : o.op = .binOp .eql t x (.const (.pointer none)) t') (hx : opd E x = .ptr (.loc kb) off) (hk : lget T kb = some (some (.box cs))) (ht : tyU c.P t = some (.pointer e))
    (h : putE c.nt o.dst .ff E False fun E' => evp c n (.inRegion ops rest :: k) E' T) : Goes c (.inRegion ops (i :: rest) :: k) E T := by
  rw [lget_eq] at hk
  rw [lget_eq, Array.getElem?_toList] at ho hoj
  obtain ⟨E', h, hd⟩ := (putE_some h).resolve_left id
  refine goes_op (u := .ff) (T' := T) ho (fun w β H m a hs => ?_) ?_ (fun cl hc => by rw [hop] at hc; cases hc) hd (evp_sound _ _ _ _ _ h)
  · have hv : a.tmps.getD s Go.undef = .bool false := by
      have := opd_rep hs (.tmp s)
      simp only [opd, hsj] at this
      exact rep_ff this
    simp only [Region.wanted, hg, yielded_of hoj hdj, hv]
    rfl
  · refine OpTo.still fun o2 hop2 w β H m a hs => ⟨.bool false, ?_, .ff⟩
    rw [hop] at hop2
    have hr := opd_rep hs x
    obtain ⟨r, hrm, hH⟩ := hs.at hk
    simp only [hx, V.conv, Ref.conv, hrm] at hr
    generalize hq : a.eval x = q at hr
    cases hr with
    | ptrLive _ _ b N cs' hH' hβ =>
      have e2 : a.eval (.const (.pointer none)) = .pointer none := rfl
      have hgd : (eqGuard .eql t x (.const (.pointer none)) (.pointer (some ⟨b, off, none⟩)) (.pointer none)).run c.P w = .ok () w := by simp [eqGuard]
      simp only [execOp, hop2, hq, e2, Sem.run_bind, hgd, Result.andThen_ok, (run_ptreq (tyU_sound ht) (some ⟨b, off, none⟩) w).1]
      rfl
    | ptrDead _ _ _ hd => rw [hH] at hd; cases hd
end
end Bow
/- W109: a window's trees and lists in new memory; the lists behind a revision. -/
namespace Bow
open Go Go.Proofs
end Bow
/- W122: a client's lists and trees in new memory; the error of a beginning. -/
namespace Bow
open Go Go.Proofs
set_option maxRecDepth 100000 in
theorem w_cbareF (l : List OpT) (hl : l.length ≤ 1000000) (hok : OkS l) : Fun Tryz.prog 75 [] [opsV l] (fun x T' => ∃ g0, x = .osl (.loc 0) g0 0 ((bareL l).map opV).length ∧ T' = [some (.vec g0 11 ((bareL l).map opV))]) := by
  refine fun_keep 1 rfl (fun_fn 300 Tryz.func75 rfl rfl rfl fun imps B hi => ?_)
  have : imps = [] := List.length_eq_zero_iff.1 hi
  subst this
  show Goes _ _ _ _
  refine goes_own 3 11 rfl ?_
  refine goes_iter (ι := Nat × Nat) (fun i => i.1 ≤ l.length) (fun i => l.length - i.1) (fun i => [(8, .int .i64 i.1), (7, .int .i64 (l.map opV).length), (6, opsV l), (3, .osl (.loc 0) i.2 0 ((bareL (l.take i.1)).map opV).length)]) (fun i => [some (.vec i.2 11 ((bareL (l.take i.1)).map opV))]) (0, 0) 300 (fun _ => rfl) (fun _ => rfl) ⟨Nat.zero_le _, ⟨⟨rfl, rfl⟩, ⟨rfl, rfl⟩, ⟨rfl, rfl⟩, ⟨rfl, rfl⟩, trivial⟩, ⟨⟨rfl, rfl⟩, trivial⟩⟩ ?_
  rintro ⟨i, g⟩ k1 next
  simp only at k1
  have hbl : (bareL (l.take i)).length = i := by simp [bareL]; omega
  refine ⟨fun hlt => go 300 ?_, fun hge => go 300 ?_⟩
  · have hi : i < l.length := by simpa using hlt
    have hx : (l.map opV)[i]? = some (opV l[i]) := by simp [hi]
    refine ⟨Int.natCast_nonneg i, _, hx, ?_⟩
    show CallThen _ _ _ _ _ _
    refine call_pure (w_Bare l[i] (hok _ (List.getElem_mem hi)).lt) rfl ?_
    rintro x rfl
    refine ⟨⟨rfl, trivial⟩, rfl, rfl, rfl, rfl, Nat.le_trans (Nat.mul_le_mul_right _ (show _ ≤ 1000001 by rw [List.length_map, hbl]; simp only [List.length_cons, List.length_nil]; omega)) (by decide), ?_⟩
    refine ⟨by constructor <;> omega, ?_⟩
    show Goes _ _ _ _
    have e : (bareL (l.take (i + 1))).map opV = (bareL (l.take i)).map opV ++ [opV (bareO l[i])] := by
      rw [List.take_succ_eq_append_getElem hi]
      simp only [bareL, List.map_append, List.map_cons, List.map_nil]
    refine next (i + 1, bump g) _ _ ⟨hi, by simp only; omega, ⟨⟨rfl, rfl⟩, ⟨rfl, rfl⟩, ⟨rfl, rfl⟩, ⟨?_, rfl⟩, trivial⟩, ⟨⟨?_, rfl⟩, trivial⟩⟩
    · exact congrArg (V.osl (.loc 0) (bump g) 0) (by rw [e]; simp)
    · exact congrArg (fun z => some (HObj.vec (bump g) 11 z)) e.symm
  · have hi : i = l.length := by have : l.length ≤ i := by simpa using hge
                                 omega
    subst hi
    rw [List.take_length]
    exact ⟨trivial, rfl, rfl, [some (.vec g 11 ((bareL l).map opV))], rfl, rfl, ⟨⟨rfl, rfl⟩, trivial⟩, g, rfl, rfl⟩
theorem w_cbare (l : List OpT) (hl : l.length ≤ 1000000) (hok : OkS l) : Pure Tryz.prog 75 [opsV l] (fun x => x = opsV (bareL l)) :=
  pure_of_fun ((w_cbareF l hl hok).mono fun x T' h => by
    obtain ⟨g0, rfl, rfl⟩ := h
    exact ⟨rfl, rfl, rfl, rfl⟩)
def mayE (rev seq : Int) (t : Tree) : Int := bif decide (min rev seq < 0) || decide (2305843009213693952 < max rev seq) then 2 else bif !rightT t then 60 else 0
set_option maxRecDepth 100000 in
theorem w_cmay (rev seq : Int) (t : Tree) (hw : t.weight ≤ 1000000) : Pure Tryz.prog 62 [.int .i64 rev, .int .i64 seq, nodeV t] (fun x => x = .int .i64 (mayE rev seq t)) := by
  have c1 := w_RightT t hw
  obtain ⟨R, hR⟩ : ∃ R, mayE rev seq t = R := ⟨_, rfl⟩
  rw [hR]
  unfold mayE at hR
  generalize rightT t = rb at c1 hR
  have e1 : (if seq < rev then seq else rev) = min rev seq := by omega
  have e2 : (if seq > rev then seq else rev) = max rev seq := by omega
  refine pure_fn 60 Tryz.func62 rfl rfl rfl fun B => ?_
  refine ⟨fun q1 => go 60 ?_, fun q1 => go 60 ?_⟩
  · have q1 : decide (min rev seq < 0) = true := by rw [← e1]; exact q1
    exact ⟨trivial, rfl, rfl, rfl, by rw [← hR, q1]; rfl⟩
  have q1 : decide (min rev seq < 0) = false := by rw [← e1]; exact q1
  rw [q1] at hR
  refine ⟨fun q2 => go 60 ?_, fun q2 => go 60 ?_⟩
  · have q2 : decide (2305843009213693952 < max rev seq) = true := by rw [← e2]; exact q2
    exact ⟨trivial, rfl, rfl, rfl, by rw [← hR, q2]; rfl⟩
  have q2 : decide (2305843009213693952 < max rev seq) = false := by rw [← e2]; exact q2
  rw [q2] at hR
  show CallThen _ _ _ _ _ _
  refine call_pure c1 rfl ?_
  rintro z rfl
  refine ⟨fun q3 => go 60 ?_, fun q3 => go 60 ?_⟩
  · have q3 : rb = false := by simpa using q3
    exact ⟨trivial, rfl, rfl, rfl, by rw [← hR, q3]; rfl⟩
  · have q3 : rb = true := by simpa using q3
    exact ⟨trivial, rfl, rfl, rfl, by rw [← hR, q3]; rfl⟩
set_option maxHeartbeats 4000000 in
set_option maxRecDepth 100000 in
theorem w_ccopied (t : Tree) : t.weight ≤ 1000000 → Pure Tryz.prog 63 [nodeV t] (fun x => x = nodeV t) := by
  induction t using Tree.ind with
  | _ t ih =>
  intro ht
  have ha := attrs_le_weight t
  have hs := subs_le_weight t
  refine pure_wk (pure_fn 60 Tryz.func63 rfl rfl rfl fun B => ?_)
  refine ⟨Nat.le_trans (Nat.mul_le_mul_right _ (show _ ≤ 1000000 by simp only [List.length_map]; omega)) (by decide), ?_⟩
  show Goes _ _ _ _
  refine goes_ownCell 0 5 6 rfl rfl ?_
  refine goes_iter (ι := Nat × Nat) (fun i => i.1 ≤ t.subs.length) (fun i => t.subs.length - i.1) (fun i => [(15, .int .i64 i.1), (14, .int .i64 t.subV.length), (13, .sl 6 t.subV), (2, .ptr (.loc 1) 0), (1, .ptr (.loc 0) 0)])
    (fun i => [some (.box [.int .u64 t.id, .bool t.leaf, .str t.label, .osl (.loc 2) 0 0 (t.attrs.map attrV).length, .str t.text, .osl (.loc 3) i.2 0 ((t.subs.take i.1).map nodeV).length]), some (.box [.int .u64 0, .ff, .str [], .nilsl, .str [], .nilsl]), some (.vec 0 2 (t.attrs.map attrV)), some (.vec i.2 6 ((t.subs.take i.1).map nodeV))]) (0, 0) 60 (fun _ => rfl) (fun _ => rfl) ⟨Nat.zero_le _, ⟨⟨rfl, rfl⟩, ⟨rfl, rfl⟩, ⟨rfl, rfl⟩, ⟨rfl, rfl⟩, ⟨rfl, rfl⟩, trivial⟩, ⟨⟨rfl, rfl⟩, ⟨rfl, rfl⟩, ⟨rfl, rfl⟩, ⟨rfl, rfl⟩, trivial⟩⟩ ?_
  rintro ⟨i, g⟩ k1 next
  simp only at k1
  have htl : (t.subs.take i).length = i := by simp; omega
  refine ⟨fun hlt => go 60 ?_, fun hge => go 60 ?_⟩
  · have hi : i < t.subs.length := by simpa [subV_eq] using hlt
    have hx : t.subV[((i : Nat) : Int).toNat]? = some (nodeV t.subs[i]) := by simp [subV_eq, hi]
    have hmem := List.getElem_mem hi
    have hws := weight_sub hmem
    have cc := ih _ hmem (by omega)
    have e : (t.subs.take (i + 1)).map nodeV = (t.subs.take i).map nodeV ++ [nodeV t.subs[i]] := by
      rw [List.take_succ_eq_append_getElem hi]
      simp only [List.map_append, List.map_cons, List.map_nil]
    generalize t.subs[i] = s at hx cc e
    refine ⟨Int.natCast_nonneg i, nodeV s, hx, ?_⟩
    show Goes _ _ _ _
    refine goes_draw 60 ?_
    refine ⟨_, cc, rfl, ?_⟩
    refine ⟨rfl, ⟨rfl, trivial⟩, rfl, rfl, rfl, rfl, rfl, Nat.le_trans (Nat.mul_le_mul_right _ (show _ ≤ 1000001 by rw [List.length_map, htl]; simp only [List.length_cons, List.length_nil]; omega)) (by decide), ?_⟩
    refine ⟨by kernel_rfl, ?_⟩
    refine ⟨by constructor <;> omega, ?_⟩
    show Goes _ _ _ _
    refine next (i + 1, bump g) _ _ ⟨hi, by simp only; omega, ⟨⟨rfl, rfl⟩, ⟨rfl, rfl⟩, ⟨rfl, rfl⟩, ⟨rfl, rfl⟩, ⟨rfl, rfl⟩, trivial⟩, ⟨⟨?_, rfl⟩, ⟨rfl, rfl⟩, ⟨rfl, rfl⟩, ⟨?_, rfl⟩, trivial⟩⟩
    · exact congrArg (fun n => some (HObj.box [.int .u64 t.id, .bool t.leaf, .str t.label, .osl (.loc 2) 0 0 (t.attrs.map attrV).length, .str t.text, .osl (.loc 3) (bump g) 0 n])) (by rw [e]; simp)
    · exact congrArg (fun z => some (HObj.vec (bump g) 6 z)) e.symm
  · have hi : i = t.subs.length := by have : t.subs.length ≤ i := by simpa [subV_eq] using hge
                                      omega
    subst hi
    refine ⟨trivial, rfl, rfl, rfl, rfl, rfl, rfl, rfl, nodeV t, ?_, rfl, rfl⟩
    have e : (t.subs.take t.subs.length).map nodeV = t.subV := by rw [List.take_length, subV_eq]
    exact Wk.of_eq (congrArg (fun z => V.agg [.int .u64 t.id, .bool t.leaf, .str t.label, .sl 2 (t.attrs.map attrV), .str t.text, .sl 6 z]) e)
end Bow
/- AE63: what a function leaves, laid otherwise: nil as an own row, a row that takes over another one's block; a cut in a guarded place. -/
namespace Bow
open Go
def HTo (T T' : Heap) : Prop := ∀ (imps : List Nat) (nt : Nat) (w : World) (β : Nat → Loc) (H : Heap) (m : List Nat) (B : Base) (a : Act), SRel imps nt w β H m ⟨[], T, B, []⟩ a → ∃ (β' : Nat → Loc) (H' : Heap) (m' : List Nat), SRel imps nt w β' H' m' ⟨[], T', B, []⟩ a ∧ Fr w β H w β' H' ∧ m <+: m'
theorem HTo.refl (T : Heap) : HTo T T := fun _ _ _ β H m _ _ h => ⟨β, H, m, h, Fr.refl _ _ _, List.prefix_refl _⟩
theorem HTo.trans {T T' T'' : Heap} (h : HTo T T') (k : HTo T' T'') : HTo T T'' := fun imps nt w β H m B a hs => by
  obtain ⟨β1, H1, m1, a1, a2, a3⟩ := h imps nt w β H m B a hs
  obtain ⟨β2, H2, m2, b1, b2, b3⟩ := k imps nt w β1 H1 m1 B a a1
  exact ⟨β2, H2, m2, b1, a2.trans b2, a3.trans b3⟩
theorem HTo.ownCell {T : Heap} {cs : List V} (kb j sz : Nat) (hk : T[kb]? = some (some (.box cs))) (hj : cs[j]? = some .nilsl) : HTo T (List.set (T ++ [some (HObj.vec 0 sz [])]) kb (some (HObj.box (cs.set j (.osl (.loc T.length) 0 0 0))))) := by
  intro imps nt w β H m B a hs
  obtain ⟨β', H', k1, k2, k3⟩ := hs.newNil 0 sz none
  have hk2 : (T ++ [some (HObj.vec 0 sz [])])[kb]? = some (some (.box cs)) := by rw [List.getElem?_append_left (lt_of_get hk)]; exact hk
  obtain ⟨r, hr, hH⟩ := k1.at hk2
  have hob := k1.hrel.obj r _ hH
  have hfr : Fr w β' H' w β' (H'.set r (some ((HObj.box (cs.set j (.osl (.loc T.length) 0 0 0))).conv (m ++ [H.length])))) := Fr.swap hH trivial
  have hrel : HRel w β' (H'.set r (some ((HObj.box (cs.set j (.osl (.loc T.length) 0 0 0))).conv (m ++ [H.length])))) := by
    refine k1.hrel.swap hH trivial ?_
    simp only [HObj.conv]
    cases hβ : β' r with
    | none => trivial
    | nil => rw [hβ] at hob; exact hob
    | blk bb N =>
      rw [hβ] at hob
      obtain ⟨vs, e, q1, q2, q3, q4⟩ := hob
      refine ⟨vs, e, q1, q2, by rw [convL_set, List.length_set]; exact q3, fun i x v hi hv => ?_⟩
      rw [convL_set, List.getElem?_set] at hi
      split at hi
      · rename_i hji
        subst hji
        split at hi
        · injection hi with hi
          subst hi
          have h0 := q4 j .nilsl v (by rw [convL_get, hj]; rfl) hv
          cases h0
          exact k3.mono hfr
        · cases hi
      · exact (q4 i x v hi hv).mono hfr
  have hset := k1.setAt (o' := some (.box (cs.set j (.osl (.loc T.length) 0 0 0)))) (w' := w) hr (fun o1 e1 => by
      injection e1 with e1
      subst e1
      have hm : m.length = T.length := hs.mlen
      have hsc := hs.scT kb _ hk
      show V.scL _ _
      rw [V.scL_iff]
      have hsc' := (V.scL_iff _ _).1 hsc
      intro v hv
      rcases List.mem_or_eq_of_mem_set hv with hv | hv
      · exact V.sc_mono (by simp; omega) v (hsc' v hv)
      · subst hv
        show T.length < (m ++ [H.length]).length
        simp only [List.length_append, List.length_singleton]
        omega)
    (fun hm => absurd hm (k1.notD hk2 (by simp))) hfr hrel
  exact ⟨β', _, m ++ [H.length], hset, k2.trans hfr, List.prefix_append _ _⟩
theorem HTo.wkCell {T : Heap} {cs : List V} {x y : V} (kb j : Nat) (hk : T[kb]? = some (some (.box cs))) (hj : cs[j]? = some x) (hx : x.pureB = true) (hy : y.pureB = true) (hw : Wk x y) : HTo T (T.set kb (some (.box (cs.set j y)))) := by
  intro imps nt w β H m B a hs
  obtain ⟨r, hr, hH⟩ := hs.at hk
  have hob := hs.hrel.obj r _ hH
  have hfr : Fr w β H w β (H.set r (some ((HObj.box (cs.set j y)).conv m))) := Fr.swap hH trivial
  have hrel : HRel w β (H.set r (some ((HObj.box (cs.set j y)).conv m))) := by
    refine hs.hrel.swap hH trivial ?_
    simp only [HObj.conv]
    cases hβ : β r with
    | none => trivial
    | nil => rw [hβ] at hob; exact hob
    | blk bb N =>
      rw [hβ] at hob
      obtain ⟨vs, e, q1, q2, q3, q4⟩ := hob
      refine ⟨vs, e, q1, q2, by rw [convL_set, List.length_set]; exact q3, fun i z v hi hv => ?_⟩
      rw [convL_set, List.getElem?_set] at hi
      split at hi
      · rename_i hji
        subst hji
        split at hi
        · injection hi with hi
          subst hi
          have h0 := q4 j _ v (by rw [convL_get, hj]; rfl) hv
          rw [pure_conv _ _ hx] at h0
          rw [pure_conv _ _ hy]
          exact (hw w β H v h0).mono hfr
        · cases hi
      · exact (q4 i z v hi hv).mono hfr
  have hset := hs.setAt (o' := some (.box (cs.set j y))) (w' := w) hr (fun o1 e1 => by
      injection e1 with e1
      subst e1
      have hm : m.length = T.length := hs.mlen
      have hsc := hs.scT kb _ hk
      show V.scL _ _
      rw [V.scL_iff]
      have hsc' := (V.scL_iff _ _).1 hsc
      intro v hv
      rcases List.mem_or_eq_of_mem_set hv with hv | hv
      · exact V.sc_mono (by simp; omega) v (hsc' v hv)
      · subst hv
        exact pureSc _ _ hy)
    (fun hm => absurd hm (hs.notD hk (by simp))) hfr hrel
  exact ⟨β, _, m, hset, hfr, List.prefix_refl _⟩
theorem HTo.into {T : Heap} {cs xs ys : List V} {g g2 sz sz2 n : Nat} (kb j jn k : Nat) (hkb : T[kb]? = some (some (.box cs))) (hcj : cs[j]? = some (.osl (.loc jn) g 0 n)) (hjn : T[jn]? = some (some (.vec g sz xs))) (hk : T[k]? = some (some (.vec g2 sz2 ys))) (hs2 : Nat.beq sz2 0 = false) (hne : Nat.beq k jn = false) (hn : n ≤ xs.length) :
    HTo T (((T.set k (some (.vec (bump g2) sz (xs.take n)))).set jn none).set kb (some (.box (cs.set j (.osl (.loc k) (bump g2) 0 n))))) := by
  have hne : k ≠ jn := Nat.ne_of_beq_eq_false hne
  have hs2 : sz2 ≠ 0 := Nat.ne_of_beq_eq_false hs2
  intro imps nt w β H m B a hs
  obtain ⟨rk, hmk, hHk⟩ := hs.at hk
  obtain ⟨rj, hmj, hHj⟩ := hs.at hjn
  obtain ⟨k1, k2⟩ := hs.takeOver hk hs2 hjn hne hmk hmj hn
  have hkb1 : kb ≠ k := fun e => by rw [e, hk] at hkb; cases hkb
  have hkb2 : kb ≠ jn := fun e => by rw [e, hjn] at hkb; cases hkb
  have hk2 : ((T.set k (some (.vec (bump g2) sz (xs.take n)))).set jn none)[kb]? = some (some (.box cs)) := by
    rw [List.getElem?_set_ne (fun x => hkb2 x.symm), List.getElem?_set_ne (fun x => hkb1 x.symm)]
    exact hkb
  obtain ⟨r, hr, hH⟩ := k1.at hk2
  have hr0 := hs.loc kb r _ hr hkb
  have hrk : (upd β rk (β rj)) r = β r := upd_ne fun e => hkb1 (hs.inj hr (e ▸ hmk))
  have hob0 := hs.hrel.obj r _ hr0
  have hob := k1.hrel.obj r _ hH
  have hrkl := hs.lt hmk
  have hrne : rk ≠ rj := fun e => hne (hs.inj hmk (by rw [e]; exact hmj))
  generalize hβ1 : upd β rk (β rj) = β1 at *
  generalize hH1 : (H.set rk (some (.vec (bump g2) sz (xs.take n)))).set rj none = H1 at *
  have hfr : Fr w β1 H1 w β1 (H1.set r (some ((HObj.box (cs.set j (.osl (.loc k) (bump g2) 0 n))).conv m))) := Fr.swap hH trivial
  have hnew : H1[rk]? = some (some (.vec (bump g2) sz (xs.take n))) := by
    rw [← hH1, List.getElem?_set_ne (fun x => hrne x.symm)]
    simp [hrkl]
  have hrep : ∀ v, Rep w β H ((V.osl (.loc jn) g 0 n).conv m) v → Rep w β1 H1 ((V.osl (.loc k) (bump g2) 0 n).conv m) v := fun v hv => by
    have hβk : β1 rk = β rj := by rw [← hβ1]; exact upd_same _ _ _
    simp only [V.conv, Ref.conv, hmj] at hv
    simp only [V.conv, Ref.conv, hmk]
    have hHj : H[rj]? = some (some (.vec g sz xs)) := hHj
    cases hv with
    | oslNil _ _ sz2 xs2 ad hH' hβ => exact .oslNil rk _ sz _ _ hnew (hβk.trans hβ)
    | oslBlk _ _ _ _ sz2 xs2 b N ad cap hH' hβ hl hN hcap ha hlen =>
      rw [hHj] at hH'
      injection hH' with hH'
      injection hH' with hH'
      injection hH' with _ e1 e2
      subst e1 e2
      exact .oslBlk rk _ 0 n sz _ b N _ _ hnew (hβk.trans hβ) hl hN hcap ha (by simp; omega)
    | oslStale _ _ _ _ g' sz' xs' _ hH' hg =>
      rw [hHj] at hH'
      injection hH' with hH'
      injection hH' with hH'
      injection hH' with e0 _ _
      omega
    | oslDead _ _ _ _ _ hd => rw [hHj] at hd; cases hd
  have hrel : HRel w β1 (H1.set r (some ((HObj.box (cs.set j (.osl (.loc k) (bump g2) 0 n))).conv m))) := by
    refine k1.hrel.swap hH trivial ?_
    simp only [HObj.conv] at hob0 ⊢
    rw [hrk]
    rw [hrk] at hob
    cases hβ : β r with
    | none => trivial
    | nil => rw [hβ] at hob0; exact hob0
    | blk bb N =>
      rw [hβ] at hob hob0
      obtain ⟨vs, e, q1, q2, q3, q4⟩ := hob
      obtain ⟨vs', e', p1, p2, p3, p4⟩ := hob0
      rw [q1] at p1
      injection p1 with p1
      injection p1 with p1 _ _
      subst p1
      refine ⟨vs, e, q1, q2, by rw [convL_set, List.length_set]; exact q3, fun i x v hi hv => ?_⟩
      rw [convL_set, List.getElem?_set] at hi
      split at hi
      · rename_i hji
        subst hji
        split at hi
        · injection hi with hi
          subst hi
          have h0 := p4 j _ v (by rw [convL_get, hcj]; rfl) hv
          exact (hrep v h0).mono hfr
        · cases hi
      · exact (q4 i x v hi hv).mono hfr
  have hset := k1.setAt (o' := some (.box (cs.set j (.osl (.loc k) (bump g2) 0 n)))) (w' := w) hr (fun o1 e1 => by
      injection e1 with e1
      subst e1
      have hm : m.length = T.length := hs.mlen
      have hsc := hs.scT kb _ hkb
      show V.scL _ _
      rw [V.scL_iff]
      have hsc' := (V.scL_iff _ _).1 hsc
      intro v hv
      rcases List.mem_or_eq_of_mem_set hv with hv | hv
      · exact V.sc_mono (by simp; omega) v (hsc' v hv)
      · subst hv
        show k < m.length
        exact lt_of_get hmk)
    (fun hm => absurd hm (k1.notD hk2 (by simp))) hfr hrel
  exact ⟨β1, _, m, hset, k2.trans hfr, List.prefix_refl _⟩
theorem fun_to {P : Program} {f : FuncId} {T : Heap} {args : List V} {Q : V → Heap → Prop} (h : Fun P f T args fun x T' => ∃ T'', HTo T' T'' ∧ Q x T'') : Fun P f T args Q := by
  unfold Fun at *
  refine ⟨h.1, fun w β H m B vals cs hs hl hr => ?_⟩
  obtain ⟨x, T', v, w', β', H', m', fr, ⟨T'', hto, hq⟩, k1, k2, k3, k4⟩ := h.2 w β H m B vals cs hs hl hr
  obtain ⟨β2, H2, m2, e1, e2, ⟨l, rfl⟩⟩ := hto m 0 w' β' H' m' B bare k1
  refine ⟨x, T'', v, w', β2, H2, m' ++ l, fr, hq, e1, k2.trans e2, ?_, k4⟩
  rw [V.conv_ext (Nat.le_refl _) x (sc_of_rep x k3)]
  exact k3.mono e2
theorem fun_frzR {P : Program} {f : FuncId} {T : Heap} {args : List V} {Q : V → Heap → Prop} (h : Fun P f T args fun x T' => frz x T' False fun y T'' => y.pureB = true ∧ Q y T'') : Fun P f T args Q := by
  unfold Fun at *
  refine ⟨h.1, fun w β H m B vals cs hs hl hr => ?_⟩
  obtain ⟨x, T', v, w', β', H', m', fr, hq, k1, k2, k3, k4⟩ := h.2 w β H m B vals cs hs hl hr
  have hfz : frzAll [x] T' False fun vs T1 => match vs with
      | [y] => y.pureB = true ∧ Q y T1
      | _ => False := by
    rw [frzAll, fv_eq]
    exact hq
  rcases frzAll_sound (F := False) _ _ _ hfz with h' | ⟨vs', T1, hk, hto⟩
  · exact h'.elim
  match vs', hk, hto with
  | [y], hk, hto =>
    obtain ⟨H1, q1, q2, q3⟩ := hto.2 _ _ _ _ _ _ _ _ _ _ k1
    exact ⟨y, T1, v, w', β', H1, m', fr, hk.2, q1, k2.trans q2, by rw [pure_conv _ _ hk.1]; exact q3 0 _ _ _ rfl rfl k3, k4⟩
section
variable {c : Cx} {E : Env} {T : Heap} {ops : Array Oper} {i : Nat} {rest : List Nat} {k : List Item} {o : Oper}
theorem goes_cutHiG {t e : TypeId} {x hi : Operand} {kk : IntKind} {ti : TypeInfo} {kn g off l sz h j s : Nat} {xs : List V} {oj : Oper} (n : Nat) (ho : lget ops.toList i = some o) (hg : o.guard = some (j, true)) (hoj : lget ops.toList j = some oj) (hdj : oj.dst = some s) (hsj : lk E s = .tt) (hop : o.op = .slice t x none (some hi) none) (hx : opd E x = .osl (.loc kn) g off l) (hh : opd E hi = .int kk h) (ht : tyU c.P t = some (.slice e)) (hi' : tyI c.P e = some ti)
    (hk : lget T kn = some (some (.vec g sz xs))) (hle : h ≤ l)
    (hn : putE c.nt o.dst (.osl (.loc kn) g off h) E False fun E' => evp c n (.inRegion ops rest :: k) E' T) : Goes c (.inRegion ops (i :: rest) :: k) E T := by
  rw [lget_eq] at hk
  rw [lget_eq, Array.getElem?_toList] at ho hoj
  obtain ⟨E', h', hd⟩ := (putE_some hn).resolve_left id
  refine goes_op (u := .osl (.loc kn) g off h) (T' := T) ho (fun w β H m a hs => ?_) ?_ (fun cl hc => by rw [hop] at hc; cases hc) hd (evp_sound _ _ _ _ _ h')
  · have hv : a.tmps.getD s Go.undef = .bool true := by
      have := opd_rep hs (.tmp s)
      simp only [opd, hsj] at this
      exact rep_tt this
    simp only [Region.wanted, hg, yielded_of hoj hdj, hv]
    rfl
  · rw [hop]
    exact opTo_cutHi hx hh ht hi' hk hle
end
end Bow
/- W123: lists.Both, that leaves own rows. -/
namespace Bow
open Go Go.Proofs
set_option maxRecDepth 100000 in
theorem w_lbareF (l : List OpT) (hl : l.length ≤ 1000000) (hok : OkS l) : Fun Tryz.prog 99 [] [opsV l] (fun x T' => ∃ g0, x = .osl (.loc 0) g0 0 ((bareL l).map opV).length ∧ T' = [some (.vec g0 11 ((bareL l).map opV))]) := by
  refine fun_keep 1 rfl (fun_fn 300 Tryz.func99 rfl rfl rfl fun imps B hi => ?_)
  have : imps = [] := List.length_eq_zero_iff.1 hi
  subst this
  show Goes _ _ _ _
  refine goes_own 3 11 rfl ?_
  refine goes_iter (ι := Nat × Nat) (fun i => i.1 ≤ l.length) (fun i => l.length - i.1) (fun i => [(8, .int .i64 i.1), (7, .int .i64 (l.map opV).length), (6, opsV l), (3, .osl (.loc 0) i.2 0 ((bareL (l.take i.1)).map opV).length)]) (fun i => [some (.vec i.2 11 ((bareL (l.take i.1)).map opV))]) (0, 0) 300 (fun _ => rfl) (fun _ => rfl) ⟨Nat.zero_le _, ⟨⟨rfl, rfl⟩, ⟨rfl, rfl⟩, ⟨rfl, rfl⟩, ⟨rfl, rfl⟩, trivial⟩, ⟨⟨rfl, rfl⟩, trivial⟩⟩ ?_
  rintro ⟨i, g⟩ k1 next
  simp only at k1
  have hbl : (bareL (l.take i)).length = i := by simp [bareL]; omega
  refine ⟨fun hlt => go 300 ?_, fun hge => go 300 ?_⟩
  · have hi : i < l.length := by simpa using hlt
    have hx : (l.map opV)[i]? = some (opV l[i]) := by simp [hi]
    refine ⟨Int.natCast_nonneg i, _, hx, ?_⟩
    show CallThen _ _ _ _ _ _
    refine call_pure (w_Bare l[i] (hok _ (List.getElem_mem hi)).lt) rfl ?_
    rintro x rfl
    refine ⟨⟨rfl, trivial⟩, rfl, rfl, rfl, rfl, Nat.le_trans (Nat.mul_le_mul_right _ (show _ ≤ 1000001 by rw [List.length_map, hbl]; simp only [List.length_cons, List.length_nil]; omega)) (by decide), ?_⟩
    refine ⟨by constructor <;> omega, ?_⟩
    show Goes _ _ _ _
    have e : (bareL (l.take (i + 1))).map opV = (bareL (l.take i)).map opV ++ [opV (bareO l[i])] := by
      rw [List.take_succ_eq_append_getElem hi]
      simp only [bareL, List.map_append, List.map_cons, List.map_nil]
    refine next (i + 1, bump g) _ _ ⟨hi, by simp only; omega, ⟨⟨rfl, rfl⟩, ⟨rfl, rfl⟩, ⟨rfl, rfl⟩, ⟨?_, rfl⟩, trivial⟩, ⟨⟨?_, rfl⟩, trivial⟩⟩
    · exact congrArg (V.osl (.loc 0) (bump g) 0) (by rw [e]; simp)
    · exact congrArg (fun z => some (HObj.vec (bump g) 11 z)) e.symm
  · have hi : i = l.length := by have : l.length ≤ i := by simpa using hge
                                 omega
    subst hi
    rw [List.take_length]
    exact ⟨trivial, rfl, rfl, [some (.vec g 11 ((bareL l).map opV))], rfl, rfl, ⟨⟨rfl, rfl⟩, trivial⟩, g, rfl, rfl⟩
theorem okL_S {l : List OpT} (h : OkL l) : OkS l := fun o ho => (h o ho).1
def BothQ (r : List OpT × List OpT × Int) (x : V) (T' : Heap) : Prop := ∃ g1 g2, x = .tup [.osl (.loc 0) g1 0 (r.1.map opV).length, .osl (.loc 1) g2 0 (r.2.1.map opV).length, .int .i64 r.2.2] ∧ T' = [some (.vec g1 11 (r.1.map opV)), some (.vec g2 11 (r.2.1.map opV))]
set_option maxRecDepth 100000 in
theorem w_BothF (xs ys : List OpT) (prior : Bool) (ox : OkL xs) (oy : OkL ys) (hl : xs.length + ys.length ≤ 1000000) : Fun Tryz.prog 77 [] [opsV xs, opsV ys, .bool prior] (BothQ (listsX prior xs ys)) := by
  obtain ⟨n, h⟩ := bringX_spec prior xs ys
  have cb := w_bring prior n xs ys _ h ox oy
  have inv := bringX_inv prior xs ys
  obtain ⟨o1, o2⟩ := bringX_okL (prior := prior) ox oy
  unfold listsX
  obtain ⟨⟨x, y, e⟩, hr⟩ : ∃ r, bringX prior xs ys = r := ⟨_, rfl⟩
  rw [hr] at cb inv o1 o2 ⊢
  simp only at inv o1 o2 ⊢
  refine fun_fn 60 Tryz.func77 rfl rfl rfl fun imps B hi => ?_
  have : imps = [] := List.length_eq_zero_iff.1 hi
  subst this
  show CallThen _ _ _ _ _ _
  refine call_pure cb rfl ?_
  rintro z rfl
  show CallThen _ _ _ _ _ _
  refine call_sub [] (w_lbareF x (by omega) (okL_S o1)) rfl rfl trivial rfl rfl rfl ?_
  rintro z T1 ⟨g1, rfl, rfl⟩
  refine ⟨rfl, ?_⟩
  show CallThen _ _ _ _ _ _
  refine call_sub [] (w_lbareF y (by omega) (okL_S o2)) rfl rfl trivial rfl rfl rfl ?_
  rintro z T1 ⟨g2, rfl, rfl⟩
  refine ⟨rfl, ?_⟩
  exact ⟨trivial, rfl, rfl, g1, g2, rfl, rfl⟩
end Bow
/- W124: a client begun; what it tells of itself. -/
namespace Bow
open Go Go.Proofs
structure Cl where
 seen : Int
 seq : Int
 base : Tree
 tree : Tree
 sent : Bool
 flight : List OpT
 buffer : List OpT
def clC (c : Cl) (f b : V) : List V:=[.int .i64 c.seen,.int .i64 c.seq,.int .u64 c.base.id,.bool c.base.leaf,.str c.base.label,.sl 2 (c.base.attrs.map attrV),.str c.base.text,.sl 6 c.base.subV,
 .int .u64 c.tree.id,.bool c.tree.leaf,.str c.tree.label,.sl 2 (c.tree.attrs.map attrV),.str c.tree.text,.sl 6 c.tree.subV,.bool c.sent,f,b]
def clT (c : Cl) (gf gb : Nat) : Heap:=[some (.box (clC c (.osl (.loc 1) gf 0 (c.flight.map opV).length) (.osl (.loc 2) gb 0 (c.buffer.map opV).length))),some (.vec gf 11 (c.flight.map opV)),some (.vec gb 11 (c.buffer.map opV))]
def Cl.new (rev seq : Int) (t : Tree) : Cl:=⟨rev,seq,t,t,false,[],[]⟩
set_option maxRecDepth 100000 in
theorem w_cNew (rev seq : Int) (t : Tree) (hm : mayE rev seq t = 0) (hw : t.weight ≤ 1000000) :
  Fun Tryz.prog 25 [] [.int .i64 rev,.int .i64 seq,nodeV t] (fun x T' => x = .tup [.ptr (.loc 1) 0,.int .i64 0] ∧ T' = [some (.box (nodeV t).cells),some (.box (clC (Cl.new rev seq t) .nilsl .nilsl))]):=by
 have c1:=w_cmay rev seq t hw
 rw [hm] at c1
 have c2:=w_ccopied t hw
 refine fun_to (fun_fn 60 Tryz.func25 rfl rfl rfl fun imps B hi => ?_)
 have : imps = []:=List.length_eq_zero_iff.1 hi
 subst this
 show CallThen _ _ _ _ _ _
 refine call_pure c1 rfl ?_
 rintro z rfl
 refine ⟨fun q => absurd rfl (ne_of' q),fun _ => go 60 ?_⟩
 show CallThen _ _ _ _ _ _
 refine call_pure c2 rfl ?_
 rintro z rfl
 exact ⟨trivial,rfl,rfl,_,HTo.wkCell (x:=.ff) (y:=.bool false) 1 14 rfl rfl rfl rfl Wk.ff,rfl,rfl⟩
theorem w_cNew_bad (rev seq : Int) (t : Tree) (hm : mayE rev seq t ≠ 0) (hw : t.weight ≤ 1000000) :
  Fun Tryz.prog 25 [] [.int .i64 rev,.int .i64 seq,nodeV t] (fun x T' => x = .tup [.nilp,.int .i64 (mayE rev seq t)] ∧ T' = []):=by
 have c1:=w_cmay rev seq t hw
 generalize mayE rev seq t = e at c1 hm
 refine fun_keep 0 rfl (fun_fn 60 Tryz.func25 rfl rfl rfl fun imps B hi => ?_)
 have : imps = []:=List.length_eq_zero_iff.1 hi
 subst this
 show CallThen _ _ _ _ _ _
 refine call_pure c1 rfl ?_
 rintro z rfl
 refine ⟨fun _ => go 60 ?_,fun q => absurd (eq_of' q) hm⟩
 exact ⟨trivial,rfl,rfl,[],rfl,rfl,trivial,rfl,rfl⟩
theorem w_cSeen (c : Cl) (gf gb : Nat) : Fun Tryz.prog 33 (clT c gf gb) [.ptr (.loc 0) 0] (fun x T' => x = .int .i64 c.seen ∧ T' = clT c gf gb):=by
 refine fun_fn 60 Tryz.func33 rfl rfl rfl fun imps B hi => ?_
 show Goes _ _ _ _
 refine goes_ptrP 60 rfl rfl rfl rfl rfl rfl ?_
 exact ⟨trivial,rfl,rfl,rfl,rfl⟩
theorem w_cSeq (c : Cl) (gf gb : Nat) : Fun Tryz.prog 46 (clT c gf gb) [.ptr (.loc 0) 0] (fun x T' => x = .int .i64 c.seq ∧ T' = clT c gf gb):=by
 refine fun_fn 60 Tryz.func46 rfl rfl rfl fun imps B hi => ?_
 show Goes _ _ _ _
 refine goes_ptrP 60 rfl rfl rfl rfl rfl rfl ?_
 exact ⟨trivial,rfl,rfl,rfl,rfl⟩
theorem w_cTree (c : Cl) (gf gb : Nat) (hw : c.tree.weight ≤ 1000000) : Fun Tryz.prog 40 (clT c gf gb) [.ptr (.loc 0) 0] (fun x T' => x = nodeV c.tree ∧ T' = clT c gf gb):=by
 have cc:=w_ccopied c.tree hw
 refine fun_keep 3 rfl (fun_fn 60 Tryz.func40 rfl rfl rfl fun imps B hi => ?_)
 show Goes _ _ _ _
 refine goes_ptrP 60 rfl rfl rfl rfl rfl rfl ?_
 show CallThen _ _ _ _ _ _
 refine call_pure cc rfl ?_
 rintro z rfl
 exact ⟨trivial,rfl,rfl,clT c gf gb,rfl,rfl,⟨⟨rfl,rfl⟩,⟨rfl,rfl⟩,⟨rfl,rfl⟩,trivial⟩,rfl,rfl⟩
theorem w_cBase (c : Cl) (gf gb : Nat) (hw : c.base.weight ≤ 1000000) : Fun Tryz.prog 41 (clT c gf gb) [.ptr (.loc 0) 0] (fun x T' => x = nodeV c.base ∧ T' = clT c gf gb):=by
 have cc:=w_ccopied c.base hw
 refine fun_keep 3 rfl (fun_fn 60 Tryz.func41 rfl rfl rfl fun imps B hi => ?_)
 show Goes _ _ _ _
 refine goes_ptrP 60 rfl rfl rfl rfl rfl rfl ?_
 show CallThen _ _ _ _ _ _
 refine call_pure cc rfl ?_
 rintro z rfl
 exact ⟨trivial,rfl,rfl,clT c gf gb,rfl,rfl,⟨⟨rfl,rfl⟩,⟨rfl,rfl⟩,⟨rfl,rfl⟩,trivial⟩,rfl,rfl⟩
theorem apart_opsL {ss : List Nat} (h : ss.contains 1 = false ∧ ss.contains 3 = false) (l : List OpT) : V.apartL ss (l.map opV) = true:=apart_opL h l
theorem w_cBuffer (c : Cl) (gf gb : Nat) (hl : c.buffer.length ≤ 1000000) (hok : OkS c.buffer) : Fun Tryz.prog 37 (clT c gf gb) [.ptr (.loc 0) 0] (fun x T' => ∃ g,x = .osl (.loc 3) g 0 ((bareL c.buffer).map opV).length ∧ T' = clT c gf gb ++ [some (.vec g 11 ((bareL c.buffer).map opV))]):=by
 have cc:=w_cbareF c.buffer hl hok
 refine fun_fn 60 Tryz.func37 rfl rfl rfl fun imps B hi => ?_
 show Goes _ _ _ _
 refine goes_ptrP 60 rfl rfl rfl rfl rfl rfl ?_
 show CallThen _ _ _ _ _ _
 refine call_lendF 11 cc ⟨.row 2 gb _ rfl (apart_opsL ⟨rfl,rfl⟩ _),trivial⟩ rfl ?_ ?_
 ·rintro x T1 ⟨g,rfl,rfl⟩
  exact ⟨rfl,by simp only [rowsB,apart_opsL (ss:=[11]) ⟨rfl,rfl⟩,Bool.and_self]⟩
 rintro x T1 ⟨g,rfl,rfl⟩
 exact ⟨trivial,rfl,rfl,g,rfl,rfl⟩
theorem w_cFlight (c : Cl) (gf gb : Nat) (hl : c.flight.length ≤ 1000000) (hok : OkS c.flight) : Fun Tryz.prog 36 (clT c gf gb) [.ptr (.loc 0) 0] (fun x T' => x = .tup [.osl (.loc 3) 2 0 ((bareL c.flight).map opV).length,.bool c.sent] ∧ T' = clT c gf gb ++ [some (.vec 2 11 ((bareL c.flight).map opV))]):=by
 have cc:=w_cbareF c.flight hl hok
 refine fun_fn 60 Tryz.func36 rfl rfl rfl fun imps B hi => ?_
 show Goes _ _ _ _
 refine goes_ptrP 60 rfl rfl rfl rfl rfl rfl ?_
 show Goes _ _ _ _
 refine goes_drawX [(4,true)] 60 ?_
 refine ⟨[3,1],.osl (.loc 3) 2 0 ((bareL c.flight).map opV).length,[(3,some (.vec 2 11 ((bareL c.flight).map opV)))],fun gs hg => fact_lendMake 11 [1] hg rfl rfl rfl rfl cc (fun T' hT => ⟨.row 1 gf _ ((hT 1 (by simp)).trans rfl) (apart_opsL ⟨rfl,rfl⟩ _),trivial⟩) rfl (apart_opsL ⟨rfl,rfl⟩ _),⟨rfl,show 3 < 4 by decide⟩,?_⟩
 refine ⟨by kernel_rfl,?_⟩
 exact ⟨trivial,rfl,rfl,rfl,rfl⟩
end Bow
/- W125: a client's edits; its list accepted; what it drops. -/
namespace Bow
open Go Go.Proofs
def firstBad : List OpT → Int
 | [] => 0
 | o :: l => bif decide (fitsE [o] = 0) then firstBad l else fitsE [o]
def Cl.edit (c : Cl) (l : List OpT) : Cl × Int :=
 bif !decide (firstBad l = 0) then (c,firstBad l) else bif decide (512 < (c.buffer.length : Int) + l.length) then (c,3)
 else bif decide ((AllR c.tree l).2.2 = 0) then ({ c with tree:=(AllR c.tree l).1,buffer:=c.buffer ++ bareL l },0) else (c,(AllR c.tree l).2.2)
set_option maxHeartbeats 1000000 in
set_option maxRecDepth 100000 in
theorem w_cEdit (c : Cl) (gf gb : Nat) (l : List OpT) (hb : c.buffer.length ≤ 100000) (hl : l.length ≤ 100000) (hok : OkL l) (hw : c.tree.weight + costs l ≤ 400000) :
  Fun Tryz.prog 29 (clT c gf gb) [.ptr (.loc 0) 0,opsV l] (fun x T' => ∃ gb',x = .int .i64 (c.edit l).2 ∧ T' = clT (c.edit l).1 gf gb'):=by
 have ca:=w_ApplyAll c.tree l hw (by omega) fun z hz => (hok z hz).1
 have cb:=w_cbare l (by omega) (okL_S hok)
 obtain ⟨R,hR⟩ : ∃ R,c.edit l = R:=⟨_,rfl⟩
 rw [hR]
 unfold Cl.edit at hR
 obtain ⟨⟨t2,n2,er⟩,hA⟩ : ∃ r,AllR c.tree l = r:=⟨_,rfl⟩
 rw [hA] at ca hR
 simp only at hR
 refine fun_keep 3 rfl (fun_fn 60 Tryz.func29 rfl rfl rfl fun imps B hi => ?_)
 show Goes _ _ _ _
 refine goes_ptrP 60 rfl rfl rfl rfl rfl rfl ?_
 show Goes _ _ _ _
 refine goes_iter (ι:=Nat) (fun i => i ≤ l.length ∧ firstBad (l.drop i) = firstBad l) (fun i => l.length - i)
  (fun i => [(14,.int .i64 i),(13,.int .i64 (l.map opV).length),(1,opsV l),(0,.ptr (.loc 0) 0)]) (fun _ => clT c gf gb) 0 60 (fun _ => rfl) (fun _ => by rw [hi];rfl)
  ⟨⟨Nat.zero_le _,rfl⟩,⟨⟨rfl,rfl⟩,⟨rfl,rfl⟩,⟨rfl,rfl⟩,⟨rfl,rfl⟩,trivial⟩,⟨⟨rfl,rfl⟩,⟨rfl,rfl⟩,⟨rfl,rfl⟩,trivial⟩⟩ ?_
 rintro i ⟨k1,k2⟩ next
 refine ⟨fun hlt => go 60 ?_,fun hge => go 60 ?_⟩
 ·have hi : i < l.length:=by simpa using hlt
  have hd : l.drop i = l[i] :: l.drop (i + 1):=List.drop_eq_getElem_cons hi
  have e : V.sl 11 (((l.map opV).drop ((i : Int)).toNat).take (((i : Int) + 1).toNat - ((i : Int)).toNat)) = opsV [l[i]]:=by
   show _ = V.sl 11 [opV l[i]]
   rw [← List.map_drop,show ((i : Int)).toNat = i by omega,hd,show ((i : Int) + 1).toNat - i = 1 by omega]
   rfl
  have cf:=w_Fits [l[i]] (by simp) (by simpa using (hok _ (List.getElem_mem hi)).1)
  rw [hd,firstBad] at k2
  generalize l[i] = o at e cf k2
  generalize fitsE [o] = ef at cf k2
  refine ⟨by constructor <;> omega,?_⟩
  refine ⟨Int.natCast_nonneg i,by omega,by simp;omega,?_⟩
  show CallThen _ _ _ _ _ _
  refine call_pure (pure_args cf ⟨Wk.of_eq e,trivial⟩ rfl rfl) rfl ?_
  rintro z rfl
  refine ⟨fun q => go 60 ?_,fun q => go 60 ?_⟩
  ·have q:=ne_of' q
   rw [decide_eq_false q,cond_false] at k2
   rw [← k2,decide_eq_false q] at hR
   exact ⟨trivial,rfl,rfl,clT c gf gb,rfl,rfl,⟨⟨rfl,rfl⟩,⟨rfl,rfl⟩,⟨rfl,rfl⟩,trivial⟩,gb,by rw [← hR];rfl,by rw [← hR];rfl⟩
  have q:=eq_of' q
  rw [decide_eq_true q,cond_true] at k2
  refine ⟨by constructor <;> omega,?_⟩
  show Goes _ _ _ _
  exact next (i + 1) _ _ ⟨⟨hi,k2⟩,by omega,⟨⟨rfl,rfl⟩,⟨rfl,rfl⟩,⟨rfl,rfl⟩,⟨rfl,rfl⟩,trivial⟩,⟨⟨rfl,rfl⟩,⟨rfl,rfl⟩,⟨rfl,rfl⟩,trivial⟩⟩
 have hi : l.length ≤ i:=by simpa using hge
 rw [List.drop_of_length_le hi] at k2
 have h0 : firstBad l = 0:=k2.symm
 rw [h0] at hR
 refine ⟨rfl,by constructor <;> (simp;omega),?_⟩
 have el : ((c.buffer.map opV).length : Int) + (l.map opV).length = c.buffer.length + l.length:=by simp
 refine ⟨fun q => go 60 ?_,fun q => go 60 ?_⟩
 ·have q : decide (512 < (c.buffer.length : Int) + l.length) = true:=by rw [← el];exact q
  rw [q] at hR
  exact ⟨trivial,rfl,rfl,clT c gf gb,rfl,rfl,⟨⟨rfl,rfl⟩,⟨rfl,rfl⟩,⟨rfl,rfl⟩,trivial⟩,gb,by rw [← hR];rfl,by rw [← hR];rfl⟩
 have q : decide (512 < (c.buffer.length : Int) + l.length) = false:=by rw [← el];exact q
 rw [q] at hR
 show CallThen _ _ _ _ _ _
 refine call_pure ca rfl ?_
 rintro z rfl
 refine ⟨fun q2 => go 60 ?_,fun q2 => go 60 ?_⟩
 rotate_left
 ·have q2 : decide (er = 0) = false:=q2
  rw [q2] at hR
  exact ⟨trivial,rfl,rfl,clT c gf gb,rfl,rfl,⟨⟨rfl,rfl⟩,⟨rfl,rfl⟩,⟨rfl,rfl⟩,trivial⟩,gb,by rw [← hR];rfl,by rw [← hR];rfl⟩
 have q2 : decide (er = 0) = true:=q2
 have e0:=of_decide_eq_true q2
 rw [q2] at hR
 show Goes _ _ _ _
 refine goes_draw 60 ?_
 refine ⟨_,cb,rfl,?_⟩
 refine ⟨rfl,rfl,Nat.le_trans (Nat.mul_le_mul_right _ (show _ ≤ 1000001 by simp only [List.length_map,bareL_len];omega)) (by decide),?_⟩
 refine ⟨by kernel_rfl,?_⟩
 refine ⟨trivial,rfl,rfl,clT { c with tree:=t2,buffer:=c.buffer ++ bareL l } gf (bump gb),rfl,rfl,⟨⟨?_,rfl⟩,⟨rfl,rfl⟩,⟨?_,rfl⟩,trivial⟩,bump gb,by rw [← hR,e0];rfl,by rw [← hR];rfl⟩
 ·exact congrArg (fun n => some (HObj.box (clC { c with tree:=t2 } (.osl (.loc 1) gf 0 (c.flight.map opV).length) (.osl (.loc 2) (bump gb) 0 n)))) (by simp)
 ·exact congrArg (fun z => some (HObj.vec (bump gb) 11 z)) (by simp)
end Bow
/- W126: a client's list accepted; what it drops. -/
namespace Bow
open Go Go.Proofs
def Cl.accepted (c : Cl) (rev : Int) : Cl × Int :=
 bif !c.sent || !decide (rev = c.seen + 1) then (c,4)
 else bif decide ((AllR c.base c.flight).2.2 = 0) then ({ c with base:=(AllR c.base c.flight).1,seen:=rev,sent:=false,flight:=[] },0) else (c,(AllR c.base c.flight).2.2)
def Cl.pending (c : Cl) (taken : Bool) : List OpT:=bif taken then c.buffer else c.flight ++ c.buffer
def Cl.dropped (c : Cl) : Cl:={ c with sent:=false,flight:=[],buffer:=[],tree:=c.base }
def scAll (n : Nat) : Heap → Bool
 | [] => true
 | none :: T => scAll n T
 | some o :: T => o.scB n && scAll n T
theorem heapIs_pre {n : Nat} : ∀ (T R : Heap),scAll n T = true → heapIs n (T ++ R) T
 | [],R,_ => by cases R <;> trivial
 | none :: T,R,h => ⟨rfl,heapIs_pre T R h⟩
 | some o :: T,R,h => by
  simp only [scAll,Bool.and_eq_true] at h
  exact ⟨⟨rfl,h.1⟩,heapIs_pre T R h.2⟩
def clNC (c : Cl) (s f b : V) : List V:=[.int .i64 c.seen,.int .i64 c.seq,.int .u64 c.base.id,.bool c.base.leaf,.str c.base.label,.sl 2 (c.base.attrs.map attrV),.str c.base.text,.sl 6 c.base.subV,.int .u64 c.tree.id,.bool c.tree.leaf,.str c.tree.label,.sl 2 (c.tree.attrs.map attrV),.str c.tree.text,.sl 6 c.tree.subV,s,f,b]
def clN (c : Cl) (s f b : V) (l : List HObj) : Heap:=some (.box (clNC c s f b)) :: l.map some
theorem clT_N (c : Cl) (gf gb : Nat) : clT c gf gb = clN c (.bool c.sent) (.osl (.loc 1) gf 0 (c.flight.map opV).length) (.osl (.loc 2) gb 0 (c.buffer.map opV).length) [.vec gf 11 (c.flight.map opV),.vec gb 11 (c.buffer.map opV)]:=rfl
theorem to_nil (c : Cl) (gf gb : Nat) (fs bs : List V) (r r' : HObj) (hs : c.sent = false) (hf : c.flight = []) (hb : c.buffer = []) :
  HTo (clN c .ff .nilsl .nilsl [.vec gf 11 fs,.vec gb 11 bs,r,r']) ((clT c (bump gf) (bump gb) ++ [some r,some r']) ++ [none,none]):=by
 have e : clT c (bump gf) (bump gb) = clN c (.bool false) (.osl (.loc 1) (bump gf) 0 0) (.osl (.loc 2) (bump gb) 0 0) [.vec (bump gf) 11 [],.vec (bump gb) 11 []]:=by
  rw [clT_N,hs,hf,hb]
  rfl
 rw [e]
 refine HTo.trans (HTo.ownCell (cs:=clNC c .ff .nilsl .nilsl) 0 15 11 rfl rfl) ?_
 refine HTo.trans (T':=clN c .ff (.osl (.loc 5) 0 0 0) (.osl (.loc 6) 0 0 0) [.vec gf 11 fs,.vec gb 11 bs,r,r',.vec 0 11 [],.vec 0 11 []]) (HTo.ownCell (T:=clN c .ff (.osl (.loc 5) 0 0 0) .nilsl [.vec gf 11 fs,.vec gb 11 bs,r,r',.vec 0 11 []]) (cs:=clNC c .ff (.osl (.loc 5) 0 0 0) .nilsl) 0 16 11 rfl rfl) ?_
 refine HTo.trans (HTo.into (cs:=clNC c .ff (.osl (.loc 5) 0 0 0) (.osl (.loc 6) 0 0 0)) (xs:=[]) (g:=0) (n:=0) 0 15 5 1 rfl rfl rfl rfl rfl rfl (Nat.le_refl _)) ?_
 refine HTo.trans (HTo.into (cs:=clNC c .ff (.osl (.loc 1) (bump gf) 0 0) (.osl (.loc 6) 0 0 0)) (xs:=[]) (g:=0) (n:=0) 0 16 6 2 rfl rfl rfl rfl rfl rfl (Nat.le_refl _)) ?_
 exact HTo.wkCell (cs:=clNC c .ff (.osl (.loc 1) (bump gf) 0 0) (.osl (.loc 2) (bump gb) 0 0)) (x:=.ff) (y:=.bool false) 0 14 rfl rfl rfl rfl Wk.ff
def dropQ (c : Cl) (gf gb : Nat) (l : List OpT) (x : V) (T' : Heap) : Prop:=∃ g,x = .osl (.loc 4) g 0 ((bareL l).map opV).length ∧ T' = clT c (bump (bump gf)) (bump gb) ++ [some (.vec 0 0 []),some (.vec g 11 ((bareL l).map opV))]
set_option maxHeartbeats 1000000 in
set_option maxRecDepth 100000 in
theorem w_cDrop (c : Cl) (gf gb : Nat) (taken : Bool) (hl : c.flight.length + c.buffer.length ≤ 100000) (of : OkS c.flight) (ob : OkS c.buffer) :
  Fun Tryz.prog 78 (clT c gf gb) [.ptr (.loc 0) 0,.bool taken] (dropQ c.dropped gf gb (c.pending taken)):=by
 have c1:=w_cbareF c.buffer (by omega) ob
 have c2:=w_cbareF (c.flight ++ c.buffer) (by simp;omega) (fun o ho => by rcases List.mem_append.1 ho with h | h;exact of o h;exact ob o h)
 have happ : c.flight.map opV ++ c.buffer.map opV = (c.flight ++ c.buffer).map opV:=by simp
 have hlen : (c.flight.map opV).length + (c.buffer.map opV).length = ((c.flight ++ c.buffer).map opV).length:=by simp
 refine fun_keep 5 rfl (fun_to (fun_fn 60 Tryz.func78 rfl rfl rfl fun imps B hi => ?_))
 show Goes _ _ _ _
 refine goes_draw 60 ?_
 refine ⟨rfl,rfl,rfl,rfl,Nat.le_trans (Nat.mul_le_mul_right _ (show _ ≤ 1000001 by simp only [List.length_map];omega)) (by decide),?_⟩
 refine ⟨by kernel_rfl,?_⟩
 cases taken with
 | true =>
  refine ⟨fun _ => go 60 ?_,fun q => absurd q (by decide)⟩
  show CallThen _ _ _ _ _ _
  refine call_lendF 11 c1 ⟨.row 2 gb _ rfl (apart_opsL ⟨rfl,rfl⟩ _),trivial⟩ rfl ?_ ?_
  ·rintro x T1 ⟨g,rfl,rfl⟩
   exact ⟨rfl,by simp only [rowsB,apart_opsL (ss:=[11]) ⟨rfl,rfl⟩,Bool.and_self]⟩
  rintro x T1 ⟨g,rfl,rfl⟩
  refine ⟨trivial,rfl,rfl,_,to_nil c.dropped (bump gf) gb (c.flight.map opV ++ c.buffer.map opV) (c.buffer.map opV) (.vec 0 0 []) (.vec g 11 _) rfl rfl rfl,?_⟩
  exact ⟨clT c.dropped (bump (bump gf)) (bump gb) ++ [some (.vec 0 0 []),some (.vec g 11 ((bareL c.buffer).map opV))],rfl,rfl,heapIs_pre _ _ rfl,g,rfl,rfl⟩
 | false =>
  refine ⟨fun q => absurd q (by decide),fun _ => go 60 ?_⟩
  show CallThen _ _ _ _ _ _
  refine call_lendF 11 c2 ⟨?_,trivial⟩ rfl ?_ ?_
  ·exact .cut (xs:=c.flight.map opV ++ c.buffer.map opV) rfl (by simp) (by rw [happ];exact apart_opsL ⟨rfl,rfl⟩ _) (by rw [List.drop_zero,happ,List.take_of_length_le (by simp)])
  ·rintro x T1 ⟨g,rfl,rfl⟩
   exact ⟨rfl,by simp only [rowsB,apart_opsL (ss:=[11]) ⟨rfl,rfl⟩,Bool.and_self]⟩
  rintro x T1 ⟨g,rfl,rfl⟩
  refine ⟨trivial,rfl,rfl,_,to_nil c.dropped (bump gf) gb (c.flight.map opV ++ c.buffer.map opV) (c.buffer.map opV) (.vec 0 0 []) (.vec g 11 _) rfl rfl rfl,?_⟩
  exact ⟨clT c.dropped (bump (bump gf)) (bump gb) ++ [some (.vec 0 0 []),some (.vec g 11 ((bareL (c.flight ++ c.buffer)).map opV))],rfl,rfl,heapIs_pre _ _ rfl,g,rfl,rfl⟩
end Bow
/- AE48: ranges over functions that hold the ranging side's objects; arguments that say less. -/
namespace Bow
open Go
def WkA : List V → List V → Prop
  | [], [] => True
  | x :: xs, y :: ys => (x = y ∨ (x.pureB = true ∧ y.pureB = true ∧ Wk x y)) ∧ WkA xs ys
  | _, _ => False
theorem WkA.get : ∀ {xs ys : List V}, WkA xs ys → xs.length = ys.length ∧ ∀ (j : Nat) (y : V), ys[j]? = some y → ∃ x, xs[j]? = some x ∧ (x = y ∨ (x.pureB = true ∧ y.pureB = true ∧ Wk x y))
  | [], [], _ => ⟨rfl, fun j y h => by simp at h⟩
  | x :: xs, y :: ys, h => by
    obtain ⟨h1, h2⟩ := WkA.get h.2
    refine ⟨by simp [h1], fun j z hz => ?_⟩
    cases j with
    | zero => simp at hz; subst hz; exact ⟨x, rfl, h.1⟩
    | succ j => simpa using h2 j z (by simpa using hz)
  | [], _ :: _, h => h.elim
  | _ :: _, [], h => h.elim
theorem call_wk {c : Cx} {g : FuncId} {args args' : List V} {E : Env} {T : Heap} {K : V → St → Prop} (hw : WkA args args') (h : CallThen c g args' E T K) : CallThen c g args E T K := by
  unfold CallThen at *
  obtain ⟨hl, hg⟩ := hw.get
  refine ⟨h.1, fun w β H m a vals cs hs hlen hr => h.2 w β H m a vals cs hs (by omega) fun j y v hj hv => ?_⟩
  obtain ⟨x, hx, hxy⟩ := hg j y hj
  have h1 := hr j x v hx hv
  rcases hxy with rfl | ⟨p1, p2, hw⟩
  · exact h1
  · rw [pure_conv _ _ p1] at h1
    rw [pure_conv _ _ p2]
    exact hw _ _ _ _ h1
end Bow
/- W127: a client's list accepted, refused; begun anew. -/
namespace Bow
open Go Go.Proofs
theorem w_cRefused_no (c : Cl) (gf gb : Nat) (hs : c.sent = false) : Fun Tryz.prog 35 (clT c gf gb) [.ptr (.loc 0) 0] (fun x T' => x = .tup [.nilsl,.int .i64 4] ∧ T' = clT c gf gb):=by
 refine fun_fn 60 Tryz.func35 rfl rfl rfl fun imps B hi => ?_
 show Goes _ _ _ _
 refine goes_ptrP 60 rfl rfl rfl rfl rfl rfl ?_
 refine ⟨fun _ => go 60 ?_,fun q => absurd q (by rw [hs];decide)⟩
 exact ⟨trivial,rfl,rfl,rfl,rfl⟩
theorem w_cRefused (c : Cl) (gf gb : Nat) (hs : c.sent = true) (hl : c.flight.length + c.buffer.length ≤ 100000) (of : OkS c.flight) (ob : OkS c.buffer) :
  Fun Tryz.prog 35 (clT c gf gb) [.ptr (.loc 0) 0] (fun x T' => ∃ y,dropQ c.dropped gf gb (c.flight ++ c.buffer) y T' ∧ x = .tup [y,.int .i64 0]):=by
 refine fun_fn 60 Tryz.func35 rfl rfl rfl fun imps B hi => ?_
 show Goes _ _ _ _
 refine goes_ptrP 60 rfl rfl rfl rfl rfl rfl ?_
 refine ⟨fun q => absurd q (by rw [hs];decide),fun _ => go 60 ?_⟩
 show CallThen _ _ _ _ _ _
 have cd:=w_cDrop c gf gb false hl of ob
 refine call_wk (args':=[.ptr (.loc 0) 0,.bool false]) ⟨.inl rfl,.inr ⟨rfl,rfl,Wk.ff⟩,trivial⟩ ?_
 refine call_sub [0,1,2] cd rfl rfl ⟨⟨rfl,rfl⟩,⟨rfl,rfl⟩,⟨rfl,rfl⟩,trivial⟩ rfl rfl rfl ?_
 rintro x T1 ⟨g,rfl,rfl⟩
 refine ⟨rfl,?_⟩
 exact ⟨trivial,rfl,rfl,_,⟨g,rfl,rfl⟩,rfl⟩
def Cl.resync (c : Cl) (rev seq : Int) (t : Tree) : Cl:=({ c with seen:=rev,seq:=max c.seq seq,base:=t } : Cl)
theorem w_cResync_bad (c : Cl) (gf gb : Nat) (rev seq : Int) (taken : Bool) (t : Tree) (hm : mayE rev seq t ≠ 0) (hw : t.weight ≤ 1000000) :
  Fun Tryz.prog 38 (clT c gf gb) [.ptr (.loc 0) 0,.int .i64 rev,.int .i64 seq,.bool taken,nodeV t] (fun x T' => x = .tup [.nilsl,.int .i64 (mayE rev seq t)] ∧ T' = clT c gf gb):=by
 have c1:=w_cmay rev seq t hw
 generalize mayE rev seq t = e at c1 hm
 refine fun_keep 3 rfl (fun_fn 60 Tryz.func38 rfl rfl rfl fun imps B hi => ?_)
 show Goes _ _ _ _
 refine goes_ptrP 60 rfl rfl rfl rfl rfl rfl ?_
 show CallThen _ _ _ _ _ _
 refine call_pure c1 rfl ?_
 rintro z rfl
 refine ⟨fun _ => go 60 ?_,fun q => absurd (eq_of' q) hm⟩
 exact ⟨trivial,rfl,rfl,clT c gf gb,rfl,rfl,⟨⟨rfl,rfl⟩,⟨rfl,rfl⟩,⟨rfl,rfl⟩,trivial⟩,rfl,rfl⟩
def resyncQ (c : Cl) (gf gb : Nat) (t : Tree) (l : List OpT) (x : V) (T' : Heap) : Prop:=∃ g,x = .tup [.osl (.loc 5) g 0 ((bareL l).map opV).length,.int .i64 0] ∧ T' = clT c (bump (bump gf)) (bump gb) ++ [some (.box (nodeV t).cells),some (.vec 0 0 []),some (.vec g 11 ((bareL l).map opV))]
set_option maxRecDepth 100000 in
theorem w_cResync (c : Cl) (gf gb : Nat) (rev seq : Int) (taken : Bool) (t : Tree) (hm : mayE rev seq t = 0) (hw : t.weight ≤ 1000000) (hl : c.flight.length + c.buffer.length ≤ 100000) (of : OkS c.flight) (ob : OkS c.buffer) :
  Fun Tryz.prog 38 (clT c gf gb) [.ptr (.loc 0) 0,.int .i64 rev,.int .i64 seq,.bool taken,nodeV t] (resyncQ (c.resync rev seq t).dropped gf gb t (c.pending taken)):=by
 have c1:=w_cmay rev seq t hw
 rw [hm] at c1
 have c2:=w_ccopied t hw
 have e2 : (if seq > c.seq then seq else c.seq) = max c.seq seq:=by omega
 have cd:=w_cDrop (c.resync rev seq t) gf gb taken hl of ob
 refine fun_fn 60 Tryz.func38 rfl rfl rfl fun imps B hi => ?_
 show Goes _ _ _ _
 refine goes_ptrP 60 rfl rfl rfl rfl rfl rfl ?_
 show CallThen _ _ _ _ _ _
 refine call_pure c1 rfl ?_
 rintro z rfl
 refine ⟨fun q => absurd rfl (ne_of' q),fun _ => go 60 ?_⟩
 show Goes _ _ _ _
 refine goes_draw 60 ?_
 refine ⟨_,c2,rfl,?_⟩
 refine ⟨by kernel_rfl,?_⟩
 show CallThen _ _ _ _ _ _
 refine call_sub [0,1,2] cd rfl rfl ⟨⟨?_,rfl⟩,⟨rfl,rfl⟩,⟨rfl,rfl⟩,trivial⟩ rfl rfl rfl ?_
 ·exact congrArg (fun z => some (some (HObj.box (clC { (c.resync rev seq t) with seq:=z } (.osl (.loc 1) gf 0 (c.flight.map opV).length) (.osl (.loc 2) gb 0 (c.buffer.map opV).length))))) e2
 rintro x T1 ⟨g,rfl,rfl⟩
 refine ⟨rfl,?_⟩
 exact ⟨trivial,rfl,rfl,g,rfl,rfl⟩
theorem w_cResyncP (c : Cl) (gf gb : Nat) (rev seq : Int) (taken : Bool) (t : Tree) (hm : mayE rev seq t = 0) (hw : t.weight ≤ 1000000) (hl : c.flight.length + c.buffer.length ≤ 100000) (of : OkS c.flight) (ob : OkS c.buffer) :
  Fun Tryz.prog 38 (clT c gf gb) [.ptr (.loc 0) 0,.int .i64 rev,.int .i64 seq,.bool taken,nodeV t] (fun x T' => x = .tup [opsV (bareL (c.pending taken)),.int .i64 0] ∧ T' = clT (c.resync rev seq t).dropped (bump (bump gf)) (bump gb)):=by
 refine fun_keep 3 rfl (fun_frzR ((w_cResync c gf gb rev seq taken t hm hw hl of ob).mono fun x T' hq => ?_))
 obtain ⟨g,rfl,rfl⟩:=hq
 exact ⟨rfl,rfl,rfl,clT (c.resync rev seq t).dropped (bump (bump gf)) (bump gb),rfl,rfl,heapIs_pre (clT (c.resync rev seq t).dropped (bump (bump gf)) (bump gb)) [_,_,_] rfl,rfl,rfl⟩
theorem w_cRefusedP (c : Cl) (gf gb : Nat) (hs : c.sent = true) (hl : c.flight.length + c.buffer.length ≤ 100000) (of : OkS c.flight) (ob : OkS c.buffer) :
  Fun Tryz.prog 35 (clT c gf gb) [.ptr (.loc 0) 0] (fun x T' => x = .tup [opsV (bareL (c.flight ++ c.buffer)),.int .i64 0] ∧ T' = clT c.dropped (bump (bump gf)) (bump gb)):=by
 refine fun_keep 3 rfl (fun_frzR ((w_cRefused c gf gb hs hl of ob).mono fun x T' hq => ?_))
 obtain ⟨y,⟨g,rfl,rfl⟩,rfl⟩:=hq
 exact ⟨rfl,rfl,rfl,clT c.dropped (bump (bump gf)) (bump gb),rfl,rfl,heapIs_pre (clT c.dropped (bump (bump gf)) (bump gb)) [_,_] rfl,rfl,rfl⟩
theorem apart_all {r : Tree × Nat × Int} : (AllV r).apart [11] = true:=by
 unfold AllV
 simp only [V.apart,V.apartL,apart_node (ss:=[11]) ⟨rfl,rfl⟩,Bool.and_self]
theorem to_nilF (c : Cl) (gf gb : Nat) (fs : List V) (r : HObj) (hs : c.sent = false) (hf : c.flight = []) :
  HTo (clN c .ff .nilsl (.osl (.loc 2) gb 0 (c.buffer.map opV).length) [.vec gf 11 fs,.vec gb 11 (c.buffer.map opV),r]) (clT c (bump gf) gb ++ [some r,none]):=by
 rw [clT_N,hs,hf]
 refine HTo.trans (HTo.ownCell (cs:=clNC c .ff .nilsl (.osl (.loc 2) gb 0 (c.buffer.map opV).length)) 0 15 11 rfl rfl) ?_
 refine HTo.trans (HTo.into (cs:=clNC c .ff (.osl (.loc 4) 0 0 0) (.osl (.loc 2) gb 0 (c.buffer.map opV).length)) (xs:=[]) (g:=0) (n:=0) 0 15 4 1 rfl rfl rfl rfl rfl rfl (Nat.le_refl _)) ?_
 exact HTo.wkCell (cs:=clNC c .ff (.osl (.loc 1) (bump gf) 0 0) (.osl (.loc 2) gb 0 (c.buffer.map opV).length)) (x:=.ff) (y:=.bool false) 0 14 rfl rfl rfl rfl Wk.ff
def hgen (b : Bool) (g : Nat) : Nat:=bif b then bump g else g
set_option maxRecDepth 100000 in
theorem w_cAccepted (c : Cl) (gf gb : Nat) (rev : Int) (hs : c.seen ≤ 4611686018427387904 ∧ 0 ≤ c.seen) (hl : c.flight.length ≤ 100000) (ok : OkL c.flight) (hw : c.base.weight + costs c.flight ≤ 400000) :
  Fun Tryz.prog 34 (clT c gf gb) [.ptr (.loc 0) 0,.int .i64 rev] (fun x T' => x = .int .i64 (c.accepted rev).2 ∧ T' = clT (c.accepted rev).1 (hgen (decide ((c.accepted rev).2 = 0)) gf) gb):=by
 have ca:=w_ApplyAll c.base c.flight hw (by omega) fun z hz => (ok z hz).1
 obtain ⟨R,hR⟩ : ∃ R,c.accepted rev = R:=⟨_,rfl⟩
 rw [hR]
 unfold Cl.accepted at hR
 obtain ⟨⟨t2,n2,er⟩,hA⟩ : ∃ r,AllR c.base c.flight = r:=⟨_,rfl⟩
 rw [hA] at ca hR
 simp only at hR
 refine fun_keep 3 rfl (fun_to (fun_fn 60 Tryz.func34 rfl rfl rfl fun imps B hi => ?_))
 show Goes _ _ _ _
 refine goes_ptrP 60 rfl rfl rfl rfl rfl rfl ?_
 refine ⟨fun q => go 60 ?_,fun q => go 60 ?_⟩
 ·rw [show (!c.sent) = true from q] at hR
  exact ⟨trivial,rfl,rfl,_,HTo.refl _,clT c gf gb,rfl,rfl,⟨⟨rfl,rfl⟩,⟨rfl,rfl⟩,⟨rfl,rfl⟩,trivial⟩,by rw [← hR];rfl,by rw [← hR];rfl⟩
 rw [show (!c.sent) = false from q] at hR
 refine ⟨by constructor <;> omega,?_⟩
 refine ⟨fun q2 => go 60 ?_,fun q2 => go 60 ?_⟩
 ·have q2:=ne_of' q2
  rw [decide_eq_false q2] at hR
  exact ⟨trivial,rfl,rfl,_,HTo.refl _,clT c gf gb,rfl,rfl,⟨⟨rfl,rfl⟩,⟨rfl,rfl⟩,⟨rfl,rfl⟩,trivial⟩,by rw [← hR];rfl,by rw [← hR];rfl⟩
 have q2:=eq_of' q2
 rw [decide_eq_true q2] at hR
 show Goes _ _ _ _
 refine goes_drawX [(8,false)] 60 ?_
 refine ⟨[1],AllV (t2,n2,er),[],fun gs hg => fact_lend 11 [1] hg rfl rfl rfl ca (fun T' hT => ⟨.wk rfl (.refl _) (apart_node ⟨rfl,rfl⟩ _),.row 1 gf _ ((hT 1 (by simp)).trans rfl) (apart_opsL ⟨rfl,rfl⟩ _),trivial⟩) rfl apart_all,trivial,?_⟩
 refine ⟨by kernel_rfl,?_⟩
 refine ⟨by kernel_rfl,?_⟩
 refine ⟨fun q3 => go 60 ?_,fun q3 => go 60 ?_⟩
 ·have q3 : decide (er = 0) = true:=q3
  rw [q3] at hR
  have e0:=of_decide_eq_true q3
  exact ⟨trivial,rfl,rfl,_,to_nilF { c with base:=t2,seen:=rev,sent:=false,flight:=[] } gf gb (c.flight.map opV) (.box (nodeV t2).cells) rfl rfl,clT { c with base:=t2,seen:=rev,sent:=false,flight:=[] } (bump gf) gb,rfl,rfl,heapIs_pre _ _ rfl,by rw [← hR,e0];rfl,by rw [← hR];rfl⟩
 ·have q3 : decide (er = 0) = false:=q3
  rw [q3] at hR
  exact ⟨trivial,rfl,rfl,_,HTo.refl _,clT c gf gb,rfl,rfl,⟨⟨rfl,rfl⟩,⟨rfl,rfl⟩,⟨rfl,rfl⟩,trivial⟩,by rw [← hR];rfl,by rw [← hR];show clT c gf gb = clT c (hgen (decide (er = 0)) gf) gb;rw [q3];rfl⟩
end Bow
/- W128: a client hears a list. -/
namespace Bow
open Go Go.Proofs
noncomputable def Cl.hear (c : Cl) (rev : Int) (l : List OpT) : Cl × Int :=
 bif !decide (rev = c.seen + 1) then (c,4)
 else bif !decide ((AllR c.base l).2.2 = 0) then (c,(AllR c.base l).2.2)
 else bif !decide ((listsX true l c.flight).2.2 = 0) then (c,(listsX true l c.flight).2.2)
 else bif !decide ((listsX true (listsX true l c.flight).1 c.buffer).2.2 = 0) then (c,(listsX true (listsX true l c.flight).1 c.buffer).2.2)
 else ({ c with base:=(AllR c.base l).1,tree:=(AllR c.tree (listsX true (listsX true l c.flight).1 c.buffer).1).1,seen:=rev,flight:=(listsX true l c.flight).2.1,buffer:=(listsX true (listsX true l c.flight).1 c.buffer).2.1 },0)
theorem to_hear (c : Cl) (gf gb g6 g8 : Nat) (fs bs : List V) (b3 b4 r5 r7 : HObj) :
  HTo (clN c (.bool c.sent) (.osl (.loc 6) g6 0 (c.flight.map opV).length) (.osl (.loc 8) g8 0 (c.buffer.map opV).length) [.vec gf 11 fs,.vec gb 11 bs,b3,b4,r5,.vec g6 11 (c.flight.map opV),r7,.vec g8 11 (c.buffer.map opV)])
   (clT c (bump gf) (bump gb) ++ [some b3,some b4,some r5,none,some r7,none]):=by
 rw [clT_N]
 have e1 : (c.flight.map opV).take (c.flight.map opV).length = c.flight.map opV:=List.take_length
 have e2 : (c.buffer.map opV).take (c.buffer.map opV).length = c.buffer.map opV:=List.take_length
 have h1:=HTo.into (T:=clN c (.bool c.sent) (.osl (.loc 6) g6 0 (c.flight.map opV).length) (.osl (.loc 8) g8 0 (c.buffer.map opV).length) [.vec gf 11 fs,.vec gb 11 bs,b3,b4,r5,.vec g6 11 (c.flight.map opV),r7,.vec g8 11 (c.buffer.map opV)])
  (cs:=clNC c (.bool c.sent) (.osl (.loc 6) g6 0 (c.flight.map opV).length) (.osl (.loc 8) g8 0 (c.buffer.map opV).length)) (xs:=c.flight.map opV) (g:=g6) (n:=(c.flight.map opV).length) 0 15 6 1 rfl rfl rfl rfl rfl rfl (Nat.le_refl _)
 rw [e1] at h1
 refine HTo.trans h1 ?_
 have h2:=HTo.into (T:=some (.box (clNC c (.bool c.sent) (.osl (.loc 1) (bump gf) 0 (c.flight.map opV).length) (.osl (.loc 8) g8 0 (c.buffer.map opV).length))) :: [some (.vec (bump gf) 11 (c.flight.map opV)),some (.vec gb 11 bs),some b3,some b4,some r5,none,some r7,some (.vec g8 11 (c.buffer.map opV))])
  (cs:=clNC c (.bool c.sent) (.osl (.loc 1) (bump gf) 0 (c.flight.map opV).length) (.osl (.loc 8) g8 0 (c.buffer.map opV).length)) (xs:=c.buffer.map opV) (g:=g8) (n:=(c.buffer.map opV).length) 0 16 8 2 rfl rfl rfl rfl rfl rfl (Nat.le_refl _)
 rw [e2] at h2
 exact h2
theorem both_ret {r : List OpT × List OpT × Int} {x : V} {T' : Heap} (h : BothQ r x T') : x.retB 11 = true ∧ rowsB 11 T' = true:=by
 obtain ⟨g1,g2,rfl,rfl⟩:=h
 exact ⟨rfl,by simp only [rowsB,apart_opsL (ss:=[11]) ⟨rfl,rfl⟩,Bool.and_self]⟩
set_option maxHeartbeats 2000000 in
set_option maxRecDepth 100000 in
theorem w_cHear (c : Cl) (gf gb : Nat) (rev : Int) (l : List OpT) (hs : c.seen ≤ 4611686018427387904 ∧ 0 ≤ c.seen) (hl : l.length + c.flight.length + c.buffer.length ≤ 100000) (ol : OkL l) (of : OkL c.flight) (ob : OkL c.buffer)
  (hw1 : c.base.weight + costs l ≤ 400000) (hw2 : c.tree.weight + costs (listsX true (listsX true l c.flight).1 c.buffer).1 ≤ 400000) :
  Fun Tryz.prog 31 (clT c gf gb) [.ptr (.loc 0) 0,.int .i64 rev,opsV l] (fun x T' => x = .int .i64 (c.hear rev l).2 ∧ T' = clT (c.hear rev l).1 (hgen (decide ((c.hear rev l).2 = 0)) gf) (hgen (decide ((c.hear rev l).2 = 0)) gb)):=by
 have ca:=w_ApplyAll c.base l hw1 (by omega) fun z hz => (ol z hz).1
 have c1:=w_BothF l c.flight true ol of (by omega)
 have i1 : (listsX true l c.flight).1.length + (listsX true l c.flight).2.1.length ≤ l.length + c.flight.length:=by
  have:=bringX_inv true l c.flight
  show (bareL _).length + (bareL _).length ≤ _
  rw [bareL_len,bareL_len]
  exact this
 have o1 : OkL (listsX true l c.flight).1:=bareL_okL (bringX_okL ol of).1
 have c2:=w_BothF (listsX true l c.flight).1 c.buffer true o1 ob (by omega)
 have i2 : (listsX true (listsX true l c.flight).1 c.buffer).1.length ≤ 100000:=by
  have:=bringX_inv true (listsX true l c.flight).1 c.buffer
  show (bareL _).length ≤ _
  rw [bareL_len]
  omega
 have o2 : OkL (listsX true (listsX true l c.flight).1 c.buffer).1:=bareL_okL (bringX_okL o1 ob).1
 have cb:=w_ApplyAll c.tree _ hw2 (by omega) fun z hz => (o2 z hz).1
 obtain ⟨R,hR⟩ : ∃ R,c.hear rev l = R:=⟨_,rfl⟩
 rw [hR]
 unfold Cl.hear at hR
 obtain ⟨⟨b2,bn,be⟩,hA⟩ : ∃ r,AllR c.base l = r:=⟨_,rfl⟩
 rw [hA] at ca hR
 generalize listsX true l c.flight = r1 at c1 c2 cb hR
 obtain ⟨th1,fl,e1⟩:=r1
 simp only at c2 cb hR
 generalize listsX true th1 c.buffer = r2 at c2 cb hR
 obtain ⟨th2,bu,e2⟩:=r2
 simp only at cb hR
 obtain ⟨⟨t2,tn,te⟩,hA2⟩ : ∃ r,AllR c.tree th2 = r:=⟨_,rfl⟩
 rw [hA2] at cb hR
 simp only at hR
 clear i1 i2 o1 o2 hA hA2 hw1 hw2
 refine fun_keep 3 rfl (fun_to (fun_fn 60 Tryz.func31 rfl rfl rfl fun imps B hi => ?_))
 show Goes _ _ _ _
 refine goes_ptrP 60 rfl rfl rfl rfl rfl rfl ?_
 refine ⟨by constructor <;> omega,?_⟩
 refine ⟨fun q => go 60 ?_,fun q => go 60 ?_⟩
 ·have q:=ne_of' q
  rw [decide_eq_false q] at hR
  exact ⟨trivial,rfl,rfl,_,HTo.refl _,clT c gf gb,rfl,rfl,⟨⟨rfl,rfl⟩,⟨rfl,rfl⟩,⟨rfl,rfl⟩,trivial⟩,by rw [← hR];rfl,by rw [← hR];rfl⟩
 have q:=eq_of' q
 rw [decide_eq_true q] at hR
 show CallThen _ _ _ _ _ _
 refine call_pure ca rfl ?_
 rintro z rfl
 refine ⟨fun q1 => go 60 ?_,fun q1 => go 60 ?_⟩
 ·have q1:=ne_of' q1
  rw [decide_eq_false q1] at hR
  exact ⟨trivial,rfl,rfl,_,HTo.refl _,clT c gf gb,rfl,rfl,⟨⟨rfl,rfl⟩,⟨rfl,rfl⟩,⟨rfl,rfl⟩,trivial⟩,by rw [← hR];rfl,by rw [← hR];show clT c gf gb = clT c (hgen (decide (be = 0)) gf) (hgen (decide (be = 0)) gb);rw [decide_eq_false q1];rfl⟩
 have q1:=eq_of' q1
 rw [decide_eq_true q1] at hR
 show CallThen _ _ _ _ _ _
 refine call_lendF 11 c1 ⟨.wk rfl (.refl _) (apart_ops (ss:=[]) ⟨rfl,rfl⟩ rfl l),.row 1 gf _ rfl (apart_opsL ⟨rfl,rfl⟩ _),.wk rfl Wk.tt rfl,trivial⟩ rfl (fun x T' h => both_ret h) ?_
 rintro x T1 ⟨g5,g6,rfl,rfl⟩
 refine ⟨fun q2 => go 60 ?_,fun q2 => go 60 ?_⟩
 ·have q2:=ne_of' q2
  rw [decide_eq_false q2] at hR
  exact ⟨trivial,rfl,rfl,_,HTo.refl _,clT c gf gb,rfl,rfl,⟨⟨rfl,rfl⟩,⟨rfl,rfl⟩,⟨rfl,rfl⟩,trivial⟩,by rw [← hR];rfl,by rw [← hR];show clT c gf gb = clT c (hgen (decide (e1 = 0)) gf) (hgen (decide (e1 = 0)) gb);rw [decide_eq_false q2];rfl⟩
 have q2:=eq_of' q2
 rw [decide_eq_true q2] at hR
 show CallThen _ _ _ _ _ _
 refine call_lendF 11 c2 ⟨.row 5 g5 _ rfl (apart_opsL ⟨rfl,rfl⟩ _),.row 2 gb _ rfl (apart_opsL ⟨rfl,rfl⟩ _),.wk rfl Wk.tt rfl,trivial⟩ rfl (fun x T' h => both_ret h) ?_
 rintro x T1 ⟨g7,g8,rfl,rfl⟩
 refine ⟨fun q3 => go 60 ?_,fun q3 => go 60 ?_⟩
 ·have q3:=ne_of' q3
  rw [decide_eq_false q3] at hR
  exact ⟨trivial,rfl,rfl,_,HTo.refl _,clT c gf gb,rfl,rfl,⟨⟨rfl,rfl⟩,⟨rfl,rfl⟩,⟨rfl,rfl⟩,trivial⟩,by rw [← hR];rfl,by rw [← hR];show clT c gf gb = clT c (hgen (decide (e2 = 0)) gf) (hgen (decide (e2 = 0)) gb);rw [decide_eq_false q3];rfl⟩
 have q3:=eq_of' q3
 rw [decide_eq_true q3] at hR
 show CallThen _ _ _ _ _ _
 refine call_lendT 11 cb ⟨.wk rfl (.refl _) (apart_node ⟨rfl,rfl⟩ _),.row 7 g7 _ rfl (apart_opsL ⟨rfl,rfl⟩ _),trivial⟩ rfl (by rintro _ rfl;exact apart_all) ?_
 rintro z rfl
 show Goes _ _ _ _
 refine goes_draw 60 ?_
 refine ⟨by kernel_rfl,?_⟩
 exact ⟨trivial,rfl,rfl,_,to_hear { c with base:=b2,tree:=t2,seen:=rev,flight:=fl,buffer:=bu } gf gb g6 g8 (c.flight.map opV) (c.buffer.map opV) (.box (nodeV b2).cells) (.box (nodeV t2).cells) (.vec g5 11 (th1.map opV)) (.vec g7 11 (th2.map opV)),clT { c with base:=b2,tree:=t2,seen:=rev,flight:=fl,buffer:=bu } (bump gf) (bump gb),rfl,rfl,heapIs_pre _ _ rfl,by rw [← hR,q3];rfl,by rw [← hR];rfl⟩
end Bow
/- W129: a client sends. -/
namespace Bow
open Go Go.Proofs
def subK (l : List OpT) : Nat → Nat → Nat
 | 0,k => k
 | f + 1,k => bif decide (k < l.length) && decide (fitsE (l.take (k + 1)) = 0) then subK l f (k + 1) else k
def Cl.submit (c : Cl) : Cl × Option (List OpT) :=
 bif c.sent then (c,none) else bif decide ((listS c.buffer).length = 0) then ({ c with buffer:=listS c.buffer },none)
 else ({ c with sent:=true,seq:=c.seq + 1,flight:=(listS c.buffer).take (subK (listS c.buffer) (listS c.buffer).length 1),buffer:=bareL ((listS c.buffer).drop (subK (listS c.buffer) (listS c.buffer).length 1)) },
  some (bareL ((listS c.buffer).take (subK (listS c.buffer) (listS c.buffer).length 1))))
def subV (r : Option (List OpT)) : V:=.tup [opsV (r.getD []),.bool r.isSome]
theorem listS_okS {l : List OpT} (h : OkS l) : OkS (listS l):=by
 have key : ∀ (n : Nat) (s : List OpT) (x : OpT),s.length ≤ n → OkS s → x.Ok → OkS (pushO s x):=by
  intro n
  induction n with
  | zero =>
   intro s x hn hs hx
   have : s = []:=List.length_eq_zero_iff.1 (by omega)
   subst this
   exact hs.cons hx
  | succ n ih =>
   intro s x hn hs hx
   cases s with
   | nil => exact hs.cons hx
   | cons a rest =>
    have ha:=hs a (by simp)
    have hr : OkS rest:=fun z hz => hs z (by simp [hz])
    rw [push_cons]
    cases hp : pairO a x with
    | none => exact hs.cons hx
    | some z =>
     cases z with
     | some z => exact ih rest z (by simp at hn;omega) hr (pair_okO ha hx hp)
     | none =>
      cases rest with
      | nil => exact hr
      | cons y rest => exact ih rest y (by simp at hn;omega) (fun z hz => hr z (by simp [hz])) (hr y (by simp))
 have go : ∀ (l s : List OpT),OkS l → OkS s → OkS (listR l s):=by
  intro l
  induction l with
  | nil => exact fun s _ hs => hs
  | cons o l ih =>
   intro s hl hs
   have ho:=hl o (by simp)
   have hl' : OkS l:=fun z hz => hl z (by simp [hz])
   rw [listR]
   cases idleO o with
   | true => exact ih s hl' hs
   | false => exact ih _ hl' (key _ s _ (Nat.le_refl _) hs (bare_ok ho))
 intro o ho
 unfold listS at ho
 rw [List.mem_reverse] at ho
 exact go l [] h (fun z hz => by cases hz) o ho
theorem heapIs_refl {n : Nat} (T : Heap) (h : scAll n T = true) : heapIs n T T:=by
 have:=heapIs_pre T [] h
 rwa [List.append_nil] at this
theorem to_submit (c : Cl) (gf gb g3 g4 n : Nat) (fs bs xs : List V) (o5 : Option HObj) (hs : c.sent = true) (hn : n = (c.flight.map opV).length) (hx : xs.take (c.flight.map opV).length = c.flight.map opV) (hle : (c.flight.map opV).length ≤ xs.length) :
  HTo [some (.box (clNC c .tt (.osl (.loc 3) g3 0 n) (.osl (.loc 4) g4 0 (c.buffer.map opV).length))),some (.vec gf 11 fs),some (.vec gb 11 bs),some (.vec g3 11 xs),some (.vec g4 11 (c.buffer.map opV)),o5] (clT c (bump gf) (bump gb) ++ [none,none,o5]):=by
 subst hn
 rw [clT_N,hs]
 have e2 : (c.buffer.map opV).take (c.buffer.map opV).length = c.buffer.map opV:=List.take_length
 have h1:=HTo.into (T:=[some (.box (clNC c .tt (.osl (.loc 3) g3 0 (c.flight.map opV).length) (.osl (.loc 4) g4 0 (c.buffer.map opV).length))),some (.vec gf 11 fs),some (.vec gb 11 bs),some (.vec g3 11 xs),some (.vec g4 11 (c.buffer.map opV)),o5])
  (cs:=clNC c .tt (.osl (.loc 3) g3 0 (c.flight.map opV).length) (.osl (.loc 4) g4 0 (c.buffer.map opV).length)) (xs:=xs) (g:=g3) (n:=(c.flight.map opV).length) 0 15 3 1 rfl rfl rfl rfl rfl rfl hle
 rw [hx] at h1
 refine HTo.trans h1 ?_
 have h2:=HTo.into (T:=[some (.box (clNC c .tt (.osl (.loc 1) (bump gf) 0 (c.flight.map opV).length) (.osl (.loc 4) g4 0 (c.buffer.map opV).length))),some (.vec (bump gf) 11 (c.flight.map opV)),some (.vec gb 11 bs),none,some (.vec g4 11 (c.buffer.map opV)),o5])
  (cs:=clNC c .tt (.osl (.loc 1) (bump gf) 0 (c.flight.map opV).length) (.osl (.loc 4) g4 0 (c.buffer.map opV).length)) (xs:=c.buffer.map opV) (g:=g4) (n:=(c.buffer.map opV).length) 0 16 4 2 rfl rfl rfl rfl rfl rfl (Nat.le_refl _)
 rw [e2] at h2
 refine HTo.trans h2 ?_
 exact HTo.wkCell (cs:=clNC c .tt (.osl (.loc 1) (bump gf) 0 (c.flight.map opV).length) (.osl (.loc 2) (bump gb) 0 (c.buffer.map opV).length)) (x:=.tt) (y:=.bool true) 0 14 rfl rfl rfl rfl Wk.tt
theorem to_none (c : Cl) (gf gb g3 : Nat) (fs bs : List V) (hb : c.buffer = []) : HTo [some (.box (clNC c (.bool c.sent) (.osl (.loc 1) gf 0 (c.flight.map opV).length) (.osl (.loc 3) g3 0 0))),some (.vec gf 11 (c.flight.map opV)),some (.vec gb 11 bs),some (.vec g3 11 fs)] (clT c gf (bump gb) ++ [none]):=by
 rw [clT_N,hb]
 exact HTo.into (cs:=clNC c (.bool c.sent) (.osl (.loc 1) gf 0 (c.flight.map opV).length) (.osl (.loc 3) g3 0 0)) (xs:=fs) (g:=g3) (n:=0) 0 16 3 2 rfl rfl rfl rfl rfl rfl (Nat.zero_le _)
set_option maxHeartbeats 2000000 in
set_option maxRecDepth 100000 in
theorem w_cSubmit (c : Cl) (gf gb : Nat) (hq : c.seq ≤ 4611686018427387904 ∧ 0 ≤ c.seq) (hl : c.buffer.length ≤ 100000) (ob : OkS c.buffer) (hne : c.sent = false → c.flight = []) :
  Fun Tryz.prog 30 (clT c gf gb) [.ptr (.loc 0) 0] (fun x T' => ∃ gf' gb',x = subV c.submit.2 ∧ T' = clT c.submit.1 gf' gb'):=by
 have cl:=w_List c.buffer (by omega) ob
 have okb:=listS_okS ob
 have lb:=listS_len c.buffer
 obtain ⟨R,hR⟩ : ∃ R,c.submit = R:=⟨_,rfl⟩
 rw [hR]
 unfold Cl.submit at hR
 generalize listS c.buffer = b at cl okb lb hR
 refine fun_wk (fun_keep 3 rfl (fun_to (fun_frzR (fun_fn 60 Tryz.func30 rfl rfl rfl fun imps B hi => ?_))))
 show Goes _ _ _ _
 refine goes_ptrP 60 rfl rfl rfl rfl rfl rfl ?_
 cases hsent : c.sent with
 | true =>
  refine ⟨fun _ => go 60 ?_,fun q => absurd q (by rw [hsent];decide)⟩
  rw [hsent,cond_true] at hR
  exact ⟨trivial,rfl,rfl,rfl,_,HTo.refl _,clT c gf gb,rfl,rfl,⟨⟨rfl,rfl⟩,⟨rfl,rfl⟩,⟨rfl,rfl⟩,trivial⟩,subV none,Wk.tup ⟨Wk.nil 11,Wk.ff,trivial⟩,rfl,rfl,gf,gb,by rw [← hR],by rw [← hR]⟩
 | false =>
 have hne:=hne hsent
 refine ⟨fun q => absurd q (by rw [hsent];decide),fun _ => go 60 ?_⟩
 rw [hsent,cond_false] at hR
 show CallThen _ _ _ _ _ _
 refine call_lendF 11 cl ⟨.row 2 gb _ rfl (apart_opsL ⟨rfl,rfl⟩ _),trivial⟩ rfl ?_ ?_
 ·rintro x T1 ⟨g,rfl,rfl⟩
  exact ⟨rfl,by simp only [rowsB,apart_opsL (ss:=[11]) ⟨rfl,rfl⟩,Bool.and_self]⟩
 rintro x T1 ⟨g3,rfl,rfl⟩
 refine ⟨rfl,?_⟩
 refine ⟨fun q => go 60 ?_,fun q => go 7 ?_⟩
 ·have q0 : b.length = 0:=by have:=of_decide_eq_true q;simpa using this
  have hb : b = []:=List.length_eq_zero_iff.1 q0
  subst hb
  have hc2 : ({ c with buffer:=[] } : Cl) = { c with sent:=false,buffer:=[] }:=by
   cases c
   simp only at hsent
   subst hsent
   rfl
  exact ⟨trivial,rfl,rfl,rfl,_,to_none { c with buffer:=[] } gf gb g3 [] (c.buffer.map opV) rfl,clT { c with buffer:=[] } gf (bump gb),rfl,rfl,heapIs_pre _ _ rfl,subV none,Wk.tup ⟨Wk.nil 11,Wk.ff,trivial⟩,rfl,rfl,gf,bump gb,by rw [← hR];rfl,by rw [← hR,hc2];rfl⟩
 have q0:=of_decide_eq_false q
 have hb1 : 1 ≤ b.length:=by
  simp only [List.length_map] at q0
  omega
 have q0 : decide (b.length = 0) = false:=decide_eq_false (by omega)
 rw [q0,cond_false] at hR
 obtain ⟨K,hK⟩ : ∃ K,subK b b.length 1 = K:=⟨_,rfl⟩
 rw [hK] at hR
 show Goes _ _ _ _
 refine (fun (key : ∀ (f k : Nat),1 ≤ k → k ≤ b.length → b.length ≤ f + k → subK b f k = K → Goes _ _ [(4,.int .i64 (k : Nat)),(0,.ptr (.loc 0) 0)] (clN c (.bool c.sent) (.osl (.loc 1) gf 0 (c.flight.map opV).length) (.osl (.loc 3) g3 0 (b.map opV).length) [.vec gf 11 (c.flight.map opV),.vec gb 11 (c.buffer.map opV),.vec g3 11 (b.map opV)])) =>
  goes_to [(4,.int .i64 ((1 : Nat) : Int)),(0,.ptr (.loc 0) 0)] (clN c (.bool c.sent) (.osl (.loc 1) gf 0 (c.flight.map opV).length) (.osl (.loc 3) g3 0 (b.map opV).length) [.vec gf 11 (c.flight.map opV),.vec gb 11 (c.buffer.map opV),.vec g3 11 (b.map opV)]) rfl (by rw [hi];exact Nat.le_succ 3) ⟨⟨rfl,rfl⟩,⟨rfl,rfl⟩,trivial⟩ (heapIs_refl _ rfl) (key b.length 1 (Nat.le_refl _) hb1 (by omega) hK)) ?_
 intro f
 induction f with
 | zero =>
  intro k h1 h2 h3 h4
  refine go 60 ?_
  refine ⟨rfl,?_⟩
  refine ⟨fun q => absurd (lt_of q) (by simp;omega),fun q => go 60 ?_⟩
  show Goes _ _ _ _
  refine goes_to [(4,.int .i64 ((k : Nat) : Int)),(0,.ptr (.loc 0) 0)] (clN c (.bool c.sent) (.osl (.loc 1) gf 0 (c.flight.map opV).length) (.osl (.loc 3) g3 0 (b.map opV).length) [.vec gf 11 (c.flight.map opV),.vec gb 11 (c.buffer.map opV),.vec g3 11 (b.map opV)]) rfl (by rw [hi];exact Nat.le_succ 3) ⟨⟨rfl,rfl⟩,⟨rfl,rfl⟩,trivial⟩ (heapIs_refl _ rfl) ?_
  have hk : k = K:=h4
  subst hk
  have cd:=w_cbareF (b.drop k) (by simp;omega) (fun o ho => okb o (List.mem_of_mem_drop ho))
  have ct:=w_cbareF (b.take k) (by simp;omega) (fun o ho => okb o (List.mem_of_mem_take ho))
  refine goes_drawX [(9,false),(15,false),(16,true)] 60 ?_
  refine ⟨[3],.osl (.loc 3) g3 0 k,[],fun gs hg => fact_cut3 hg rfl rfl rfl rfl rfl rfl rfl rfl (by simp;omega),trivial,?_⟩
  refine ⟨[3],.osl (.loc 3) g3 (0 + k) ((b.map opV).length - k),[],fun gs hg => fact_cutlo hg rfl rfl rfl rfl rfl rfl rfl rfl (by simp;omega),trivial,?_⟩
  refine ⟨[4,3],.osl (.loc 4) 2 0 ((bareL (b.drop k)).map opV).length,[(4,some (.vec 2 11 ((bareL (b.drop k)).map opV)))],fun gs hg => fact_lendMake 11 [3] hg rfl rfl rfl rfl cd (fun T' hT => ⟨.cut (xs:=b.map opV) ((hT 3 (by simp)).trans rfl) (by simp;omega) (apart_opsL ⟨rfl,rfl⟩ _) (by rw [Nat.zero_add,List.take_of_length_le (by simp),List.map_drop]),trivial⟩) rfl (apart_opsL ⟨rfl,rfl⟩ _),⟨rfl,show 4 < 5 by decide⟩,?_⟩
  refine ⟨by kernel_rfl,?_⟩
  refine ⟨by constructor <;> omega,?_⟩
  show CallThen _ _ _ _ _ _
  refine call_lendF 11 ct ⟨.cut (xs:=b.map opV) rfl (by simp;omega) (apart_opsL ⟨rfl,rfl⟩ _) (by rw [List.drop_zero,List.map_take]),trivial⟩ rfl ?_ ?_
  ·rintro x T1 ⟨g,rfl,rfl⟩
   exact ⟨rfl,by simp only [rowsB,apart_opsL (ss:=[11]) ⟨rfl,rfl⟩,Bool.and_self]⟩
  rintro x T1 ⟨g5,rfl,rfl⟩
  have hlen : k = (((b.take k).map opV)).length:=by simp;omega
  have htk : (b.map opV).take ((b.take k).map opV).length = (b.take k).map opV:=by rw [← hlen,List.map_take]
  exact ⟨trivial,rfl,rfl,rfl,rfl,rfl,_,to_submit { c with sent:=true,seq:=c.seq + 1,flight:=b.take k,buffer:=bareL (b.drop k) } gf gb g3 2 k (c.flight.map opV) (c.buffer.map opV) (b.map opV) none rfl hlen htk (by rw [← hlen];simp;omega),clT { c with sent:=true,seq:=c.seq + 1,flight:=b.take k,buffer:=bareL (b.drop k) } (bump gf) (bump gb),rfl,rfl,heapIs_pre _ _ rfl,subV (some (bareL (b.take k))),Wk.tup ⟨.refl _,Wk.tt,trivial⟩,rfl,rfl,bump gf,bump gb,by rw [← hR],by rw [← hR]⟩
 | succ f ih =>
  intro k h1 h2 h3 h4
  have cf:=w_Fits (b.take (k + 1)) (by simp;omega) (fun o ho => okb o (List.mem_of_mem_take ho))
  rw [subK] at h4
  refine go 60 ?_
  refine ⟨rfl,?_⟩
  refine ⟨fun q => go 60 ?_,fun q => go 60 ?_⟩
  ·have q : (k : Int) < b.length:=by have:=lt_of q;simpa using this
   have hk1 : k < b.length:=by omega
   rw [decide_eq_true hk1] at h4
   refine ⟨by constructor <;> omega,?_⟩
   show Goes _ _ _ _
   refine goes_cutHiG (h:=k + 1) 60 rfl rfl rfl rfl rfl rfl rfl rfl rfl rfl rfl (by simp;omega) ?_
   show CallThen _ _ _ _ _ _
   refine call_lendT 11 cf ⟨.cut (xs:=b.map opV) rfl (by simp;omega) (apart_opsL ⟨rfl,rfl⟩ _) (by rw [List.drop_zero,List.map_take]),trivial⟩ rfl (by rintro _ rfl;rfl) ?_
   rintro z rfl
   refine ⟨fun q2 => go 9 ?_,fun q2 => go 60 ?_⟩
   ·have q2 : fitsE (b.take (k + 1)) = 0:=of_decide_eq_true q2
    rw [decide_eq_true q2] at h4
    refine ⟨by constructor <;> omega,?_⟩
    show Goes _ _ _ _
    exact goes_to [(4,.int .i64 ((k + 1 : Nat) : Int)),(0,.ptr (.loc 0) 0)] (clN c (.bool c.sent) (.osl (.loc 1) gf 0 (c.flight.map opV).length) (.osl (.loc 3) g3 0 (b.map opV).length) [.vec gf 11 (c.flight.map opV),.vec gb 11 (c.buffer.map opV),.vec g3 11 (b.map opV)]) rfl (by rw [hi];exact Nat.le_succ 3) ⟨⟨rfl,rfl⟩,⟨rfl,rfl⟩,trivial⟩ (heapIs_refl _ rfl) (ih (k + 1) (by omega) hk1 (by omega) h4)
   ·have q2 : ¬ fitsE (b.take (k + 1)) = 0:=of_decide_eq_false q2
    rw [decide_eq_false q2] at h4
    show Goes _ _ _ _
    refine goes_to [(4,.int .i64 ((k : Nat) : Int)),(0,.ptr (.loc 0) 0)] (clN c (.bool c.sent) (.osl (.loc 1) gf 0 (c.flight.map opV).length) (.osl (.loc 3) g3 0 (b.map opV).length) [.vec gf 11 (c.flight.map opV),.vec gb 11 (c.buffer.map opV),.vec g3 11 (b.map opV)]) rfl (by rw [hi];exact Nat.le_succ 3) ⟨⟨rfl,rfl⟩,⟨rfl,rfl⟩,trivial⟩ (heapIs_refl _ rfl) ?_
    have hk : k = K:=h4
    subst hk
    have cd:=w_cbareF (b.drop k) (by simp;omega) (fun o ho => okb o (List.mem_of_mem_drop ho))
    have ct:=w_cbareF (b.take k) (by simp;omega) (fun o ho => okb o (List.mem_of_mem_take ho))
    refine goes_drawX [(9,false),(15,false),(16,true)] 60 ?_
    refine ⟨[3],.osl (.loc 3) g3 0 k,[],fun gs hg => fact_cut3 hg rfl rfl rfl rfl rfl rfl rfl rfl (by simp;omega),trivial,?_⟩
    refine ⟨[3],.osl (.loc 3) g3 (0 + k) ((b.map opV).length - k),[],fun gs hg => fact_cutlo hg rfl rfl rfl rfl rfl rfl rfl rfl (by simp;omega),trivial,?_⟩
    refine ⟨[4,3],.osl (.loc 4) 2 0 ((bareL (b.drop k)).map opV).length,[(4,some (.vec 2 11 ((bareL (b.drop k)).map opV)))],fun gs hg => fact_lendMake 11 [3] hg rfl rfl rfl rfl cd (fun T' hT => ⟨.cut (xs:=b.map opV) ((hT 3 (by simp)).trans rfl) (by simp;omega) (apart_opsL ⟨rfl,rfl⟩ _) (by rw [Nat.zero_add,List.take_of_length_le (by simp),List.map_drop]),trivial⟩) rfl (apart_opsL ⟨rfl,rfl⟩ _),⟨rfl,show 4 < 5 by decide⟩,?_⟩
    refine ⟨by kernel_rfl,?_⟩
    refine ⟨by constructor <;> omega,?_⟩
    show CallThen _ _ _ _ _ _
    refine call_lendF 11 ct ⟨.cut (xs:=b.map opV) rfl (by simp;omega) (apart_opsL ⟨rfl,rfl⟩ _) (by rw [List.drop_zero,List.map_take]),trivial⟩ rfl ?_ ?_
    ·rintro x T1 ⟨g,rfl,rfl⟩
     exact ⟨rfl,by simp only [rowsB,apart_opsL (ss:=[11]) ⟨rfl,rfl⟩,Bool.and_self]⟩
    rintro x T1 ⟨g5,rfl,rfl⟩
    have hlen : k = (((b.take k).map opV)).length:=by simp;omega
    have htk : (b.map opV).take ((b.take k).map opV).length = (b.take k).map opV:=by rw [← hlen,List.map_take]
    exact ⟨trivial,rfl,rfl,rfl,rfl,rfl,_,to_submit { c with sent:=true,seq:=c.seq + 1,flight:=b.take k,buffer:=bareL (b.drop k) } gf gb g3 2 k (c.flight.map opV) (c.buffer.map opV) (b.map opV) none rfl hlen htk (by rw [← hlen];simp;omega),clT { c with sent:=true,seq:=c.seq + 1,flight:=b.take k,buffer:=bareL (b.drop k) } (bump gf) (bump gb),rfl,rfl,heapIs_pre _ _ rfl,subV (some (bareL (b.take k))),Wk.tup ⟨.refl _,Wk.tt,trivial⟩,rfl,rfl,bump gf,bump gb,by rw [← hR],by rw [← hR]⟩
  ·have q : ¬ (k : Int) < b.length:=by have:=not_lt_of q;simp only [List.length_map] at this;omega
   have hk1 : ¬ k < b.length:=by omega
   rw [decide_eq_false hk1] at h4
   show Goes _ _ _ _
   refine goes_to [(4,.int .i64 ((k : Nat) : Int)),(0,.ptr (.loc 0) 0)] (clN c (.bool c.sent) (.osl (.loc 1) gf 0 (c.flight.map opV).length) (.osl (.loc 3) g3 0 (b.map opV).length) [.vec gf 11 (c.flight.map opV),.vec gb 11 (c.buffer.map opV),.vec g3 11 (b.map opV)]) rfl (by rw [hi];exact Nat.le_succ 3) ⟨⟨rfl,rfl⟩,⟨rfl,rfl⟩,trivial⟩ (heapIs_refl _ rfl) ?_
   have hk : k = K:=h4
   subst hk
   have cd:=w_cbareF (b.drop k) (by simp;omega) (fun o ho => okb o (List.mem_of_mem_drop ho))
   have ct:=w_cbareF (b.take k) (by simp;omega) (fun o ho => okb o (List.mem_of_mem_take ho))
   refine goes_drawX [(9,false),(15,false),(16,true)] 60 ?_
   refine ⟨[3],.osl (.loc 3) g3 0 k,[],fun gs hg => fact_cut3 hg rfl rfl rfl rfl rfl rfl rfl rfl (by simp;omega),trivial,?_⟩
   refine ⟨[3],.osl (.loc 3) g3 (0 + k) ((b.map opV).length - k),[],fun gs hg => fact_cutlo hg rfl rfl rfl rfl rfl rfl rfl rfl (by simp;omega),trivial,?_⟩
   refine ⟨[4,3],.osl (.loc 4) 2 0 ((bareL (b.drop k)).map opV).length,[(4,some (.vec 2 11 ((bareL (b.drop k)).map opV)))],fun gs hg => fact_lendMake 11 [3] hg rfl rfl rfl rfl cd (fun T' hT => ⟨.cut (xs:=b.map opV) ((hT 3 (by simp)).trans rfl) (by simp;omega) (apart_opsL ⟨rfl,rfl⟩ _) (by rw [Nat.zero_add,List.take_of_length_le (by simp),List.map_drop]),trivial⟩) rfl (apart_opsL ⟨rfl,rfl⟩ _),⟨rfl,show 4 < 5 by decide⟩,?_⟩
   refine ⟨by kernel_rfl,?_⟩
   refine ⟨by constructor <;> omega,?_⟩
   show CallThen _ _ _ _ _ _
   refine call_lendF 11 ct ⟨.cut (xs:=b.map opV) rfl (by simp;omega) (apart_opsL ⟨rfl,rfl⟩ _) (by rw [List.drop_zero,List.map_take]),trivial⟩ rfl ?_ ?_
   ·rintro x T1 ⟨g,rfl,rfl⟩
    exact ⟨rfl,by simp only [rowsB,apart_opsL (ss:=[11]) ⟨rfl,rfl⟩,Bool.and_self]⟩
   rintro x T1 ⟨g5,rfl,rfl⟩
   have hlen : k = (((b.take k).map opV)).length:=by simp;omega
   have htk : (b.map opV).take ((b.take k).map opV).length = (b.take k).map opV:=by rw [← hlen,List.map_take]
   exact ⟨trivial,rfl,rfl,rfl,rfl,rfl,_,to_submit { c with sent:=true,seq:=c.seq + 1,flight:=b.take k,buffer:=bareL (b.drop k) } gf gb g3 2 k (c.flight.map opV) (c.buffer.map opV) (b.map opV) none rfl hlen htk (by rw [← hlen];simp;omega),clT { c with sent:=true,seq:=c.seq + 1,flight:=b.take k,buffer:=bareL (b.drop k) } (bump gf) (bump gb),rfl,rfl,heapIs_pre _ _ rfl,subV (some (bareL (b.take k))),Wk.tup ⟨.refl _,Wk.tt,trivial⟩,rfl,rfl,bump gf,bump gb,by rw [← hR],by rw [← hR]⟩
end Bow
/- W110: a window that is only read: its revisions, its trees, the lists behind a revision, a list brought. -/
namespace Bow
open Go Go.Proofs
end Bow
/- W111: a window begun, and a revision more. -/
namespace Bow
open Go Go.Proofs
end Bow
/- W113: the examples of chapter 20. -/
namespace Bow
open Go Go.Proofs
theorem fun_args {P : Program} {f : FuncId} {T : Heap} {args args' : List V} {Q : V → Heap → Prop} (h : Fun P f T args' Q) (hl : args.length = args'.length) (hw : ∀ (j : Nat) (x y : V),args[j]? = some x → args'[j]? = some y → x = y ∨ (x.pureB = true ∧ y.pureB = true ∧ Wk x y)) : Fun P f T args Q:=by
 unfold Fun at *
 refine ⟨h.1,fun w β H m B vals cs hs hl' hr => h.2 w β H m B vals cs hs (hl ▸ hl') fun j y v hj hv => ?_⟩
 have hjl:=lt_of_get hj
 have hx:=List.getElem?_eq_getElem (l:=args) (i:=j) (by omega)
 rcases hw j _ y hx hj with e | ⟨p1,p2,k⟩
 ·rw [← e]
  exact hr j _ v hx hv
 ·have h1:=hr j _ v hx hv
  rw [pure_conv _ _ p1] at h1
  rw [pure_conv _ _ p2]
  exact k w β H v h1
def two20 : Tree:=.mk 1 false [114] [] [] [.mk 2 false [97] [] [] [],.mk 3 false [98] [] [] []]
def one20 : Tree:=.mk 1 false [114] [] [] [.mk 3 false [98] [] [] []]
def end20 : Tree:=.mk 1 false [114] [] [] [.mk 3 false [120] [] [] []]
def dO20 : OpT:={ noOp 2 with path:=[0] }
def xO20 : OpT:={ noOp 5 with path:=[0],label:=[120] }
theorem lists_of {p : Bool} {xs ys : List OpT} {r : List OpT × List OpT × Int} (n : Nat) (h : bringF p n xs ys = some r) : listsX p xs ys = (bareL r.1,bareL r.2.1,r.2.2):=by
 unfold listsX
 rw [bringX_eq h]
theorem wkL20 {b : Bool} {i : Int} {label text : List UInt8} {ats ks leaf : V} {al : List (List UInt8 × List UInt8)} {ss : List Tree} (hl : Wk leaf (.bool b)) (ha : Wk ats (.sl 2 (al.map attrV))) (hk : Wk ks (.sl 6 (ss.map nodeV))) :
  WkL [.int .u64 i,leaf,.str label,ats,.str text,ks] (nodeV (.mk i b label al text ss)).cells:=by
 refine ⟨.refl _,hl,.refl _,ha,.refl _,?_,trivial⟩
 rw [subV_eq]
 exact hk
theorem wk_del20 {p : List Int} : WkE 11 [.agg [.int .u8 2,pathV p,.int .i64 0,.nilsl,.int .u64 0,.ff,.str [],.str [],.str [],.ff,.nilsl]] ([{ noOp 2 with path:=p }].map opV) :=
 ⟨⟨⟨.refl _,.refl _,.refl _,Wk.nil 1,.refl _,Wk.ff,.refl _,.refl _,.refl _,Wk.ff,Wk.nil 3,trivial⟩,rfl,rfl⟩,trivial⟩
theorem wk_lab20 {p : List Int} {s : List UInt8} : WkE 11 [.agg [.int .u8 5,pathV p,.int .i64 0,.nilsl,.int .u64 0,.ff,.str s,.str [],.str [],.ff,.nilsl]] ([{ noOp 5 with path:=p,label:=s }].map opV) :=
 ⟨⟨⟨.refl _,.refl _,.refl _,Wk.nil 1,.refl _,Wk.ff,.refl _,.refl _,.refl _,Wk.ff,Wk.nil 3,trivial⟩,rfl,rfl⟩,trivial⟩
theorem okL20 {o : OpT} (h1 : o.path.length ≤ 10) (h2 : o.to.length ≤ 10) (h3 : o.label.length ≤ 10) (h4 : o.key.length ≤ 10) (h5 : o.value.length ≤ 10) (h6 : o.pieces = []) : OkL [o]:=fun z hz => by
 rw [List.mem_singleton.1 hz]
 exact ⟨⟨⟨by omega,by omega,by omega,by omega,by omega,by rw [h6];simp⟩,by rw [h6];simp [putsLen]⟩,by omega⟩
theorem fun_arg1 {P : Program} {f : FuncId} {T : Heap} {p x y : V} {Q : V → Heap → Prop} (h : Fun P f T [p,y] Q) (hx : x.pureB = true) (hy : y.pureB = true) (hw : Wk x y) : Fun P f T [p,x] Q :=
 fun_args h rfl fun j a b ha hb => by
  match j,ha,hb with
  | 0,ha,hb =>
   injection ha with ha
   injection hb with hb
   exact .inl (ha.symm.trans hb)
  | 1,ha,hb =>
   injection ha with ha
   injection hb with hb
   subst ha hb
   exact .inr ⟨hx,hy,hw⟩
  | j + 2,ha,_ => simp at ha
def rawDel (p : List Int) : V:=.sl 11 [.agg [.int .u8 2,pathV p,.int .i64 0,.nilsl,.int .u64 0,.ff,.str [],.str [],.str [],.ff,.nilsl]]
def rawLab (p : List Int) (s : List UInt8) : V:=.sl 11 [.agg [.int .u8 5,pathV p,.int .i64 0,.nilsl,.int .u64 0,.ff,.str s,.str [],.str [],.ff,.nilsl]]
end Bow
/- W130: the examples of chapter 22: what they come to. -/
namespace Bow
open Go Go.Proofs
def iO22 : OpT:={ noOp 1 with id:=9,label:=[110] }
def k1_22 : Cl:=⟨5,0,two20,one20,false,[],[dO20]⟩
def k2_22 : Cl:=⟨5,1,two20,one20,true,[dO20],[]⟩
def k3_22 : Cl:=⟨5,1,two20,end20,true,[dO20],[xO20]⟩
def base22 : Tree:=.mk 1 false [114] [] [] [.mk 9 false [110] [] [] [],.mk 2 false [97] [] [] [],.mk 3 false [98] [] [] []]
def mid22 : Tree:=.mk 1 false [114] [] [] [.mk 9 false [110] [] [] [],.mk 3 false [98] [] [] []]
def end22 : Tree:=.mk 1 false [114] [] [] [.mk 9 false [110] [] [] [],.mk 3 false [120] [] [] []]
def d1O22 : OpT:={ noOp 2 with path:=[1] }
def x1O22 : OpT:={ noOp 5 with path:=[1],label:=[120] }
def k4_22 : Cl:=⟨6,1,base22,end22,true,[d1O22],[x1O22]⟩
def k5_22 : Cl:=⟨7,1,mid22,end22,false,[],[x1O22]⟩
set_option maxRecDepth 100000 in
theorem ed22_1 : (Cl.new 5 0 two20).edit [dO20] = (k1_22,0):=by kernel_rfl
set_option maxRecDepth 100000 in
theorem sub22 : k1_22.submit = (k2_22,some [dO20]):=by kernel_rfl
set_option maxRecDepth 100000 in
theorem ed22_2 : k2_22.edit [xO20] = (k3_22,0):=by kernel_rfl
set_option maxRecDepth 100000 in
theorem lx22_1 : listsX true [iO22] [dO20] = ([iO22],[d1O22],0):=by
 rw [lists_of 3 (r:=([iO22],[d1O22],0)) (by kernel_rfl)]
 kernel_rfl
set_option maxRecDepth 100000 in
theorem lx22_2 : listsX true [iO22] [xO20] = ([iO22],[x1O22],0):=by
 rw [lists_of 3 (r:=([iO22],[x1O22],0)) (by kernel_rfl)]
 kernel_rfl
set_option maxRecDepth 100000 in
theorem hear22 : k3_22.hear 6 [iO22] = (k4_22,0):=by
 have e1 : (listsX true [iO22] k3_22.flight) = ([iO22],[d1O22],0):=lx22_1
 have e2 : (listsX true [iO22] k3_22.buffer) = ([iO22],[x1O22],0):=lx22_2
 have key : ∀ r1 r2 : List OpT × List OpT × Int,r1 = ([iO22],[d1O22],0) → r2 = ([iO22],[x1O22],0) → (bif !decide ((6 : Int) = k3_22.seen + 1) then (k3_22,(4 : Int))
 else bif !decide ((AllR k3_22.base [iO22]).2.2 = 0) then (k3_22,(AllR k3_22.base [iO22]).2.2)
 else bif !decide (r1.2.2 = 0) then (k3_22,r1.2.2)
 else bif !decide (r2.2.2 = 0) then (k3_22,r2.2.2)
 else (({ k3_22 with base:=(AllR k3_22.base [iO22]).1,tree:=(AllR k3_22.tree r2.1).1,seen:=6,flight:=r1.2.1,buffer:=r2.2.1 } : Cl),0)) = (k4_22,0):=by
  rintro _ _ rfl rfl
  kernel_rfl
 refine key _ _ e1 ?_
 rw [e1]
 exact e2
set_option maxRecDepth 100000 in
theorem acc22 : k4_22.accepted 7 = (k5_22,0):=by kernel_rfl
end Bow
/- AE64: a call that is handed objects: what stands behind it, said at once. -/
namespace Bow
open Go
theorem call_subE {c : Cx} {g : FuncId} {args args' : List V} {E : Env} {T T1 : Heap} {K : V → St → Prop} {Q : V → Heap → Prop} (ks : List Nat) (hf : Fun c.P g T1 args' Q) (hnd : nodupB ks = true) (hlt : subB ks T.length = true) (ho : objsAre ks T ks T1) (ha : args = V.renL ks args') (hsc : V.scBL ks.length args' = true)
    (hD : c.D.all (fun k => !memN ks k) = true)
    (h : ∀ x T1', Q x T1' → allLive (ldrop T1' ks.length) = true ∧ ∃ (T2 : Heap) (y : V), setAll (subρ ks T.length T1') ks T1' T = T2 ∧ x.ren (subρ ks T.length T1') = y ∧ K y ⟨E, T2, c.B, c.D⟩) : CallThen c g args E T K :=
  call_sub ks hf hnd hlt ho ha hsc hD fun x T1' hq => by
    obtain ⟨h1, T2, y, rfl, rfl, h2⟩ := h x T1' hq
    exact ⟨h1, by rw [setAllK_eq]; exact h2⟩
end Bow
/- W131: the examples of chapter 22, walked. -/
namespace Bow
open Go Go.Proofs
set_option maxRecDepth 100000 in
theorem w_two22 : Pure Tryz.prog 45 [] (fun x => x = nodeV two20):=by
 refine pure_wk (pure_fn 60 Tryz.func45 rfl rfl rfl fun B => ?_)
 refine ⟨⟨rfl,rfl,trivial⟩,?_⟩
 refine ⟨trivial,rfl,rfl,rfl,rfl,rfl,nodeV two20,?_,rfl,rfl⟩
 exact Wk.agg (wkL20 Wk.ff (Wk.nil 2) (Wk.sl ⟨⟨wkL20 Wk.ff (Wk.nil 2) (Wk.nil 6),okE_node _⟩,⟨wkL20 Wk.ff (Wk.nil 2) (Wk.nil 6),okE_node _⟩,trivial⟩))
def hp22 (c : Cl) (gf gb : Nat) (r : Heap) : Heap:=some (.box (nodeV two20).cells) :: some (.box (clC c (.osl (.loc 2) gf 0 (c.flight.map opV).length) (.osl (.loc 3) gb 0 (c.buffer.map opV).length))) :: some (.vec gf 11 (c.flight.map opV)) :: some (.vec gb 11 (c.buffer.map opV)) :: r
def rawIns22 : V:=.sl 11 [.agg [.int .u8 1,.nilsl,.int .i64 0,.nilsl,.int .u64 9,.ff,.str [110],.str [],.str [],.ff,.nilsl]]
theorem wk_ins22 : Wk rawIns22 (opsV [iO22]) :=
 Wk.sl ⟨⟨⟨.refl _,Wk.nil 1,.refl _,Wk.nil 1,.refl _,Wk.ff,.refl _,.refl _,.refl _,Wk.ff,Wk.nil 3,trivial⟩,rfl,rfl⟩,trivial⟩
set_option maxRecDepth 100000 in
theorem f22_1 : Fun Tryz.prog 29 (clT (Cl.new 5 0 two20) 0 0) [.ptr (.loc 0) 0,rawDel [0]] (fun x T' => ∃ gb,x = .int .i64 0 ∧ T' = clT k1_22 0 gb):=by
 refine fun_arg1 (y:=opsV [dO20]) ((w_cEdit (Cl.new 5 0 two20) 0 0 [dO20] (by decide) (by decide) (okL20 (by decide) (by decide) (by decide) (by decide) (by decide) rfl) (by decide)).mono fun x T' hq => ?_) rfl rfl (Wk.sl wk_del20)
 rw [ed22_1] at hq
 exact hq
set_option maxRecDepth 100000 in
theorem f22_2 (gf gb : Nat) : Fun Tryz.prog 30 (clT k1_22 gf gb) [.ptr (.loc 0) 0] (fun x T' => ∃ gf' gb',x = .tup [opsV [dO20],.bool true] ∧ T' = clT k2_22 gf' gb'):=by
 refine (w_cSubmit k1_22 gf gb (by decide) (by decide) (okL_S (okL20 (by decide) (by decide) (by decide) (by decide) (by decide) rfl)) (fun _ => rfl)).mono fun x T' hq => ?_
 rw [sub22] at hq
 exact hq
set_option maxRecDepth 100000 in
theorem f22_3 (gf gb : Nat) : Fun Tryz.prog 29 (clT k2_22 gf gb) [.ptr (.loc 0) 0,rawLab [0] [120]] (fun x T' => ∃ gb',x = .int .i64 0 ∧ T' = clT k3_22 gf gb'):=by
 refine fun_arg1 (y:=opsV [xO20]) ((w_cEdit k2_22 gf gb [xO20] (by decide) (by decide) (okL20 (by decide) (by decide) (by decide) (by decide) (by decide) rfl) (by decide)).mono fun x T' hq => ?_) rfl rfl (Wk.sl wk_lab20)
 rw [ed22_2] at hq
 exact hq
theorem fun_arg2 {P : Program} {f : FuncId} {T : Heap} {p n x y : V} {Q : V → Heap → Prop} (h : Fun P f T [p,n,y] Q) (hx : x.pureB = true) (hy : y.pureB = true) (hw : Wk x y) : Fun P f T [p,n,x] Q :=
 fun_args h rfl fun j a b ha hb => by
  match j,ha,hb with
  | 0,ha,hb =>
   injection ha with ha
   injection hb with hb
   exact .inl (ha.symm.trans hb)
  | 1,ha,hb =>
   injection ha with ha
   injection hb with hb
   exact .inl (ha.symm.trans hb)
  | 2,ha,hb =>
   injection ha with ha
   injection hb with hb
   subst ha hb
   exact .inr ⟨hx,hy,hw⟩
  | j + 3,ha,_ => simp at ha
set_option maxRecDepth 100000 in
theorem f22_4 (gf gb : Nat) : Fun Tryz.prog 31 (clT k3_22 gf gb) [.ptr (.loc 0) 0,.int .i64 6,rawIns22] (fun x T' => ∃ gf' gb',x = .int .i64 0 ∧ T' = clT k4_22 gf' gb'):=by
 have e1 : (listsX true [iO22] k3_22.flight).1 = [iO22]:=congrArg (·.1) lx22_1
 have e2 : (listsX true [iO22] k3_22.buffer).1 = [iO22]:=congrArg (·.1) lx22_2
 refine fun_arg2 (y:=opsV [iO22]) ((w_cHear k3_22 gf gb 6 [iO22] (by decide) (by decide) (okL20 (by decide) (by decide) (by decide) (by decide) (by decide) rfl) (okL20 (by decide) (by decide) (by decide) (by decide) (by decide) rfl) (okL20 (by decide) (by decide) (by decide) (by decide) (by decide) rfl) (by decide) (by rw [e1,e2];decide)).mono fun x T' hq => ?_) rfl rfl wk_ins22
 rw [hear22] at hq
 exact ⟨_,_,hq⟩
set_option maxRecDepth 100000 in
theorem f22_5 (gf gb : Nat) : Fun Tryz.prog 34 (clT k4_22 gf gb) [.ptr (.loc 0) 0,.int .i64 7] (fun x T' => ∃ gf',x = .int .i64 0 ∧ T' = clT k5_22 gf' gb):=by
 refine (w_cAccepted k4_22 gf gb 7 (by decide) (by decide) (okL20 (by decide) (by decide) (by decide) (by decide) (by decide) rfl) (by decide)).mono fun x T' hq => ?_
 rw [acc22] at hq
 exact ⟨_,hq⟩
set_option maxHeartbeats 4000000 in
set_option maxRecDepth 100000 in
theorem w_works22 : Pure Tryz.prog 24 [] (fun x => x = .bool true):=by
 refine pure_wk (pure_fn 60 Tryz.func24 rfl rfl rfl fun B => ?_)
 show CallThen _ _ _ _ _ _
 refine call_pure w_two22 rfl ?_
 rintro z rfl
 show CallThen _ _ _ _ _ _
 refine call_sub [] (w_cNew 5 0 two20 (by decide) (by decide)) rfl rfl trivial rfl rfl rfl ?_
 rintro x T1 ⟨rfl,rfl⟩
 refine ⟨rfl,?_⟩
 refine ⟨fun q => absurd rfl (ne_of' q),fun _ => ?_⟩
 refine goes_ownCell 1 15 11 rfl rfl ?_
 refine goes_ownCell 1 16 11 rfl rfl ?_
 refine go 1 ?_
 show Goes _ _ _ _
 refine goes_ptrPG (t:=56) (e:=114) 60 rfl rfl rfl rfl rfl rfl rfl rfl rfl ?_
 refine ⟨⟨rfl,trivial⟩,rfl,rfl,⟨rfl,trivial⟩,?_⟩
 show CallThen _ _ _ _ _ _
 refine call_freeze 5 rfl rfl ?_
 refine call_subE [1,2,3] f22_1 rfl rfl ⟨⟨rfl,rfl⟩,⟨rfl,rfl⟩,⟨rfl,rfl⟩,trivial⟩ rfl rfl rfl ?_
 rintro x T1 ⟨gb1,rfl,rfl⟩
 refine ⟨rfl,hp22 k1_22 0 gb1 [none,none],_,rfl,rfl,?_⟩
 show CallThen _ _ _ _ _ _
 refine call_subE [1,2,3] (f22_2 0 gb1) rfl rfl ⟨⟨rfl,rfl⟩,⟨rfl,rfl⟩,⟨rfl,rfl⟩,trivial⟩ rfl rfl rfl ?_
 rintro x T1 ⟨gf2,gb2,rfl,rfl⟩
 refine ⟨rfl,hp22 k2_22 gf2 gb2 [none,none],_,rfl,rfl,?_⟩
 refine ⟨⟨rfl,trivial⟩,rfl,rfl,⟨rfl,trivial⟩,?_⟩
 show CallThen _ _ _ _ _ _
 refine call_freeze 7 rfl rfl ?_
 refine call_subE [1,2,3] (f22_3 gf2 gb2) rfl rfl ⟨⟨rfl,rfl⟩,⟨rfl,rfl⟩,⟨rfl,rfl⟩,trivial⟩ rfl rfl rfl ?_
 rintro x T1 ⟨gb3,rfl,rfl⟩
 refine ⟨rfl,hp22 k3_22 gf2 gb3 [none,none,none,none],_,rfl,rfl,?_⟩
 refine ⟨⟨rfl,trivial⟩,?_⟩
 show CallThen _ _ _ _ _ _
 refine call_freeze 8 rfl rfl ?_
 refine call_subE [1,2,3] (f22_4 gf2 gb3) rfl rfl ⟨⟨rfl,rfl⟩,⟨rfl,rfl⟩,⟨rfl,rfl⟩,trivial⟩ rfl rfl rfl ?_
 rintro x T1 ⟨gf4,gb4,rfl,rfl⟩
 refine ⟨rfl,hp22 k4_22 gf4 gb4 [none,none,none,none,none],_,rfl,rfl,?_⟩
 show CallThen _ _ _ _ _ _
 refine call_subE [1,2,3] (w_cFlight k4_22 gf4 gb4 (by decide) (okL_S (okL20 (by decide) (by decide) (by decide) (by decide) (by decide) rfl))) rfl rfl ⟨⟨rfl,rfl⟩,⟨rfl,rfl⟩,⟨rfl,rfl⟩,trivial⟩ rfl rfl rfl ?_
 rintro x T1 ⟨rfl,rfl⟩
 refine ⟨rfl,hp22 k4_22 gf4 gb4 [none,none,none,none,none,some (.vec 2 11 ((bareL k4_22.flight).map opV))],.tup [.osl (.loc 9) 2 0 ((bareL k4_22.flight).map opV).length,.bool true],rfl,rfl,?_⟩
 refine ⟨fun q => absurd q (by decide),fun _ => go 60 ?_⟩
 refine ⟨fun q => absurd q (by decide),fun _ => go 60 ?_⟩
 refine ⟨fun q => absurd q (by decide),fun _ => go 60 ?_⟩
 refine ⟨fun q => absurd q (by decide),fun _ => go 60 ?_⟩
 refine ⟨fun q => absurd q (by decide),fun _ => go 60 ?_⟩
 refine ⟨fun q => absurd q (by decide),fun _ => go 60 ?_⟩
 refine ⟨rfl,?_⟩
 refine ⟨fun q => absurd q (by decide),fun _ => go 60 ?_⟩
 refine ⟨rfl,by decide,by decide,rfl,rfl,opV d1O22,rfl,?_⟩
 refine ⟨fun q => absurd q (by decide),fun _ => go 60 ?_⟩
 refine ⟨rfl,by decide,by decide,rfl,rfl,opV d1O22,rfl,?_⟩
 refine ⟨by decide,intV 1,rfl,?_⟩
 refine ⟨fun q => absurd q (by decide),fun _ => ?_⟩
 show Goes { P:=Tryz.prog,nt:=Tryz.f24.ntmps,fn:=24,ro:=none,imps:=[],X:=XR Tryz.prog [] Tryz.f24.results B fun x T => frz x T False fun x' _ => x'.pureB = true ∧ ∃ y,Wk x' y ∧ y.pureB = true ∧ y = V.bool true,B:=B,D:=[] } _ _ _
 refine go 60 ?_
 show CallThen _ _ _ _ _ _
 refine call_subE [1,2,3] (f22_5 gf4 gb4) rfl rfl ⟨⟨rfl,rfl⟩,⟨rfl,rfl⟩,⟨rfl,rfl⟩,trivial⟩ rfl rfl rfl ?_
 rintro x T1 ⟨gf5,rfl,rfl⟩
 refine ⟨rfl,hp22 k5_22 gf5 gb4 [none,none,none,none,none,some (.vec 2 11 ((bareL k4_22.flight).map opV))],_,rfl,rfl,?_⟩
 show CallThen _ _ _ _ _ _
 refine call_subE [1,2,3] (w_cRefused_no k5_22 gf5 gb4 rfl) rfl rfl ⟨⟨rfl,rfl⟩,⟨rfl,rfl⟩,⟨rfl,rfl⟩,trivial⟩ rfl rfl rfl ?_
 rintro x T1 ⟨rfl,rfl⟩
 refine ⟨rfl,hp22 k5_22 gf5 gb4 [none,none,none,none,none,some (.vec 2 11 ((bareL k4_22.flight).map opV))],_,rfl,rfl,?_⟩
 show CallThen _ _ _ _ _ _
 refine call_subE [1,2,3] (w_cTree k5_22 gf5 gb4 (by decide)) rfl rfl ⟨⟨rfl,rfl⟩,⟨rfl,rfl⟩,⟨rfl,rfl⟩,trivial⟩ rfl rfl rfl ?_
 rintro x T1 ⟨rfl,rfl⟩
 refine ⟨rfl,hp22 k5_22 gf5 gb4 [none,none,none,none,none,some (.vec 2 11 ((bareL k4_22.flight).map opV))],nodeV end22,rfl,rfl,?_⟩
 refine ⟨fun _ => go 60 ?_,fun q => absurd q (by decide)⟩
 refine ⟨fun _ => go 60 ?_,fun q => absurd q (by decide)⟩
 show CallThen _ _ _ _ _ _
 refine call_subE [1,2,3] (w_cSeen k5_22 gf5 gb4) rfl rfl ⟨⟨rfl,rfl⟩,⟨rfl,rfl⟩,⟨rfl,rfl⟩,trivial⟩ rfl rfl rfl ?_
 rintro x T1 ⟨rfl,rfl⟩
 refine ⟨rfl,hp22 k5_22 gf5 gb4 [none,none,none,none,none,some (.vec 2 11 ((bareL k4_22.flight).map opV)),some (.box (nodeV end22).cells)],_,rfl,rfl,?_⟩
 refine ⟨fun _ => go 60 ?_,fun q => absurd q (by decide)⟩
 show CallThen _ _ _ _ _ _
 refine call_subE [1,2,3] (w_cSeq k5_22 gf5 gb4) rfl rfl ⟨⟨rfl,rfl⟩,⟨rfl,rfl⟩,⟨rfl,rfl⟩,trivial⟩ rfl rfl rfl ?_
 rintro x T1 ⟨rfl,rfl⟩
 refine ⟨rfl,hp22 k5_22 gf5 gb4 [none,none,none,none,none,some (.vec 2 11 ((bareL k4_22.flight).map opV)),some (.box (nodeV end22).cells)],_,rfl,rfl,?_⟩
 refine ⟨fun _ => go 60 ?_,fun q => absurd q (by decide)⟩
 refine ⟨fun _ => go 60 ?_,fun q => absurd q (by decide)⟩
 refine ⟨by decide,nodeV (.mk 3 false [120] [] [] []),rfl,?_⟩
 exact ⟨trivial,rfl,rfl,rfl,leaf_b (show decide _ = true by decide)⟩
end Bow
