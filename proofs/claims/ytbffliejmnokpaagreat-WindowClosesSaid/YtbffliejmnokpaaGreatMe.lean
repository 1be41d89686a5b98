/- The library, part 5: W16, W17, W18, W19, W20, W21, W22, W23, WB1, W24, W25, W26, SP9, W27, W30a, W31, W32, W33, W34, WB2, W35, W36, W37, W38, SP15, SP16, W39, SP17, W43a, W49, W50, W51, W52. -/
import Derived.Test.YtbffliejmnokpaaGreatMd
import Derived.Test.YtbffliejmnokpaaGreatMc
import Derived.Shelf.Strings.BuilderK
import Derived.Test.YtbffliejmnokpaaGreatProg
import Derived.BigCall
import Derived.Lib.Bytealg
/- W16: paths, further. -/
namespace Bow
open Go Go.Proofs
theorem common_at {p q : List Int} {i : Nat} (hp : i < p.length) (hq : i < q.length) : common (p.drop i) (q.drop i) = bif decide (p[i] = q[i]) then common (p.drop (i + 1)) (q.drop (i + 1)) + 1 else 0:=by
 rw [List.drop_eq_getElem_cons hp,List.drop_eq_getElem_cons hq,common]
theorem common_nil {p q : List Int} {i : Nat} (h : p.length ≤ i ∨ q.length ≤ i) : common (p.drop i) (q.drop i) = 0:=by
 rcases h with h | h
 ·rw [List.drop_eq_nil_of_le h];simp [common]
 ·rw [List.drop_eq_nil_of_le h];cases p.drop i <;> simp [common]
set_option maxRecDepth 100000 in
theorem w_refCommon (p q : List Int) (hp : p.length ≤ 1000000) : Pure Tryz.prog 140 [pathV p,pathV q] (fun x => x = .int .i64 (common p q)):=by
 refine pure_fn 100 Tryz.func140 rfl rfl rfl fun B => ?_
 show Goes _ _ _ _
 refine goes_iter (ι:=Nat) (fun i => i ≤ p.length ∧ i + common (p.drop i) (q.drop i) = common p q) (fun i => p.length - i) (fun i => [(5,.int .i64 i),(1,pathV q),(0,pathV p)]) (fun _ => []) 0 100 (fun _ => rfl) (fun _ => rfl) ⟨⟨Nat.zero_le _,by simp⟩,?_,trivial⟩ ?_
 ·exact ⟨⟨rfl,rfl⟩,⟨rfl,rfl⟩,⟨rfl,rfl⟩,trivial⟩
 rintro i ⟨k1,k2⟩ next
 show Goes _ _ _ _
 have fin : common (p.drop i) (q.drop i) = 0 → V.int .i64 (i : Nat) = .int .i64 (common p q):=fun h => by rw [← k2,h];rfl
 refine goes_draw 100 ⟨fun g1 => ⟨fun g2 => ?_,fun g2 => ?_⟩,fun g1 => ?_⟩
 ·have hi : i < p.length:=by simpa using g1
  have hi' : i < q.length:=by simpa using g2
  have hx : (p.map intV)[i]? = some (intV p[i]):=by simp [hi]
  have hy : (q.map intV)[i]? = some (intV q[i]):=by simp [hi']
  rw [common_at hi hi'] at k2 fin
  refine ⟨Int.natCast_nonneg i,_,hx,Int.natCast_nonneg i,_,hy,?_⟩
  refine ⟨by kernel_rfl,?_⟩
  refine ⟨fun g3 => go 100 ?_,fun g3 => go 100 ?_⟩
  ·rw [g3] at k2
   refine ⟨by constructor <;> omega,?_⟩
   exact next (i + 1) _ _ ⟨⟨hi,by simp only [cond_true] at k2;omega⟩,by omega,⟨⟨rfl,rfl⟩,⟨rfl,rfl⟩,⟨rfl,rfl⟩,trivial⟩,trivial⟩
  ·rw [g3] at fin
   exact ⟨trivial,rfl,rfl,rfl,fin rfl⟩
 ·have hi' : q.length ≤ i:=by simpa using g2
  refine ⟨by kernel_rfl,?_⟩
  exact ⟨trivial,rfl,rfl,rfl,fin (common_nil (.inr hi'))⟩
 ·have hi : p.length ≤ i:=by simpa using g1
  refine ⟨by kernel_rfl,?_⟩
  exact ⟨trivial,rfl,rfl,rfl,fin (common_nil (.inl hi))⟩
theorem w_refWithin (p q : List Int) (hp : p.length ≤ 1000000) : Pure Tryz.prog 134 [pathV p,pathV q] (fun x => x = .bool (within p q)):=by
 refine pure_wk (pure_fn 100 Tryz.func134 rfl rfl rfl fun B => ?_)
 show CallThen _ _ _ _ _ _
 refine call_pure (w_refCommon p q hp) rfl ?_
 rintro x rfl
 refine ⟨trivial,rfl,rfl,rfl,leaf_b ?_⟩
 rw [← common_within]
 simp
 omega
theorem w_refSame (p q : List Int) (hp : p.length ≤ 1000000) : Pure Tryz.prog 101 [pathV p,pathV q] (fun x => x = .bool (decide (p = q))):=by
 refine pure_wk (pure_fn 100 Tryz.func101 rfl rfl rfl fun B => ?_)
 refine ⟨fun g1 => go 100 ?_,fun g1 => go 100 ?_⟩
 ·have g1 : p.length = q.length:=by have:=eq_of g1;simp at this;omega
  show CallThen _ _ _ _ _ _
  refine call_pure (w_refCommon p q hp) rfl ?_
  rintro x rfl
  refine ⟨trivial,rfl,rfl,rfl,leaf_b ?_⟩
  rw [← common_same p q g1]
  simp
  omega
 ·have g1:=ne_of g1
  exact ⟨trivial,rfl,rfl,rfl,leaf_ff (decide_eq_false fun e => g1 (by rw [e]))⟩
theorem w_pathSame (p q : List Int) (hp : p.length ≤ 1000000) : Pure Tryz.prog 148 [pathV p,pathV q] (fun x => x = .bool (decide (p = q))):=by
 refine pure_fn 100 Tryz.func148 rfl rfl rfl fun B => ?_
 show CallThen _ _ _ _ _ _
 refine call_pure (w_EqualInt p q hp) rfl ?_
 rintro x rfl
 exact ⟨trivial,rfl,rfl,rfl,rfl⟩
theorem w_pathWithin (p q : List Int) (hp : p.length ≤ 1000000) : Pure Tryz.prog 120 [pathV p,pathV q] (fun x => x = .bool (within p q)):=by
 refine pure_wk (pure_fn 100 Tryz.func120 rfl rfl rfl fun B => ?_)
 refine ⟨fun g1 => go 100 ?_,fun g1 => go 100 ?_⟩
 ·have g1 : p.length ≤ q.length:=by have:=le_of g1;simp at this;omega
  refine ⟨by decide,by simp,by simpa using g1,?_⟩
  show CallThen _ _ _ _ _ _
  have e : V.sl 1 ((((q.map intV).drop (Int.toNat 0)).take (((p.map intV).length : Int).toNat - Int.toNat 0))) = pathV (q.take p.length):=by
   unfold pathV
   simp
  refine call_pure (Q:=fun x => x = .bool (decide (p = q.take p.length))) (by have h:=w_EqualInt p (q.take p.length) hp;unfold pathV at e;rw [← e] at h;exact h) rfl ?_
  rintro x rfl
  exact ⟨trivial,rfl,rfl,rfl,leaf_b rfl⟩
 ·have g1 : q.length < p.length:=by have:=not_le_of g1;simp at this;omega
  refine ⟨trivial,rfl,rfl,rfl,leaf_ff ?_⟩
  cases h : within p q with
  | false => rfl
  | true => have:=within_len h;omega
theorem pure_clone {P : Program} {f : FuncId} {sz : Nat} {xs : List V} (h : Fun P f [] [.sl sz xs] (CloneQ sz xs)) : Pure P f [.sl sz xs] (fun x => x = .sl sz xs):=by
 refine pure_wk (pure_of_fun (h.mono fun x T hx => ?_))
 rcases hx with ⟨e,rfl,rfl⟩ | ⟨rfl,rfl⟩
 ·subst e
  exact ⟨rfl,_,Wk.nil sz,rfl,rfl⟩
 ·exact ⟨rfl,rfl,rfl,_,Wk.refl _,rfl,rfl⟩
theorem w_Parent (p : List Int) (hp : p.length ≤ 1000000) (hne : p ≠ []) : Pure Tryz.prog 147 [pathV p] (fun x => x = .tup [pathV p.dropLast,intV (p.getLast hne),.tt]):=by
 have hpos : 0 < p.length:=List.length_pos_iff.2 hne
 refine pure_fn 100 Tryz.func147 rfl rfl rfl fun B => ?_
 refine ⟨fun g1 => go 100 ?_,fun g1 => go 100 ?_⟩
 ·have:=eq_of g1
  simp at this
  exact absurd this hne
 refine ⟨by constructor <;> simp <;> omega,?_⟩
 show Goes _ _ _ _
 have e : V.sl 1 ((((p.map intV).drop (Int.toNat 0)).take ((((p.map intV).length : Int) - 1).toNat - Int.toNat 0))) = .sl 1 (p.dropLast.map intV):=by
  rw [List.dropLast_eq_take,List.map_take]
  congr 2
  simp
 have hx : (p.map intV)[(((p.map intV).length : Int) - 1).toNat]? = some (intV (p.getLast hne)):=by
  rw [List.getElem?_map,List.getLast_eq_getElem]
  have : (((p.map intV).length : Int) - 1).toNat = p.length - 1:=by simp
  rw [this,List.getElem?_eq_getElem (by omega)]
  rfl
 refine goes_draw 100 ⟨by decide,by simp;omega,by omega,?_⟩
 have h:=pure_clone (w_CloneInt (p.dropLast.map intV) (by rw [List.length_map,List.length_dropLast];omega))
 rw [← e] at h
 refine ⟨_,h,rfl,?_⟩
 refine ⟨by simp only [List.length_map];omega,_,hx,?_⟩
 refine ⟨by kernel_rfl,?_⟩
 refine ⟨trivial,rfl,rfl,rfl,?_⟩
 rw [e]
 rfl
end Bow
/- W17: the node at a path. -/
namespace Bow
open Go Go.Proofs
theorem subs_le_weights : ∀ l : List Tree,l.length ≤ weights l
 | [] => by rw [weights];simp
 | s :: l => by
  have:=subs_le_weights l
  have:=weight_eq s
  rw [weights_cons,List.length_cons]
  omega
theorem subs_le_weight (t : Tree) : t.subs.length < t.weight:=by have:=weight_eq t;have:=subs_le_weights t.subs;omega
theorem subV_at {t s : Tree} {i : Nat} (h : t.subs[i]? = some s) : t.subV[i]? = some (nodeV s):=by rw [subV_eq,List.getElem?_map,h];rfl
theorem subV_len (t : Tree) : t.subV.length = t.subs.length:=by rw [subV_eq,List.length_map]
theorem wk_at0 : Wk (.tup [zeroV .nilsl,.ff]) (atV (zeroT []) none):=Wk.tup ⟨wk_zero (ss:=[]) (Wk.nil 6),.refl _,trivial⟩
set_option maxRecDepth 100000 in
theorem w_At (t : Tree) (p : List Int) (hp : p.length ≤ 1000000) : Pure Tryz.prog 118 [nodeV t,pathV p] (fun x => x = atV (zeroT []) (atT t p)):=by
 refine pure_wk (pure_fn 100 Tryz.func118 rfl rfl rfl fun B => ?_)
 show Goes _ _ _ _
 refine goes_iter (ι:=Nat × Tree) (fun i => i.1 ≤ p.length ∧ atT i.2 (p.drop i.1) = atT t p) (fun i => p.length - i.1) (fun i => [(10,.int .i64 i.1),(9,.int .i64 (p.map intV).length),(8,pathV p),(2,.ptr (.loc 0) 0),(4,.ptr (.loc 1) 0)]) (fun i => [some (.box (nodeV i.2).cells),some (.box (zeroV .nilsl).cells)]) (0,t) 100 (fun _ => rfl) (fun _ => rfl) ⟨⟨Nat.zero_le _,rfl⟩,?_,?_⟩ ?_
 ·exact ⟨⟨rfl,rfl⟩,⟨rfl,rfl⟩,⟨rfl,rfl⟩,⟨rfl,rfl⟩,⟨rfl,rfl⟩,trivial⟩
 ·exact ⟨⟨rfl,rfl⟩,⟨rfl,rfl⟩,trivial⟩
 rintro ⟨i,s⟩ ⟨k1,k2⟩ next
 simp only at k1 k2
 refine ⟨fun hlt => go 100 ?_,fun hge => go 100 ?_⟩
 ·have hi : i < p.length:=by simpa using hlt
  have hx : (p.map intV)[i]? = some (intV p[i]):=by simp [hi]
  rw [drop_cons hi,atT] at k2
  refine ⟨Int.natCast_nonneg i,_,hx,?_⟩
  refine ⟨fun g1 => go 100 ?_,fun g1 => go 100 ?_⟩
  ·have g1:=lt_of g1
   rw [subT_neg g1] at k2
   exact ⟨trivial,rfl,rfl,rfl,_,wk_at0,rfl,by rw [← k2]⟩
  have g1:=not_lt_of g1
  refine ⟨fun g2 => go 100 ?_,fun g2 => go 100 ?_⟩
  ·have g2:=le_of g2
   rw [subV_len] at g2
   rw [subT_big g2] at k2
   exact ⟨trivial,rfl,rfl,rfl,_,wk_at0,rfl,by rw [← k2]⟩
  ·have g2:=not_le_of g2
   rw [subV_len] at g2
   obtain ⟨u,hu,hv⟩:=subT_at g1 g2
   rw [hu] at k2
   refine ⟨g1,_,subV_at hv,?_⟩
   refine ⟨by constructor <;> omega,?_⟩
   exact next (i + 1,u) _ _ ⟨⟨hi,k2⟩,by simp only;omega,⟨⟨rfl,rfl⟩,⟨rfl,rfl⟩,⟨rfl,rfl⟩,⟨rfl,rfl⟩,⟨rfl,rfl⟩,trivial⟩,⟨⟨rfl,rfl⟩,⟨rfl,rfl⟩,trivial⟩⟩
 ·have hi : p.length ≤ i:=by simpa using hge
  rw [List.drop_eq_nil_of_le hi,atT] at k2
  exact ⟨trivial,rfl,rfl,rfl,_,.refl _,rfl,by rw [← k2];rfl⟩
set_option maxRecDepth 100000 in
theorem w_refAt (t : Tree) (p : List Int) (hp : p.length ≤ 1000000) : Pure Tryz.prog 92 [nodeV t,pathV p] (fun x => x = atV (zeroT []) (atT t p)):=by
 refine pure_wk (pure_fn 100 Tryz.func92 rfl rfl rfl fun B => ?_)
 show Goes _ _ _ _
 refine goes_iter (ι:=Nat × Tree) (fun i => i.1 ≤ p.length ∧ atT i.2 (p.drop i.1) = atT t p) (fun i => p.length - i.1) (fun i => [(6,.int .i64 i.1),(1,pathV p),(2,.ptr (.loc 0) 0),(4,.ptr (.loc 1) 0)]) (fun i => [some (.box (nodeV i.2).cells),some (.box (zeroV .nilsl).cells)]) (0,t) 100 (fun _ => rfl) (fun _ => rfl) ⟨⟨Nat.zero_le _,rfl⟩,?_,?_⟩ ?_
 ·exact ⟨⟨rfl,rfl⟩,⟨rfl,rfl⟩,⟨rfl,rfl⟩,⟨rfl,rfl⟩,trivial⟩
 ·exact ⟨⟨rfl,rfl⟩,⟨rfl,rfl⟩,trivial⟩
 rintro ⟨i,s⟩ ⟨k1,k2⟩ next
 simp only at k1 k2
 refine ⟨fun hlt => go 100 ?_,fun hge => go 100 ?_⟩
 ·have hi : i < p.length:=by simpa using hlt
  have hx : (p.map intV)[i]? = some (intV p[i]):=by simp [hi]
  rw [drop_cons hi,atT] at k2
  show Goes _ _ _ _
  refine goes_draw 100 ⟨Int.natCast_nonneg i,_,hx,⟨fun g1 => ?_,fun g1 => ?_⟩⟩
  ·have g1:=lt_of g1
   rw [subT_neg g1] at k2
   refine ⟨by kernel_rfl,?_⟩
   exact ⟨trivial,rfl,rfl,rfl,_,wk_at0,rfl,by rw [← k2]⟩
  have g1:=not_lt_of g1
  refine ⟨Int.natCast_nonneg i,_,hx,?_⟩
  refine ⟨by kernel_rfl,?_⟩
  refine ⟨fun g2 => go 100 ?_,fun g2 => go 100 ?_⟩
  ·have g2:=le_of g2
   rw [subV_len] at g2
   rw [subT_big g2] at k2
   exact ⟨trivial,rfl,rfl,rfl,_,wk_at0,rfl,by rw [← k2]⟩
  ·have g2:=not_le_of g2
   rw [subV_len] at g2
   obtain ⟨u,hu,hv⟩:=subT_at g1 g2
   rw [hu] at k2
   show Goes _ _ _ _
   refine goes_draw 100 ⟨Int.natCast_nonneg i,_,hx,g1,_,subV_at hv,?_⟩
   refine ⟨by kernel_rfl,?_⟩
   refine ⟨by constructor <;> omega,?_⟩
   exact next (i + 1,u) _ _ ⟨⟨hi,k2⟩,by simp only;omega,⟨⟨rfl,rfl⟩,⟨rfl,rfl⟩,⟨rfl,rfl⟩,⟨rfl,rfl⟩,trivial⟩,⟨⟨rfl,rfl⟩,⟨rfl,rfl⟩,trivial⟩⟩
 ·have hi : p.length ≤ i:=by simpa using hge
  rw [List.drop_eq_nil_of_le hi,atT] at k2
  exact ⟨trivial,rfl,rfl,rfl,_,.refl _,rfl,by rw [← k2];rfl⟩
theorem w_into (t : Tree) (at_ : Int) : Pure Tryz.prog 119 [nodeV t,intV at_] (fun x => x = .int .i64 (intoE t at_)):=by
 refine pure_fn 100 Tryz.func119 rfl rfl rfl fun B => ?_
 refine ⟨fun g1 => go 100 ?_,fun g1 => go 100 ?_⟩
 ·exact ⟨trivial,rfl,rfl,rfl,by unfold intoE;rw [g1];rfl⟩
 refine ⟨fun g2 => go 100 ?_,fun g2 => go 100 ?_⟩
 ·rw [subV_len] at g2
  exact ⟨trivial,rfl,rfl,rfl,by unfold intoE;rw [g1,g2];rfl⟩
 ·rw [subV_len] at g2
  exact ⟨trivial,rfl,rfl,rfl,by unfold intoE;rw [g1,g2];rfl⟩
theorem w_refInto (t : Tree) (at_ : Int) : Pure Tryz.prog 133 [nodeV t,intV at_] (fun x => x = .int .i64 (intoE t at_)):=by
 refine pure_fn 100 Tryz.func133 rfl rfl rfl fun B => ?_
 refine ⟨fun g1 => go 100 ?_,fun g1 => go 100 ?_⟩
 ·exact ⟨trivial,rfl,rfl,rfl,by unfold intoE;rw [g1];rfl⟩
 refine ⟨fun g2 => go 100 ?_,fun g2 => go 100 ?_⟩
 ·rw [subV_len] at g2
  exact ⟨trivial,rfl,rfl,rfl,by unfold intoE;rw [g1,g2];rfl⟩
 ·rw [subV_len] at g2
  exact ⟨trivial,rfl,rfl,rfl,by unfold intoE;rw [g1,g2];rfl⟩
end Bow
/- W18: changes of the node at a path: printed by gen_w18.py. -/
namespace Bow
open Go Go.Proofs
theorem subV_set (t : Tree) (i : Nat) (s : Tree) : t.subV.set i (nodeV s) = (t.subs.set i s).map nodeV:=by rw [subV_eq,List.map_set]
set_option maxRecDepth 100000 in
theorem w_change1 (g : FuncId) (c1 : List V) (F : Tree → Tree) (y : Tree)
  (hg : Fun Tryz.prog g [some (.box (nodeV y).cells)] [.ptr (.loc 0) 0,.iptr c1 0] (fun _ T => T = [some (.box (nodeV (F y)).cells)])) :
  ∀ (p : List Int) (t : Tree),p.length ≤ 1000000 → t.weight ≤ 1000000 → atT t p = some y → Pure Tryz.prog 125 [nodeV t,pathV p,.fn (.func g) [] [.iptr c1 0]] (fun x => x = nodeV (changeT F t p))
 | [],t,hp,ht,hy => by
  rw [atT] at hy
  injection hy with hy
  subst hy
  refine pure_fn 100 Tryz.func125 rfl rfl rfl fun B => ?_
  refine ⟨fun g1 => go 100 ?_,fun g1 => ?_⟩
  case refine_2 => exact absurd rfl (ne_of g1)
  show CallThen _ _ _ _ _ _
  refine call_sub [0] hg rfl rfl ⟨⟨rfl,rfl⟩,trivial⟩ rfl rfl rfl ?_
  rintro x T1 rfl
  refine ⟨rfl,?_⟩
  exact ⟨trivial,rfl,rfl,rfl,rfl⟩
 | i :: p,t,hp,ht,hy => by
  rw [atT] at hy
  cases hs : subT t i with
  | none => rw [hs] at hy;cases hy
  | some s =>
  rw [hs] at hy
  simp only at hy
  obtain ⟨hi0,hat,hmem⟩:=subT_some hs
  have hlt:=lt_of_get hat
  have hw:=weight_sub hmem
  have hsl:=subs_le_weight t
  have ih:=w_change1 g c1 F y hg p s (by simp at hp;omega) (by omega) hy
  refine pure_fn 100 Tryz.func125 rfl rfl rfl fun B => ?_
  refine ⟨fun g1 => ?_,fun g1 => go 100 ?_⟩
  ·have:=eq_of g1
   simp at this
   omega
  show CallThen _ _ _ _ _ _
  refine call_sub [] (w_CloneNode t.subV (by rw [subV_len];omega)) rfl rfl trivial rfl rfl rfl ?_
  rintro x T1 (⟨e,_⟩ | ⟨rfl,rfl⟩)
  ·have:=congrArg List.length e
   rw [subV_len,List.length_nil] at this
   omega
  refine ⟨rfl,?_⟩
  show Goes _ _ _ _
  have hx : t.subV[0 + i.toNat]? = some (nodeV s):=by rw [Nat.zero_add];exact subV_at hat
  have hil : i < (t.subV.length : Int):=by rw [subV_len];omega
  have e : V.sl 1 ((((i :: p).map intV).drop (Int.toNat 1)).take (((((i :: p).map intV).length : Nat) : Int).toNat - Int.toNat 1)) = pathV p:=by
   unfold pathV
   rw [List.take_of_length_le (by simp)]
   rfl
  refine goes_draw 100 ⟨by decide,_,rfl,by decide,_,rfl,rfl,hi0,hil,rfl,_,hx,by decide,by simp;omega,by omega,nodeV (changeT F s p),?_,rfl,rfl,hi0,hil,rfl,_,hx,?_⟩
  ·unfold pathV at e ih
   rw [e]
   exact ih
  refine ⟨by kernel_rfl,?_⟩
  refine ⟨trivial,rfl,rfl,rfl,(by simp),rfl,?_⟩
  rw [changeT,hs]
  simp only
  rw [withSubs_V,← subV_set,Nat.zero_add]
  rfl
set_option maxRecDepth 100000 in
theorem w_change2 (g : FuncId) (c1 c2 : List V) (F : Tree → Tree) (y : Tree)
  (hg : Fun Tryz.prog g [some (.box (nodeV y).cells)] [.ptr (.loc 0) 0,.iptr c1 0,.iptr c2 0] (fun _ T => T = [some (.box (nodeV (F y)).cells)])) :
  ∀ (p : List Int) (t : Tree),p.length ≤ 1000000 → t.weight ≤ 1000000 → atT t p = some y → Pure Tryz.prog 125 [nodeV t,pathV p,.fn (.func g) [] [.iptr c1 0,.iptr c2 0]] (fun x => x = nodeV (changeT F t p))
 | [],t,hp,ht,hy => by
  rw [atT] at hy
  injection hy with hy
  subst hy
  refine pure_fn 100 Tryz.func125 rfl rfl rfl fun B => ?_
  refine ⟨fun g1 => go 100 ?_,fun g1 => ?_⟩
  case refine_2 => exact absurd rfl (ne_of g1)
  show CallThen _ _ _ _ _ _
  refine call_sub [0] hg rfl rfl ⟨⟨rfl,rfl⟩,trivial⟩ rfl rfl rfl ?_
  rintro x T1 rfl
  refine ⟨rfl,?_⟩
  exact ⟨trivial,rfl,rfl,rfl,rfl⟩
 | i :: p,t,hp,ht,hy => by
  rw [atT] at hy
  cases hs : subT t i with
  | none => rw [hs] at hy;cases hy
  | some s =>
  rw [hs] at hy
  simp only at hy
  obtain ⟨hi0,hat,hmem⟩:=subT_some hs
  have hlt:=lt_of_get hat
  have hw:=weight_sub hmem
  have hsl:=subs_le_weight t
  have ih:=w_change2 g c1 c2 F y hg p s (by simp at hp;omega) (by omega) hy
  refine pure_fn 100 Tryz.func125 rfl rfl rfl fun B => ?_
  refine ⟨fun g1 => ?_,fun g1 => go 100 ?_⟩
  ·have:=eq_of g1
   simp at this
   omega
  show CallThen _ _ _ _ _ _
  refine call_sub [] (w_CloneNode t.subV (by rw [subV_len];omega)) rfl rfl trivial rfl rfl rfl ?_
  rintro x T1 (⟨e,_⟩ | ⟨rfl,rfl⟩)
  ·have:=congrArg List.length e
   rw [subV_len,List.length_nil] at this
   omega
  refine ⟨rfl,?_⟩
  show Goes _ _ _ _
  have hx : t.subV[0 + i.toNat]? = some (nodeV s):=by rw [Nat.zero_add];exact subV_at hat
  have hil : i < (t.subV.length : Int):=by rw [subV_len];omega
  have e : V.sl 1 ((((i :: p).map intV).drop (Int.toNat 1)).take (((((i :: p).map intV).length : Nat) : Int).toNat - Int.toNat 1)) = pathV p:=by
   unfold pathV
   rw [List.take_of_length_le (by simp)]
   rfl
  refine goes_draw 100 ⟨by decide,_,rfl,by decide,_,rfl,rfl,hi0,hil,rfl,_,hx,by decide,by simp;omega,by omega,nodeV (changeT F s p),?_,rfl,rfl,hi0,hil,rfl,_,hx,?_⟩
  ·unfold pathV at e ih
   rw [e]
   exact ih
  refine ⟨by kernel_rfl,?_⟩
  refine ⟨trivial,rfl,rfl,rfl,(by simp),rfl,?_⟩
  rw [changeT,hs]
  simp only
  rw [withSubs_V,← subV_set,Nat.zero_add]
  rfl
end Bow
/- W19: nodes put in and taken out. -/
namespace Bow
open Go Go.Proofs
set_option maxRecDepth 100000 in
theorem w_insert1 (x y : Tree) (n : Int) (h0 : 0 ≤ n) (h1 : n ≤ y.subs.length) (hl : y.subs.length ≤ 900000) : Fun Tryz.prog 161 [some (.box (nodeV y).cells)] [.ptr (.loc 0) 0,.iptr [intV n] 0,.iptr (nodeV x).cells 0] (fun _ T => T = [some (.box (nodeV (insT n x y)).cells)]):=by
 refine fun_keep 1 rfl (fun_fn 100 Tryz.func161 rfl rfl rfl fun imps B hi => ?_)
 obtain ⟨r,rfl⟩:=List.length_eq_one_iff.1 hi
 show Goes _ _ _ _
 have hnl : n ≤ (y.subV.length : Int):=by rw [subV_len];exact h1
 have hc:=w_ConcatNode [(y.subV.drop (Int.toNat 0)).take (n.toNat - Int.toNat 0),[nodeV x],(y.subV.drop n.toNat).take ((y.subV.length : Int).toNat - n.toNat)] (by
  simp [subV_len];omega) (by simp)
 refine goes_draw 100 ⟨by decide,h0,hnl,?_⟩
 refine ⟨by kernel_rfl,⟨rfl,trivial⟩,rfl,h0,hnl,Int.le_refl _,?_⟩
 refine ⟨by kernel_rfl,rfl,rfl,⟨rfl,rfl,rfl,trivial⟩,rfl,rfl,rfl,_,hc,rfl,?_⟩
 refine ⟨by kernel_rfl,?_⟩
 refine ⟨trivial,rfl,rfl,[some (.box [.int .u64 y.id,.bool y.leaf,.str y.label,.sl 2 (y.attrs.map attrV),.str y.text,.sl 6 [(y.subV.drop (Int.toNat 0)).take (n.toNat - Int.toNat 0),[nodeV x],(y.subV.drop n.toNat).take ((y.subV.length : Int).toNat - n.toNat)].flatten])],rfl,rfl,⟨⟨rfl,rfl⟩,trivial⟩,?_⟩
 have e : [(y.subV.drop (Int.toNat 0)).take (n.toNat - Int.toNat 0),[nodeV x],(y.subV.drop n.toNat).take ((y.subV.length : Int).toNat - n.toNat)].flatten = (y.subs.take n.toNat ++ x :: y.subs.drop n.toNat).map nodeV:=by
  rw [subV_eq]
  simp [List.map_take,List.map_drop]
  rw [List.take_of_length_le (by simp)]
 rw [e,insT,withSubs_V]
 rfl
set_option maxRecDepth 100000 in
theorem w_remove1 (y : Tree) (n : Int) (h0 : 0 ≤ n) (h1 : n < y.subs.length) (hl : y.subs.length ≤ 900000) : Fun Tryz.prog 163 [some (.box (nodeV y).cells)] [.ptr (.loc 0) 0,.iptr [intV n] 0] (fun _ T => T = [some (.box (nodeV (delT n y)).cells)]):=by
 refine fun_keep 1 rfl (fun_fn 100 Tryz.func163 rfl rfl rfl fun imps B hi => ?_)
 obtain ⟨r,rfl⟩:=List.length_eq_one_iff.1 hi
 show Goes _ _ _ _
 have hnl : n ≤ (y.subV.length : Int):=by rw [subV_len];omega
 have hnl' : n + 1 ≤ (y.subV.length : Int):=by rw [subV_len];omega
 have hc:=w_ConcatNode [(y.subV.drop (Int.toNat 0)).take (n.toNat - Int.toNat 0),(y.subV.drop (n + 1).toNat).take ((y.subV.length : Int).toNat - (n + 1).toNat)] (by
  simp [subV_len];omega) (by simp)
 refine goes_draw 100 ⟨by decide,h0,hnl,?_⟩
 refine ⟨⟨by omega,by omega⟩,by omega,hnl',Int.le_refl _,?_⟩
 refine ⟨by kernel_rfl,⟨rfl,rfl,trivial⟩,rfl,rfl,rfl,_,hc,rfl,?_⟩
 refine ⟨by kernel_rfl,?_⟩
 refine ⟨trivial,rfl,rfl,[some (.box [.int .u64 y.id,.bool y.leaf,.str y.label,.sl 2 (y.attrs.map attrV),.str y.text,.sl 6 [(y.subV.drop (Int.toNat 0)).take (n.toNat - Int.toNat 0),(y.subV.drop (n + 1).toNat).take ((y.subV.length : Int).toNat - (n + 1).toNat)].flatten])],rfl,rfl,⟨⟨rfl,rfl⟩,trivial⟩,?_⟩
 have e : [(y.subV.drop (Int.toNat 0)).take (n.toNat - Int.toNat 0),(y.subV.drop (n + 1).toNat).take ((y.subV.length : Int).toNat - (n + 1).toNat)].flatten = (y.subs.take n.toNat ++ y.subs.drop (n.toNat + 1)).map nodeV:=by
  have e1 : (n + 1).toNat = n.toNat + 1:=by omega
  rw [subV_eq,e1]
  simp [List.map_take,List.map_drop]
  rw [List.take_of_length_le (by simp)]
 rw [e,delT,withSubs_V]
 rfl
set_option maxRecDepth 100000 in
theorem w_insert (t x y : Tree) (p : List Int) (n : Int) (hp : p.length ≤ 1000000) (ht : t.weight ≤ 900000) (hy : atT t p = some y) (h0 : 0 ≤ n) (h1 : n ≤ y.subs.length) :
  Pure Tryz.prog 122 [nodeV t,pathV p,intV n,nodeV x] (fun z => z = nodeV (changeT (insT n x) t p)):=by
 have hyw:=atT_weight hy
 have hys:=subs_le_weight y
 refine pure_fn 100 Tryz.func122 rfl rfl rfl fun B => ?_
 show CallThen _ _ _ _ _ _
 refine call_freeze 1 rfl rfl ?_
 refine call_freeze 2 rfl rfl ?_
 refine call_pure (w_change2 161 [intV n] (nodeV x).cells (insT n x) y (w_insert1 x y n h0 h1 (by omega)) p t hp (by omega) hy) rfl ?_
 rintro z rfl
 exact ⟨trivial,rfl,rfl,rfl,rfl⟩
set_option maxRecDepth 100000 in
theorem w_remove (t y : Tree) (p : List Int) (hp : p.length ≤ 1000000) (hne : p ≠ []) (ht : t.weight ≤ 900000) (hy : atT t p.dropLast = some y) (h0 : 0 ≤ p.getLast hne) (h1 : p.getLast hne < y.subs.length) :
  Pure Tryz.prog 123 [nodeV t,pathV p] (fun z => z = nodeV (changeT (delT (p.getLast hne)) t p.dropLast)):=by
 have hyw:=atT_weight hy
 have hys:=subs_le_weight y
 refine pure_fn 100 Tryz.func123 rfl rfl rfl fun B => ?_
 show CallThen _ _ _ _ _ _
 refine call_pure (w_Parent p hp hne) rfl ?_
 rintro z rfl
 show CallThen _ _ _ _ _ _
 refine call_freeze 2 rfl rfl ?_
 refine call_pure (w_change1 163 [intV (p.getLast hne)] (delT (p.getLast hne)) y (w_remove1 y _ h0 h1 (by omega)) p.dropLast t (by simp;omega) (by omega) hy) rfl ?_
 rintro z rfl
 exact ⟨trivial,rfl,rfl,rfl,rfl⟩
end Bow
/- W20: where a moved node lands. -/
namespace Bow
open Go Go.Proofs
def landV (r : List Int × Int) : V:=.tup [pathV r.1,intV r.2]
set_option maxRecDepth 100000 in
theorem w_landing (p to : List Int) (n : Int) (hp : p.length ≤ 1000000) (ht : to.length ≤ 1000000) (hne : p ≠ []) (hn : inI n) (hr : ∀ x ∈ to,inI x) (h0 : 0 ≤ p.getLast hne) :
  Pure Tryz.prog 124 [pathV p,pathV to,intV n] (fun z => z = landV (landT p.dropLast (p.getLast hne) to n)):=by
 obtain ⟨hn1,hn2⟩:=hn
 have hq : p.dropLast.length ≤ 1000000:=by simp;omega
 refine pure_fn 100 Tryz.func124 rfl rfl rfl fun B => ?_
 show CallThen _ _ _ _ _ _
 refine call_pure (w_Parent p hp hne) rfl ?_
 rintro z rfl
 show CallThen _ _ _ _ _ _
 refine call_pure (w_pathSame p.dropLast to hq) rfl ?_
 rintro z rfl
 have other : (decide (p.dropLast = to) && decide (p.getLast hne < n)) = false → landT p.dropLast (p.getLast hne) to n = bif within p.dropLast to && (decide (p.dropLast.length < to.length) && decide (p.getLast hne < to.getD p.dropLast.length 0)) then (to.set p.dropLast.length (to.getD p.dropLast.length 0 - 1),n) else (to,n):=fun h => by
  unfold landT
  rw [h]
  rfl
 have hlen : ((p.dropLast.map intV).length : Int) = (p.dropLast.length : Int):=by simp
 refine ⟨fun g1 => go 100 ⟨fun g2 => go 100 ?_,fun g2 => ?_⟩,fun g1 => ?_⟩
 ·have g2':=lt_of g2
  refine ⟨by constructor <;> omega,?_⟩
  refine ⟨trivial,rfl,rfl,rfl,?_⟩
  unfold landT
  rw [g1,g2]
  rfl
 case refine_2 =>
  replace other:=other (by rw [g1,g2];rfl)
  refine go 100 ?_
  show CallThen _ _ _ _ _ _
  refine call_pure (w_pathWithin p.dropLast to hq) rfl ?_
  rintro z rfl
  refine ⟨fun g3 => go 100 ⟨fun g4 => go 100 ?_,fun g4 => go 100 ?_⟩,fun g3 => go 100 ?_⟩
  ·have g4':=lt_of g4
   rw [hlen] at g4'
   simp only [List.length_map] at g4'
   have g4l : p.dropLast.length < to.length:=by omega
   have hx : (to.map intV)[(((p.dropLast.map intV).length : Nat) : Int).toNat]? = some (intV (to.getD p.dropLast.length 0)):=by
    have e : (((p.dropLast.map intV).length : Nat) : Int).toNat = p.dropLast.length:=by simp
    rw [e,List.getElem?_map,List.getElem?_eq_getElem g4l,List.getD_eq_getElem?_getD,List.getElem?_eq_getElem g4l]
    rfl
   refine ⟨Int.natCast_nonneg _,_,hx,?_⟩
   refine ⟨fun g5 => go 100 ?_,fun g5 => go 100 ?_⟩
   ·show CallThen _ _ _ _ _ _
    refine call_sub [] (w_CloneInt (to.map intV) (by simpa using ht)) rfl rfl trivial rfl rfl rfl ?_
    rintro z T1 (⟨e,_⟩ | ⟨rfl,rfl⟩)
    ·have:=congrArg List.length e
     simp at this
     subst this
     simp at g4l
    refine ⟨rfl,?_⟩
    have hx' : (to.map intV)[0 + (((p.dropLast.map intV).length : Nat) : Int).toNat]? = some (intV (to.getD p.dropLast.length 0)):=by rw [Nat.zero_add];exact hx
    have hlt : (((p.dropLast.map intV).length : Nat) : Int) < ((to.map intV).length : Nat):=by simp;simp at g4l;omega
    have hr':=hr (to.getD p.dropLast.length 0) (by rw [List.getD_eq_getElem?_getD,List.getElem?_eq_getElem g4l];exact List.getElem_mem g4l)
    have g5':=lt_of g5
    obtain ⟨r1,r2⟩:=hr'
    refine ⟨rfl,Int.natCast_nonneg _,hlt,rfl,_,hx',⟨by omega,by omega⟩,rfl,Int.natCast_nonneg _,hlt,rfl,_,hx',?_⟩
    refine ⟨trivial,rfl,rfl,rfl,by simp,rfl,?_⟩
    rw [other]
    rw [g3,decide_eq_true g4l,g5]
    have e : 0 + (((p.dropLast.map intV).length : Nat) : Int).toNat = p.dropLast.length:=by simp
    show V.tup [V.sl 1 (((to.map intV)).set _ (intV (to.getD p.dropLast.length 0 - 1))),intV n] = landV (to.set p.dropLast.length (to.getD p.dropLast.length 0 - 1),n)
    rw [e,← List.map_set]
    rfl
   ·refine ⟨trivial,rfl,rfl,rfl,?_⟩
    rw [other,g3,decide_eq_true g4l,g5]
    rfl
  ·refine ⟨trivial,rfl,rfl,rfl,?_⟩
   have g4':=not_lt_of g4
   rw [hlen] at g4'
   simp only [List.length_map] at g4'
   have g4l : ¬ p.dropLast.length < to.length:=by omega
   rw [other,g3,decide_eq_false g4l]
   rfl
  ·refine ⟨trivial,rfl,rfl,rfl,?_⟩
   rw [other,g3]
   rfl
 case refine_3 =>
  replace other:=other (by rw [g1];rfl)
  refine go 100 ?_
  show CallThen _ _ _ _ _ _
  refine call_pure (w_pathWithin p.dropLast to hq) rfl ?_
  rintro z rfl
  refine ⟨fun g3 => go 100 ⟨fun g4 => go 100 ?_,fun g4 => go 100 ?_⟩,fun g3 => go 100 ?_⟩
  ·have g4':=lt_of g4
   rw [hlen] at g4'
   simp only [List.length_map] at g4'
   have g4l : p.dropLast.length < to.length:=by omega
   have hx : (to.map intV)[(((p.dropLast.map intV).length : Nat) : Int).toNat]? = some (intV (to.getD p.dropLast.length 0)):=by
    have e : (((p.dropLast.map intV).length : Nat) : Int).toNat = p.dropLast.length:=by simp
    rw [e,List.getElem?_map,List.getElem?_eq_getElem g4l,List.getD_eq_getElem?_getD,List.getElem?_eq_getElem g4l]
    rfl
   refine ⟨Int.natCast_nonneg _,_,hx,?_⟩
   refine ⟨fun g5 => go 100 ?_,fun g5 => go 100 ?_⟩
   ·show CallThen _ _ _ _ _ _
    refine call_sub [] (w_CloneInt (to.map intV) (by simpa using ht)) rfl rfl trivial rfl rfl rfl ?_
    rintro z T1 (⟨e,_⟩ | ⟨rfl,rfl⟩)
    ·have:=congrArg List.length e
     simp at this
     subst this
     simp at g4l
    refine ⟨rfl,?_⟩
    have hx' : (to.map intV)[0 + (((p.dropLast.map intV).length : Nat) : Int).toNat]? = some (intV (to.getD p.dropLast.length 0)):=by rw [Nat.zero_add];exact hx
    have hlt : (((p.dropLast.map intV).length : Nat) : Int) < ((to.map intV).length : Nat):=by simp;simp at g4l;omega
    have hr':=hr (to.getD p.dropLast.length 0) (by rw [List.getD_eq_getElem?_getD,List.getElem?_eq_getElem g4l];exact List.getElem_mem g4l)
    have g5':=lt_of g5
    obtain ⟨r1,r2⟩:=hr'
    refine ⟨rfl,Int.natCast_nonneg _,hlt,rfl,_,hx',⟨by omega,by omega⟩,rfl,Int.natCast_nonneg _,hlt,rfl,_,hx',?_⟩
    refine ⟨trivial,rfl,rfl,rfl,by simp,rfl,?_⟩
    rw [other]
    rw [g3,decide_eq_true g4l,g5]
    have e : 0 + (((p.dropLast.map intV).length : Nat) : Int).toNat = p.dropLast.length:=by simp
    show V.tup [V.sl 1 (((to.map intV)).set _ (intV (to.getD p.dropLast.length 0 - 1))),intV n] = landV (to.set p.dropLast.length (to.getD p.dropLast.length 0 - 1),n)
    rw [e,← List.map_set]
    rfl
   ·refine ⟨trivial,rfl,rfl,rfl,?_⟩
    rw [other,g3,decide_eq_true g4l,g5]
    rfl
  ·refine ⟨trivial,rfl,rfl,rfl,?_⟩
   have g4':=not_lt_of g4
   rw [hlen] at g4'
   simp only [List.length_map] at g4'
   have g4l : ¬ p.dropLast.length < to.length:=by omega
   rw [other,g3,decide_eq_false g4l]
   rfl
  ·refine ⟨trivial,rfl,rfl,rfl,?_⟩
   rw [other,g3]
   rfl
end Bow
/- W21: right trees. -/
namespace Bow
open Go Go.Proofs
set_option maxRecDepth 100000 in
theorem w_rightN (t : Tree) (h : t.weight ≤ 1000000) : Pure Tryz.prog 82 [nodeV t] (fun x => x = .bool (rightN t)) := by
  have hw := weight_eq t
  refine pure_wk (pure_fn 300 Tryz.func82 rfl rfl rfl fun B => ?_)
  repeat' first
    | (refine ⟨fun _ => go 300 ?_, fun _ => go 300 ?_⟩)
    | (refine ⟨trivial, rfl, rfl, rfl, leaf_ff ?_⟩)
    | (show Goes _ _ _ _
       suffices hr : rightN t = attrsOk none t.attrs by
         refine goes_iter (ι := Nat) (fun i => i ≤ t.attrs.length ∧ attrsOk (prevK t.attrs i) (t.attrs.drop i) = rightN t) (fun i => t.attrs.length - i) (fun i => [(32, .int .i64 i), (31, .int .i64 (t.attrs.map attrV).length), (30, .sl 2 (t.attrs.map attrV)), (1, .ptr (.loc 0) 0)]) (fun i => [some (.box (nodeV t).cells)]) 0 300 (fun _ => rfl) (fun _ => rfl) ⟨⟨Nat.zero_le _, hr.symm⟩, ⟨⟨rfl, rfl⟩, ⟨rfl, rfl⟩, ⟨rfl, rfl⟩, ⟨rfl, rfl⟩, trivial⟩, ⟨⟨rfl, rfl⟩, trivial⟩⟩ ?_
         rintro i ⟨k1, k2⟩ next
         refine ⟨fun hlt => go 300 ?_, fun hge => go 300 ?_⟩
         · have hi : i < t.attrs.length := by simpa using hlt
           have hx : (t.attrs.map attrV)[i]? = some (attrV t.attrs[i]) := by simp [hi]
           rw [attrs_at hi] at k2
           unfold attrOk at k2
           have cont : keyOk t.attrs[i].1 = true → decide ((t.attrs[i].2.length : Int) ≤ 256) = true → ordOk (prevK t.attrs i) t.attrs[i].1 = true → attrsOk (prevK t.attrs (i + 1)) (t.attrs.drop (i + 1)) = rightN t := fun a b c => by rw [a, b, c] at k2; simpa using k2
           have stop1 : keyOk t.attrs[i].1 = false → rightN t = false := fun a => by rw [← k2, a]; rfl
           have stop2 : decide ((t.attrs[i].2.length : Int) ≤ 256) = false → rightN t = false := fun a => by rw [← k2, a]; simp
           have stop3 : ordOk (prevK t.attrs i) t.attrs[i].1 = false → rightN t = false := fun a => by rw [← k2, a]; simp
           refine ⟨Int.natCast_nonneg i, _, hx, ?_⟩
           show Goes _ _ _ _
           refine goes_draw 300 ⟨_, w_Key t.attrs[i].1, rfl, ⟨fun q1 => ?_, fun q1 => ⟨fun q2 => ?_, fun q2 => ⟨fun q3 => ?_, fun q3 => ?_⟩⟩⟩⟩
           · refine ⟨by kernel_rfl, ?_⟩
             exact ⟨trivial, rfl, rfl, rfl, leaf_ff (stop1 (by simpa using q1))⟩
           · refine ⟨by kernel_rfl, ?_⟩
             exact ⟨trivial, rfl, rfl, rfl, leaf_ff (stop2 (by have := lt_of q2; simp; omega))⟩
           · have q3' : 0 < i := by have := lt_of q3; omega
             have hx' : (t.attrs.map attrV)[((i : Int) - 1).toNat]? = some (attrV t.attrs[i - 1]) := by
               have : ((i : Int) - 1).toNat = i - 1 := by omega
               rw [this]
               simp [show i - 1 < t.attrs.length by omega]
             have hp : prevK t.attrs i = some t.attrs[i - 1].1 := by
               obtain ⟨j, rfl⟩ : ∃ j, i = j + 1 := ⟨i - 1, by omega⟩
               rw [prevK, List.getD_eq_getElem?_getD, List.getElem?_eq_getElem (by omega)]
               rfl
             rw [hp] at cont stop3
             refine ⟨⟨by omega, by omega⟩, by omega, _, hx', ?_⟩
             refine ⟨by kernel_rfl, ?_⟩
             refine ⟨fun q4 => go 300 ?_, fun q4 => go 300 ?_⟩
             · exact ⟨trivial, rfl, rfl, rfl, leaf_ff (stop3 (congrArg Bool.not q4))⟩
             · refine ⟨by constructor <;> omega, ?_⟩
               exact next (i + 1) _ _ ⟨⟨hi, cont (by simpa using q1) (by have := not_lt_of q2; simp; omega) (congrArg Bool.not q4)⟩, by omega, ⟨⟨rfl, rfl⟩, ⟨rfl, rfl⟩, ⟨rfl, rfl⟩, ⟨rfl, rfl⟩, trivial⟩, ⟨⟨rfl, rfl⟩, trivial⟩⟩
           · have q3' : i = 0 := by have := not_lt_of q3; omega
             subst q3'
             refine ⟨by kernel_rfl, ?_⟩
             refine ⟨by constructor <;> omega, ?_⟩
             exact next 1 _ _ ⟨⟨hi, cont (by simpa using q1) (by have := not_lt_of q2; simp; omega) rfl⟩, by omega, ⟨⟨rfl, rfl⟩, ⟨rfl, rfl⟩, ⟨rfl, rfl⟩, ⟨rfl, rfl⟩, trivial⟩, ⟨⟨rfl, rfl⟩, trivial⟩⟩
         · have hi : i = t.attrs.length := by have : t.attrs.length ≤ i := by simpa using hge
                                              omega
           subst hi
           rw [List.drop_eq_nil_of_le (Nat.le_refl _), attrsOk] at k2
           exact ⟨trivial, rfl, rfl, rfl, leaf_tt k2.symm⟩)
    | fail
  all_goals (simp_all [rightN, headOk, subV_eq])
def rightUpd (_ : Unit) (p : Int × Tree) : Unit × Option Code := bif rightN p.2 then ((), none) else ((), some .ret)
theorem rightUpd_all : ∀ l : List (Int × Tree), rfold rightUpd () l = bif l.all (fun p => rightN p.2) then ((), none) else ((), some .ret)
  | [] => rfl
  | p :: l => by
    rw [rfold, List.all_cons]
    cases h : rightN p.2 with
    | false => simp [rightUpd, h]
    | true =>
      simp only [rightUpd, h, cond_true, Bool.true_and]
      exact rightUpd_all l
set_option maxRecDepth 100000 in
theorem w_RightT (t : Tree) (h : t.weight ≤ 1000000) : Pure Tryz.prog 50 [nodeV t] (fun x => x = .bool (rightT t)) := by
  have hs := size_le_weight t
  refine pure_wk (pure_fn 100 Tryz.func50 rfl rfl rfl fun B => ?_)
  refine ⟨fun g1 => go 100 ?_, fun g1 => go 100 ?_⟩
  · exact ⟨trivial, rfl, rfl, rfl, leaf_ff (by unfold rightT; rw [g1]; rfl)⟩
  show CallThen _ _ _ _ _ _
  refine call_pure (w_nodes t) rfl ?_
  rintro x rfl
  show Goes _ _ _ _
  refine goes_range (σ := Unit) 100 2 (fun _ => [some (.box (nodeV t).cells), some (.box [.ff])]) rightUpd preV (fun _ l => ∀ p ∈ l, p.2.weight ≤ 1000000) () (t.pre 0) rfl rfl rfl (w_iter t (by omega)) rfl (fun _ => rfl) (fun _ => rfl) (fun _ => rfl) rfl (fun _ => rfl) (fun _ _ h => by cases h) ?_ ?_ ?_
  · exact fun p hp => Nat.le_trans (pre_mem_weight t 0 p hp).1 h
  · intro s a l hI
    refine ⟨fun _ p hp => hI p (List.mem_cons_of_mem _ hp), fun imps B r l h1 h2 => ?_⟩
    have h0 := hI a List.mem_cons_self
    have hr := w_rightN a.2 h0
    show Goes _ _ _ _
    refine goes_beginRound 100 rfl h2 rfl ?_
    show CallThen _ _ _ _ _ _
    refine call_pure hr rfl ?_
    rintro x rfl
    unfold rightUpd
    refine ⟨fun g => go 100 ?_, fun g => go 100 ?_⟩
    · have g : rightN a.2 = false := by simpa using g
      rw [g]
      exact ⟨rfl, rfl, trivial, ⟨rfl, rfl⟩, ⟨rfl, rfl⟩, ⟨rfl, rfl⟩, ⟨rfl, rfl⟩, trivial⟩
    · have g : rightN a.2 = true := by simpa using g
      rw [g]
      exact ⟨rfl, rfl, trivial, ⟨rfl, rfl⟩, ⟨rfl, rfl⟩, ⟨rfl, rfl⟩, ⟨rfl, rfl⟩, trivial⟩
  · rw [rightUpd_all, pre_right]
    cases hr : t.rightA with
    | true => exact ⟨trivial, rfl, rfl, rfl, leaf_tt (by unfold rightT; rw [g1, hr]; rfl)⟩
    | false => exact ⟨trivial, rfl, rfl, rfl, leaf_ff (by unfold rightT; rw [g1, hr]; rfl)⟩
end Bow
/- W22: right trees, in the document's words. -/
namespace Bow
open Go Go.Proofs
theorem rightsA_at {l : List Tree} {i : Nat} (hi : i < l.length) : rightsA (l.drop i) = (l[i].rightA && rightsA (l.drop (i + 1))) := by rw [List.drop_eq_getElem_cons hi, rightsA]
set_option maxRecDepth 100000 in
theorem w_refRightA (t : Tree) : t.weight ≤ 1000000 → Pure Tryz.prog 79 [nodeV t] (fun x => x = .bool t.rightA) := by
  induction t using Tree.ind with
  | _ t ih =>
  intro h
  have hw := weight_eq t
  refine pure_wk (pure_fn 300 Tryz.func79 rfl rfl rfl fun B => ?_)
  have hA := rightA_eq t
  have no : rightN t = false → t.rightA = false := fun e => by rw [hA, e]; rfl
  repeat' first
    | (refine ⟨fun _ => go 300 ?_, fun _ => go 300 ?_⟩)
    | (refine ⟨trivial, rfl, rfl, rfl, leaf_ff ?_⟩)
    | (show Goes _ _ _ _
       suffices hr : rightN t = attrsOk none t.attrs by
         refine goes_while (ι := Nat) (fun i => i ≤ t.attrs.length ∧ attrsOk (prevK t.attrs i) (t.attrs.drop i) = rightN t) (fun i => t.attrs.length - i) (fun i => [(3, .int .i64 i), (1, .ptr (.loc 0) 0)]) (fun i => [some (.box (nodeV t).cells)]) 0
           (fun _ : Unit => rightN t = true) (fun _ => [(1, .ptr (.loc 0) 0)]) (fun _ => [some (.box (nodeV t).cells)]) 300 (fun _ => rfl) (fun _ => rfl) (fun _ => rfl) (fun _ => rfl) ⟨⟨Nat.zero_le _, hr.symm⟩, ⟨⟨rfl, rfl⟩, ⟨rfl, rfl⟩, trivial⟩, ⟨⟨rfl, rfl⟩, trivial⟩⟩ ?_ ?_
         · rintro ⟨⟩ hN
           show Goes _ _ _ _
           refine goes_iter (ι := Nat) (fun i => i ≤ t.subs.length ∧ rightsA (t.subs.drop i) = rightsA t.subs) (fun i => t.subs.length - i) (fun i => [(4, .int .i64 i), (1, .ptr (.loc 0) 0)]) (fun i => [some (.box (nodeV t).cells)]) 0 300 (fun _ => rfl) (fun _ => rfl) ⟨⟨Nat.zero_le _, rfl⟩, ⟨⟨rfl, rfl⟩, ⟨rfl, rfl⟩, trivial⟩, ⟨⟨rfl, rfl⟩, trivial⟩⟩ ?_
           rintro i ⟨k1, k2⟩ next
           refine ⟨fun hlt => go 300 ?_, fun hge => go 300 ?_⟩
           · have hi : i < t.subs.length := by simpa [subV_eq] using hlt
             have hmem : t.subs[i] ∈ t.subs := List.getElem_mem hi
             have hws := weight_sub hmem
             have hsl := subs_le_weight t
             rw [rightsA_at hi] at k2
             refine ⟨Int.natCast_nonneg i, nodeV t.subs[i], by simp [subV_eq, hi], ?_⟩
             show CallThen _ _ _ _ _ _
             refine call_pure (ih _ hmem (by omega)) rfl ?_
             rintro x rfl
             refine ⟨fun g => go 300 ?_, fun g => go 300 ?_⟩
             · have g : (t.subs[i]).rightA = false := by simpa using g
               exact ⟨trivial, rfl, rfl, rfl, leaf_ff (by rw [hA, ← k2, g]; simp)⟩
             · have g : (t.subs[i]).rightA = true := by simpa using g
               rw [g, Bool.true_and] at k2
               refine ⟨by constructor <;> omega, ?_⟩
               exact next (i + 1) _ _ ⟨⟨hi, k2⟩, by omega, ⟨⟨rfl, rfl⟩, ⟨rfl, rfl⟩, trivial⟩, ⟨⟨rfl, rfl⟩, trivial⟩⟩
           · have hi : t.subs.length ≤ i := by simpa [subV_eq] using hge
             rw [List.drop_eq_nil_of_le hi, rightsA] at k2
             exact ⟨trivial, rfl, rfl, rfl, leaf_tt (by rw [hA, hN, ← k2]; rfl)⟩
         · rintro i ⟨k1, k2⟩ next post
           refine ⟨fun hlt => go 300 ?_, fun hge => go 300 ?_⟩
           · have hi : i < t.attrs.length := by simpa using hlt
             have hx : (t.attrs.map attrV)[i]? = some (attrV t.attrs[i]) := by simp [hi]
             rw [attrs_at hi] at k2
             unfold attrOk at k2
             have cont : keyOk t.attrs[i].1 = true → decide ((t.attrs[i].2.length : Int) ≤ 256) = true → ordOk (prevK t.attrs i) t.attrs[i].1 = true → attrsOk (prevK t.attrs (i + 1)) (t.attrs.drop (i + 1)) = rightN t := fun a b c => by rw [a, b, c] at k2; simpa using k2
             have stop1 : keyOk t.attrs[i].1 = false → rightN t = false := fun a => by rw [← k2, a]; rfl
             have stop2 : decide ((t.attrs[i].2.length : Int) ≤ 256) = false → rightN t = false := fun a => by rw [← k2, a]; simp
             have stop3 : ordOk (prevK t.attrs i) t.attrs[i].1 = false → rightN t = false := fun a => by rw [← k2, a]; simp
             show Goes _ _ _ _
             refine goes_draw 300 ⟨Int.natCast_nonneg i, _, hx, _, w_refKey t.attrs[i].1, rfl, ⟨fun q1 => ?_, fun q1 => ⟨Int.natCast_nonneg i, _, hx, ⟨fun q2 => ?_, fun q2 => ⟨fun q3 => ?_, fun q3 => ?_⟩⟩⟩⟩⟩
             · refine ⟨by kernel_rfl, ?_⟩
               exact ⟨trivial, rfl, rfl, rfl, leaf_ff (no (stop1 (by simpa using q1)))⟩
             · refine ⟨by kernel_rfl, ?_⟩
               exact ⟨trivial, rfl, rfl, rfl, leaf_ff (no (stop2 (by have := lt_of q2; simp; omega)))⟩
             · have q3' : 0 < i := by have := lt_of q3; omega
               have hx' : (t.attrs.map attrV)[((i : Int) - 1).toNat]? = some (attrV t.attrs[i - 1]) := by
                 have : ((i : Int) - 1).toNat = i - 1 := by omega
                 rw [this]
                 simp [show i - 1 < t.attrs.length by omega]
               have hp : prevK t.attrs i = some t.attrs[i - 1].1 := by
                 obtain ⟨j, rfl⟩ : ∃ j, i = j + 1 := ⟨i - 1, by omega⟩
                 rw [prevK, List.getD_eq_getElem?_getD, List.getElem?_eq_getElem (by omega)]
                 rfl
               rw [hp] at cont stop3
               refine ⟨Int.natCast_nonneg i, _, hx, ⟨by omega, by omega⟩, by omega, _, hx', ?_⟩
               refine ⟨by kernel_rfl, ?_⟩
               refine ⟨fun q4 => go 300 ?_, fun q4 => go 300 ?_⟩
               · exact ⟨trivial, rfl, rfl, rfl, leaf_ff (no (stop3 (congrArg Bool.not q4)))⟩
               · refine ⟨by constructor <;> omega, ?_⟩
                 exact next (i + 1) _ _ ⟨⟨hi, cont (by simpa using q1) (by have := not_lt_of q2; simp; omega) (congrArg Bool.not q4)⟩, by omega, ⟨⟨rfl, rfl⟩, ⟨rfl, rfl⟩, trivial⟩, ⟨⟨rfl, rfl⟩, trivial⟩⟩
             · have q3' : i = 0 := by have := not_lt_of q3; omega
               subst q3'
               refine ⟨by kernel_rfl, ?_⟩
               refine ⟨by constructor <;> omega, ?_⟩
               exact next 1 _ _ ⟨⟨hi, cont (by simpa using q1) (by have := not_lt_of q2; simp; omega) rfl⟩, by omega, ⟨⟨rfl, rfl⟩, ⟨rfl, rfl⟩, trivial⟩, ⟨⟨rfl, rfl⟩, trivial⟩⟩
           · have hi : i = t.attrs.length := by have : t.attrs.length ≤ i := by simpa using hge
                                                omega
             subst hi
             rw [List.drop_eq_nil_of_le (Nat.le_refl _), attrsOk] at k2
             exact post () _ _ _ rfl ⟨k2.symm, ⟨⟨rfl, rfl⟩, trivial⟩, ⟨⟨rfl, rfl⟩, trivial⟩⟩)
    | fail
  all_goals (first | refine no ?_ | skip)
  all_goals (simp_all [rightN, headOk, subV_eq])
theorem w_refRightT (t : Tree) (h : t.weight ≤ 1000000) : Pure Tryz.prog 39 [nodeV t] (fun x => x = .bool (rightT t)) := by
  refine pure_wk (pure_fn 100 Tryz.func39 rfl rfl rfl fun B => ?_)
  refine ⟨fun g1 => go 100 ?_, fun g1 => go 100 ?_⟩
  · show CallThen _ _ _ _ _ _
    refine call_pure (w_refRightA t h) rfl ?_
    rintro x rfl
    refine ⟨trivial, rfl, rfl, rfl, leaf_b ?_⟩
    unfold rightT
    rw [g1]
    rfl
  · refine ⟨trivial, rfl, rfl, rfl, leaf_ff ?_⟩
    unfold rightT
    rw [g1]
    rfl
end Bow
/- W23: edits of a text, in the document's words. -/
namespace Bow
open Go Go.Proofs
set_option maxRecDepth 100000 in
theorem w_extent (l : List PieceT) (hl : l.length ≤ 4096) (hok : ∀ p ∈ l,p.Ok) : Pure Tryz.prog 158 [piecesV l] (fun x => x = .int .i64 (extentP l)):=by
 refine pure_fn 100 Tryz.func158 rfl rfl rfl fun B => ?_
 show Goes _ _ _ _
 refine goes_iter (ι:=Nat × Int) (fun i => i.1 ≤ l.length ∧ 0 ≤ i.2 ∧ i.2 + extentP (l.drop i.1) = extentP l) (fun i => l.length - i.1) (fun i => [(8,.int .i64 i.1),(7,.int .i64 (l.map pieceV).length),(6,piecesV l),(3,.int .i64 i.2)]) (fun _ => []) (0,0) 100 (fun _ => rfl) (fun _ => rfl) ⟨⟨Nat.zero_le _,Int.le_refl _,by simp⟩,⟨⟨rfl,rfl⟩,⟨rfl,rfl⟩,⟨rfl,rfl⟩,⟨rfl,rfl⟩,trivial⟩,trivial⟩ ?_
 rintro ⟨i,n⟩ ⟨k1,k2,k3⟩ next
 simp only at k1 k2 k3
 have hle:=extentP_le hok
 refine ⟨fun hlt => go 100 ?_,fun hge => go 100 ?_⟩
 ·have hi : i < l.length:=by simpa using hlt
  have hx : (l.map pieceV)[i]? = some (pieceV l[i]):=by simp [hi]
  have hp:=hok l[i] (List.getElem_mem hi)
  have:=hp.k0
  have:=hp.d0
  have hn:=extentP_nonneg (l:=l.drop (i + 1)) fun q hq => hok q (List.mem_of_mem_drop hq)
  rw [drop_cons hi,extentP_cons] at k3
  refine ⟨Int.natCast_nonneg i,_,hx,⟨by omega,by omega⟩,⟨by omega,by omega⟩,⟨by omega,by omega⟩,?_⟩
  exact next (i + 1,n + (l[i].keep + l[i].drop)) _ _ ⟨⟨hi,by simp only;omega,by simp only;omega⟩,by simp only;omega,⟨⟨rfl,rfl⟩,⟨rfl,rfl⟩,⟨rfl,rfl⟩,⟨rfl,rfl⟩,trivial⟩,trivial⟩
 ·have hi : l.length ≤ i:=by simpa using hge
  rw [List.drop_eq_nil_of_le hi] at k3
  exact ⟨trivial,rfl,rfl,rfl,by rw [← k3];simp [extentP];rfl⟩
set_option maxRecDepth 100000 in
theorem w_refExtent (l : List PieceT) (hl : l.length ≤ 4096) (hok : ∀ p ∈ l,p.Ok) : Pure Tryz.prog 139 [piecesV l] (fun x => x = .int .i64 (extentP l)):=by
 refine pure_fn 100 Tryz.func139 rfl rfl rfl fun B => ?_
 show Goes _ _ _ _
 refine goes_iter (ι:=Nat × Int) (fun i => i.1 ≤ l.length ∧ 0 ≤ i.2 ∧ i.2 + extentP (l.drop i.1) = extentP l) (fun i => l.length - i.1) (fun i => [(4,.int .i64 i.1),(0,piecesV l),(3,.int .i64 i.2)]) (fun _ => []) (0,0) 100 (fun _ => rfl) (fun _ => rfl) ⟨⟨Nat.zero_le _,Int.le_refl _,by simp⟩,⟨⟨rfl,rfl⟩,⟨rfl,rfl⟩,⟨rfl,rfl⟩,trivial⟩,trivial⟩ ?_
 rintro ⟨i,n⟩ ⟨k1,k2,k3⟩ next
 simp only at k1 k2 k3
 have hle:=extentP_le hok
 refine ⟨fun hlt => go 100 ?_,fun hge => go 100 ?_⟩
 ·have hi : i < l.length:=by simpa using hlt
  have hx : (l.map pieceV)[i]? = some (pieceV l[i]):=by simp [hi]
  have hp:=hok l[i] (List.getElem_mem hi)
  have:=hp.k0
  have:=hp.d0
  have hn:=extentP_nonneg (l:=l.drop (i + 1)) fun q hq => hok q (List.mem_of_mem_drop hq)
  rw [drop_cons hi,extentP_cons] at k3
  show Goes _ _ _ _
  refine goes_draw 100 ⟨Int.natCast_nonneg i,_,hx,⟨by omega,by omega⟩,Int.natCast_nonneg i,_,hx,⟨by omega,by omega⟩,?_⟩
  refine ⟨by kernel_rfl,?_⟩
  refine ⟨⟨by omega,by omega⟩,?_⟩
  exact next (i + 1,n + l[i].keep + l[i].drop) _ _ ⟨⟨hi,by simp only;omega,by simp only;omega⟩,by simp only;omega,⟨⟨rfl,rfl⟩,⟨rfl,rfl⟩,⟨rfl,rfl⟩,trivial⟩,trivial⟩
 ·have hi : l.length ≤ i:=by simpa using hge
  rw [List.drop_eq_nil_of_le hi] at k3
  exact ⟨trivial,rfl,rfl,rfl,by rw [← k3];simp [extentP];rfl⟩
set_option maxRecDepth 100000 in
theorem w_refEdit (t : List UInt8) (l : List PieceT) (ht : t.length ≤ 1000000000) (hl : l.length ≤ 1000000) (hpl : ∀ p ∈ l,p.put.length ≤ 1000000000) :
  Pure Tryz.prog 98 [.str t,piecesV l] (fun x => x = strE (applyE t l)):=by
 refine pure_fn 100 Tryz.func98 rfl rfl rfl fun B => ?_
 show CallThen _ _ _ _ _ _
 refine call_pure (w_refRight l hl hpl) rfl ?_
 rintro x rfl
 refine ⟨fun g1 => go 100 ?_,fun g1 => go 100 ?_⟩
 ·exact ⟨trivial,rfl,rfl,rfl,by unfold applyE;rw [g1];rfl⟩
 have hr : rightP l = true:=by simpa using g1
 obtain ⟨r1,r2,r3⟩:=rightP_ok hr
 show CallThen _ _ _ _ _ _
 refine call_pure (w_refExtent l r1 r2) rfl ?_
 rintro x rfl
 refine ⟨fun g2 => go 100 ?_,fun g2 => go 100 ?_⟩
 ·exact ⟨trivial,rfl,rfl,rfl,by unfold applyE;rw [g1,g2];rfl⟩
 have g2':=not_lt_of g2
 have hfin : applyE t l = (editP t l,0):=by unfold applyE;rw [g1,g2];rfl
 show Goes _ _ _ _
 refine goes_iter (ι:=Nat × List UInt8 × List UInt8) (fun i => i.1 ≤ l.length ∧ extentP (l.drop i.1) ≤ i.2.2.length ∧ i.2.1.length + i.2.2.length + putsLen (l.drop i.1) ≤ t.length + putsLen l ∧ i.2.1 ++ editP i.2.2 (l.drop i.1) = editP t l) (fun i => l.length - i.1)
  (fun i => [(7,.int .i64 i.1),(6,.str i.2.1),(0,.str i.2.2),(1,piecesV l)]) (fun _ => []) (0,[],t) 100 (fun _ => rfl) (fun _ => rfl) ⟨⟨Nat.zero_le _,g2',by simp,rfl⟩,⟨⟨rfl,rfl⟩,⟨rfl,rfl⟩,⟨rfl,rfl⟩,⟨rfl,rfl⟩,trivial⟩,trivial⟩ ?_
 rintro ⟨i,o,u⟩ ⟨k1,k2,k3,k4⟩ next
 simp only at k1 k2 k3 k4
 refine ⟨fun hlt => go 100 ?_,fun hge => go 100 ?_⟩
 ·have hi : i < l.length:=by simpa using hlt
  have hx : (l.map pieceV)[i]? = some (pieceV l[i]):=by simp [hi]
  have hp:=r2 l[i] (List.getElem_mem hi)
  have p1:=hp.k0
  have p2:=hp.d0
  have p3:=hp.k1
  have p4:=hp.d1
  have hn:=extentP_nonneg (l:=l.drop (i + 1)) fun q hq => r2 q (List.mem_of_mem_drop hq)
  have e : putsLen (l[i] :: l.drop (i + 1)) = l[i].put.length + putsLen (l.drop (i + 1)):=rfl
  rw [drop_cons hi,extentP_cons] at k2
  rw [drop_cons hi,e] at k3
  rw [drop_cons hi,editP] at k4
  have hlen1 : ((u.drop (Int.toNat 0)).take (l[i].keep.toNat - Int.toNat 0)).length = l[i].keep.toNat:=by simp;omega
  show Goes _ _ _ _
  refine goes_draw 100 ⟨Int.natCast_nonneg i,_,hx,by decide,p1,by simp only;omega,?_,Int.natCast_nonneg i,_,hx,?_,?_⟩
  ·simp only;rw [List.length_append,hlen1];omega
  ·simp only;rw [List.length_append,List.length_append,hlen1];omega
  refine ⟨by kernel_rfl,?_⟩
  show Goes _ _ _ _
  refine goes_draw 100 ⟨Int.natCast_nonneg i,_,hx,Int.natCast_nonneg i,_,hx,⟨by omega,by omega⟩,by omega,by simp only;omega,Int.le_refl _,?_⟩
  refine ⟨by kernel_rfl,?_⟩
  refine ⟨⟨by omega,by omega⟩,?_⟩
  have hlen2 : ((u.drop (l[i].keep + l[i].drop).toNat).take ((u.length : Int).toNat - (l[i].keep + l[i].drop).toNat)) = u.drop (l[i].keep + l[i].drop).toNat:=List.take_of_length_le (by simp)
  refine next (i + 1,o ++ (u.drop (Int.toNat 0)).take (l[i].keep.toNat - Int.toNat 0) ++ l[i].put,(u.drop (l[i].keep + l[i].drop).toNat).take ((u.length : Int).toNat - (l[i].keep + l[i].drop).toNat)) _ _ ⟨⟨hi,?_,?_,?_⟩,by simp only;omega,⟨⟨rfl,rfl⟩,⟨rfl,rfl⟩,⟨rfl,rfl⟩,⟨rfl,rfl⟩,trivial⟩,trivial⟩
  ·simp only
   rw [hlen2,List.length_drop]
   omega
  ·simp only
   rw [hlen2,List.length_drop,List.length_append,List.length_append,hlen1]
   omega
  ·simp only
   rw [hlen2,← k4]
   simp
 ·have hi : l.length ≤ i:=by simpa using hge
  rw [List.drop_eq_nil_of_le hi,editP] at k4
  rw [List.drop_eq_nil_of_le hi] at k3
  have e : putsLen [] = 0:=rfl
  rw [e] at k3
  refine ⟨by simp only;rw [List.length_append];omega,?_⟩
  exact ⟨trivial,rfl,rfl,rfl,by rw [hfin,← k4];rfl⟩
end Bow
/- WB1: strings.Builder's methods at this program: by the kit's own tactics. -/
namespace Bow
open Go Go.Proofs Go.RowKit Go.Shelf
theorem b_size : ((Tryz.prog).info? 175).map (·.size) = some 2:=by kernel_rfl
theorem b_lies : liesAt Tryz.prog Tryz.prog.depth 175 (2 / (Tryz.prog).cellsOf 175) 0 175 1 = true:=by kernel_rfl
theorem b_byte : ((Tryz.prog).info? 5).map (fun i => (i.zero,i.size,i.bytes)) = some (some (.int .u8 0),1,1):=by kernel_rfl
set_option maxHeartbeats 1000000 in
set_option maxRecDepth 100000 in
theorem b_copyCheck_used (b : Nat) (w : World) (h0 : w.cell? ⟨b,0,none⟩ = some (.pointer (some ⟨b,0,none⟩))) :
  Calls Tryz.prog 190 #[.pointer (some ⟨b,0,none⟩)] w fun e w' => e = .returned (.tuple #[]) ∧ w' = w:=by
 obtain ⟨j,hj,_⟩:=Option.map_eq_some_iff.1 b_size
 go_enter Tryz.func190,Tryz.ntmps190
 go_wp2
 rw [Lib.run_neq_ptr_same w _ Tryz.underlying173 hj]
 go_wp2
 go_end0
 exact ⟨rfl,rfl⟩
set_option maxHeartbeats 1000000 in
set_option maxRecDepth 100000 in
theorem b_copyCheck_fresh (b : Nat) (w : World) (h0 : w.cell? ⟨b,0,none⟩ = some (.pointer none)) (hsh : w.shape? b = some (175,2)) (hfz : w.frozen? ⟨b,0,none⟩ = false) :
  Calls Tryz.prog 190 #[.pointer (some ⟨b,0,none⟩)] w fun e w' => e = .returned (.tuple #[]) ∧ w' = w.setCell ⟨b,0,none⟩ (.pointer (some ⟨b,0,none⟩)):=by
 obtain ⟨j,hj,hjs⟩:=Option.map_eq_some_iff.1 b_size
 go_enter Tryz.func190,Tryz.ntmps190
 go_wp2
 rw [Lib.run_to_unsafe w ⟨b,0,none⟩ Tryz.underlying173 Tryz.underlying226 hj (by rw [hjs];decide) hsh (Nat.zero_lt_succ 1)]
 simp only [Result.andThen]
 rw [Oper.upon_value]
 go_wp2
 rw [run_callFunc_extern Tryz.func203 (by kernel_rfl) (by kernel_rfl) (by kernel_rfl) (e:=Extern.AbiNoEscape.same) (by kernel_rfl)]
 rw [Lib.run_noEscape]
 simp only [Result.andThen]
 rw [Oper.upon_value]
 go_wp2
 rw [Lib.run_from_unsafe w ⟨b,0,none⟩ Tryz.underlying226 Tryz.underlying173 hj hsh b_lies]
 simp only [Result.andThen]
 rw [Oper.upon_value]
 go_wp2
 go_end0
 exact ⟨rfl,rfl⟩
theorem b_copyCheck (B b : Nat) (bs : List Value) (w : World) (h : Lib.IsBuilderF 175 5 B b bs w) :
  Calls Tryz.prog 190 #[.pointer (some ⟨b,0,none⟩)] w fun e w' => e = .returned (.tuple #[]) ∧ (Lib.BuilderAtF 175 5 B b (.pointer (some ⟨b,0,none⟩)) bs w' ∧ Below B w w' ∧ Lib.OthersKept 5 (some b) w w'):=by
 rcases h with h | h
 ·refine (b_copyCheck_fresh b w h.cell0 h.shape h.frozen0).mono ?_
  rintro e w' ⟨rfl,rfl⟩
  exact ⟨rfl,h.used _,(Below.refl B w).setCell (p:=⟨b,0,none⟩) h.1 _,(Lib.OthersKept.refl _ _ w).setCell ⟨b,0,none⟩ rfl _⟩
 ·refine (b_copyCheck_used b w h.cell0).mono ?_
  rintro e w' ⟨rfl,rfl⟩
  exact ⟨rfl,h,Below.refl B _,Lib.OthersKept.refl _ _ _⟩
set_option maxHeartbeats 2000000 in
set_option maxRecDepth 100000 in
theorem b_WriteString (B b : Nat) (bs : List Value) (s : ByteArray) (w : World) (h : Lib.IsBuilderF 175 5 B b bs w) (hlen : bs.length + s.size ≤ 140737488355328) (hBw : B ≤ w.heap.size) :
  Calls Tryz.prog 159 #[.pointer (some ⟨b,0,none⟩),.string s] w fun e w' => e = .returned (.tuple #[.int .i64 s.size,.nilIface]) ∧ (Lib.BuilderAtF 175 5 B b (.pointer (some ⟨b,0,none⟩)) (bs ++ Lib.strCells s) w' ∧ Below B w w' ∧ Lib.OthersKept 5 (some b) w w'):=by
 obtain ⟨i0,hi,hz0,hz1,hz2⟩:=info_parts b_byte
 go_enter Tryz.func159,Tryz.ntmps159
 go_wp2_with (go_at_call 190;refine (b_copyCheck B b bs _ h).mono ?_)
 rintro e w1 ⟨rfl,h1,hb1,hk1⟩
 obtain ⟨hB,v,hbk,hown,hne⟩:=h1
 have c0 : w1.cell? ⟨b,0,none⟩ = some (.pointer (some ⟨b,0,none⟩)):=by rw [Lib.cell_of_heap hbk];rfl
 have c1 : w1.cell? ⟨b,1,none⟩ = some v:=by rw [Lib.cell_of_heap hbk];rfl
 go_wp2_with (at_builtin;refine Lib.wpList_append_own_stringF _ rfl _ _ 85 9 rfl B 5 i0 Tryz.underlying85 Tryz.underlying9 hi hz0 hz1 hz2 _ _ _ rfl hown s rfl ?c3 ?c4 ?c5 ?_)
 case c3 => unfold maxLen;omega
 case c4 => omega
 case c5 => have:=hb1.size;omega
 intro v' w2 hown' hgrow _
 have hlt : b < w1.heap.size:=by
  rcases Nat.lt_or_ge b w1.heap.size with h' | h'
  ·exact h'
  ·simp [Array.getElem?_eq_none h'] at hbk
 have hb2 : w2.heap[b]? = some (.cells #[.pointer (some ⟨b,0,none⟩),v] 175 (0,0)):=by
  rw [hgrow.block b hlt (fun e => hne e.symm)]
  exact hbk
 have d0 : w2.cell? ⟨b,0,none⟩ = some (.pointer (some ⟨b,0,none⟩)):=by rw [Lib.cell_of_heap hb2];rfl
 have d1 : w2.cell? ⟨b,1,none⟩ = some v:=by rw [Lib.cell_of_heap hb2];rfl
 have f1 : w2.frozen? ⟨b,1,none⟩ = false:=Lib.frozen_of_heap hb2 1
 obtain ⟨ao,n',cap,rfl⟩ : ∃ ao n' cap,v' = .slice ao n' cap:=by
  rcases hown'.2 with ⟨hv,_⟩ | ⟨g,cap,cur,fz,hv,_⟩
  ·exact ⟨_,_,_,hv⟩
  ·exact ⟨_,_,_,hv⟩
 go_wp2
 go_ret2
 refine ⟨rfl,?_,?_,(hk1.grown hgrow (Lib.ownsRowF_kind hown)).setCell ⟨b,1,none⟩ rfl _⟩
 ·exact Lib.BuilderAtF.put (T:=175) (e:=5) hB hb2 (bs':=bs ++ Lib.strCells s) (by simpa [Lib.strCells_length] using hown') (by decide)
 ·exact (hb1.grown hgrow (by have:=hb1.size;omega) (fun k hk => (hown.lt k hk).1)).setCell (p:=⟨b,1,none⟩) hB _
def bRen : Ren where
 f:=fun | 169 => 160 | n => n
 t:=fun | 0 => 0 | 3 => 3 | 9 => 9 | 37 => 85 | 70 => 173 | 72 => 175 | 127 => 205 | 5 => 5 | n => n
 g:=fun n => n
theorem bLays : Lays.n169 Tryz.prog bRen:={
 mixed:=by kernel_rfl
 f169:=Tryz.func160.trans (congrArg some (by kernel_rfl))
 t0:=Tryz.underlying0
 a0:=Tryz.isAgg0
 z0:=Tryz.sizeOf0
 v0:=Tryz.zeroValue0
 t3:=Tryz.underlying3
 a3:=Tryz.isAgg3
 z3:=Tryz.sizeOf3
 v3:=Tryz.zeroValue3
 t9:=Tryz.underlying9
 a9:=Tryz.isAgg9
 z9:=Tryz.sizeOf9
 v9:=Tryz.zeroValue9
 t37:=Tryz.underlying85
 a37:=Tryz.isAgg85
 z37:=Tryz.sizeOf85
 v37:=Tryz.zeroValue85
 t70:=Tryz.underlying173
 a70:=Tryz.isAgg173
 z70:=Tryz.sizeOf173
 v70:=Tryz.zeroValue173
 t72:=Tryz.underlying175
 a72:=Tryz.isAgg175
 z72:=Tryz.sizeOf175
 v72:=Tryz.zeroValue175
 t127:=Tryz.underlying205
 a127:=Tryz.isAgg205
 z127:=Tryz.sizeOf205
 v127:=Tryz.zeroValue205
}
theorem bExtra : Builder.Extra Tryz.prog bRen:={
 sizeBuilder:=by kernel_rfl
 liesBuilder:=by kernel_rfl
 t5:=Tryz.underlying5
 a5:=Tryz.isAgg5
 z5:=Tryz.sizeOf5
 v5:=Tryz.zeroValue5
 infoByte:=by kernel_rfl
 cellsByte:=by kernel_rfl
 sizeByte:=by kernel_rfl
 neB5:=by decide
}
theorem b_String (B b : Nat) (l : List UInt8) (w : World) (h : Lib.IsBuilderF 175 5 B b (Lib.byteCells l) w) (hBw : B ≤ w.heap.size) :
  Calls Tryz.prog 160 #[.pointer (some ⟨b,0,none⟩)] w fun e w' => e = .returned (.string ⟨l.toArray⟩) ∧ (Lib.IsBuilderF 175 5 B b (Lib.byteCells l) w' ∧ Below B w w' ∧ Lib.OthersKept 5 (some b) w w') :=
 Any.Builder_String_any_k bLays bExtra B b l w h hBw
end Bow
/- W24: leaftext.Apply, by the kit's own tactics. -/
namespace Bow
open Go Go.Proofs Go.RowKit
theorem pieces_flat (l : List PieceT) : ∀ x ∈ l.map pieceV,flatL x.cells = true:=by
 intro x hx
 obtain ⟨p,_,rfl⟩:=List.mem_map.1 hx
 rfl
theorem c_right (l : List PieceT) (hl : l.length ≤ 1000000) (hpl : ∀ p ∈ l,p.put.length ≤ 1000000000) (v : Value) (w : World) (h : Rep w β0 [] (piecesV l) v) :
  Calls Tryz.prog 117 #[v] w fun e w' => e = .returned (.bool (rightP l)) ∧ Below w.heap.size w w':=by
 refine calls_of_pureQ (β:=β0) (H:=[]) (w_Right l hl hpl) (fun x u w' β' H' hx hu => ?_) rfl rfl ?_
 ·subst hx
  exact rep_bool (m:=[]) hu
 ·intro j x u hj hu
  cases j with
  | zero => simp at hj hu;subst hj hu;exact h
  | succ j => simp at hj
theorem c_extent (l : List PieceT) (hl : l.length ≤ 4096) (hok : ∀ p ∈ l,p.Ok) (v : Value) (w : World) (h : Rep w β0 [] (piecesV l) v) :
  Calls Tryz.prog 158 #[v] w fun e w' => e = .returned (.int .i64 (extentP l)) ∧ Below w.heap.size w w':=by
 refine calls_of_pureQ (β:=β0) (H:=[]) (w_extent l hl hok) (fun x u w' β' H' hx hu => ?_) rfl rfl ?_
 ·subst hx
  exact rep_int (m:=[]) hu
 ·intro j x u hj hu
  cases j with
  | zero => simp at hj hu;subst hj hu;exact h
  | succ j => simp at hj
theorem rep_below {w w' : World} {x : V} {v : Value} (h : Rep w β0 [] x v) (hb : Below w.heap.size w w') : Rep w' β0 [] x v:=h.mono (Fr.of_below hb)
theorem ba_of (x : ByteArray) (y : List UInt8) (h : x.data.toList = y) : x = ⟨y.toArray⟩:=by
 obtain ⟨⟨l⟩⟩:=x
 subst h
 rfl
theorem hidU {p : Prop} (h : p) : Hid p:=h
set_option maxHeartbeats 4000000 in
set_option maxRecDepth 1000000 in
theorem edit_walk (S : ByteArray) (l : List PieceT) (ht : S.size ≤ 1000000000) (hl : l.length ≤ 1000000) (hpl : ∀ p ∈ l,p.put.length ≤ 1000000000) (ao : Option Addr) (cap : Nat) (w : World) (hrep : Rep w β0 [] (piecesV l) (.slice ao l.length cap)) :
  Calls Tryz.prog 121 #[.string S,.slice ao l.length cap] w fun e w' => e = .returned (.tuple #[.string ⟨(applyE S.data.toList l).1.toArray⟩,.int .i64 (applyE S.data.toList l).2]) ∧ Below w.heap.size w w':=by
 go_enter Tryz.func121,Tryz.ntmps121
 have cR:=c_right l hl hpl _ w hrep
 go_wp2_with (go_at_call 117;refine cR.mono ?_)
 rintro e w1 ⟨rfl,hb1⟩
 clear cR
 cases hr : rightP l with
 | false =>
  go_wp2
  go_ret2
  refine ⟨?_,hb1⟩
  unfold applyE
  rw [hr]
  rfl
 | true =>
  obtain ⟨r1,r2,r3⟩:=rightP_ok hr
  have cE:=c_extent l r1 r2 _ w1 (rep_below hrep hb1)
  go_wp2_with (go_at_call 158;refine cE.mono ?_)
  rintro e w2 ⟨rfl,hb2⟩
  clear cE
  have hb12 : Below w.heap.size w w2:=hb1.trans (hb2.mono hb1.size)
  by_cases hx : (S.size : Int) < extentP l
  ·go_wp2
   go_ret2
   refine ⟨?_,hb12⟩
   unfold applyE
   rw [hr,decide_eq_true (by simpa using hx)]
   rfl
  ·go_wp2
   go_loopw [0,21] (fun text i wr => ∃ (k : Nat) (T acc : List UInt8),k ≤ l.length ∧ text = .string ⟨T.toArray⟩ ∧ i = .int .i64 k ∧ Lib.IsBuilderF 175 5 w2.heap.size w2.heap.size (Lib.byteCells acc) wr ∧ Below w2.heap.size w2 wr ∧ acc ++ editP T (l.drop k) = editP S.data.toList l ∧ extentP (l.drop k) ≤ T.length ∧ acc.length + T.length + putsLen (l.drop k) ≤ S.data.toList.length + putsLen l) (fun _ i _ => l.length - (intOf i).toNat)
   case atStart =>
    refine ⟨0,S.data.toList,[],Nat.zero_le _,rfl,rfl,Lib.IsBuilderF.of (Lib.fresh_isBuilder _ _ w2),(Below.refl _ _).alloc (Nat.le_refl _) _,rfl,?_,?_⟩
    ·simpa using hx
    ·simp
   case round =>
    obtain ⟨k,T,acc,hk,rfl,rfl,hI,hbw,hacc,hext,hsz⟩:=hrel
    by_cases hlt : k < l.length
    ·obtain ⟨a,cap',hv,hcap,hmax,hc⟩:=sl_cells (rep_below (rep_below hrep hb12) hbw)
     obtain ⟨e1,e2,e3⟩ : ao = a ∧ l.length = (l.map pieceV).length ∧ cap = cap':=by injection hv with e1 e2 e3;exact ⟨e1,e2,e3⟩
     obtain ⟨ad,rfl,hblk,hc⟩:=hc (by intro h;simp at h;subst h;simp at hlt)
     subst e1
     have hg : (l.map pieceV)[k]? = some (pieceV l[k]):=by simp [hlt]
     obtain ⟨u0,h0,q0⟩:=hc k _ 0 _ hg rfl
     obtain ⟨u1,h1,q1⟩:=hc k _ 1 _ hg rfl
     obtain ⟨u2,h2,q2⟩:=hc k _ 2 _ hg rfl
     cases rep_int (m:=[]) q0
     cases rep_int (m:=[]) q1
     obtain ⟨q2,hput⟩:=rep_str (m:=[]) q2
     subst q2
     rw [← add_add'] at h1 h2
     have h0 : wr.cell? (ad.add (k * 3)) = some (.int .i64 l[k].keep):=h0
     have h1 : wr.cell? ⟨(ad.add (k * 3)).block,(ad.add (k * 3)).off + 1,none⟩ = some (.int .i64 l[k].drop):=h1
     have h2 : wr.cell? ⟨(ad.add (k * 3)).block,(ad.add (k * 3)).off + 2,none⟩ = some (.string ⟨l[k].put.toArray⟩):=h2
     clear q0 q1 hc hg hcap hmax hv e2 e3
     have hd : l.drop k = l[k] :: l.drop (k + 1):=drop_cons hlt
     have hok:=r2 l[k] (List.getElem_mem hlt)
     have k0:=hok.k0;have k1:=hok.k1;have d0:=hok.d0;have d1:=hok.d1
     have hen : 0 ≤ extentP (l.drop (k + 1)):=extentP_nonneg fun q hq => r2 q (List.mem_of_mem_drop hq)
     rw [hd,extentP_cons] at hext
     have hpt : putsLen (l[k] :: l.drop (k + 1)) = l[k].put.length + putsLen (l.drop (k + 1)):=rfl
     rw [hd,hpt] at hsz
     rw [hd] at hacc
     have hacc:=hidU hacc
     have hN:=hidU hsz
     clear hsz
     obtain ⟨p,hp⟩ : ∃ p,l[k] = p:=⟨_,rfl⟩
     simp only [hp] at *
     have hsT : (⟨T.toArray⟩ : ByteArray).size = T.length:=by simp [ByteArray.size]
     have hI1:=Lib.IsBuilderF.alloc hI (.cells #[.int .i64 p.keep,.int .i64 p.drop,.string ⟨p.put.toArray⟩] 91)
     have hw1 : Below w2.heap.size w2 (wr.alloc (.cells #[.int .i64 p.keep,.int .i64 p.drop,.string ⟨p.put.toArray⟩] 91)):=hbw.alloc hbw.size _
     have hbl : w2.heap.size < wr.heap.size:=by
      have : ∀ q,Lib.BuilderAtF 175 5 w2.heap.size w2.heap.size q (Lib.byteCells acc) wr → w2.heap.size < wr.heap.size:=by
       rintro q ⟨_,v,hbk,_⟩
       exact (Array.getElem?_eq_some_iff.1 hbk).1
      rcases hI with h | h
      ·exact this _ h
      ·exact this _ h
     have hbox : (wr.alloc (.cells #[.int .i64 p.keep,.int .i64 p.drop,.string ⟨p.put.toArray⟩] 91)).heap[wr.heap.size]? = some (.cells #[.int .i64 p.keep,.int .i64 p.drop,.string ⟨p.put.toArray⟩] 91 (0,0)):=heap_alloc_new wr _
     have hne : ∀ (c : Array Value) (fz : Nat × Nat),(Obj.cells #[.int .i64 p.keep,.int .i64 p.drop,.string ⟨p.put.toArray⟩] 91 (0,0)) ≠ Obj.cells c 5 fz:=fun c fz h => by
      injection h with h1 h2 h3
      exact absurd h2 (by decide)
     have hne:=hidU hne
     have hI1:=hidU hI1
     have hN2:=hN.out
     have hx1 : (ByteArray.extract ⟨T.toArray⟩ 0 p.keep.toNat).data.toList = T.take p.keep.toNat:=by rw [Lib.extract_data];simp
     have hx1s : (ByteArray.extract ⟨T.toArray⟩ 0 p.keep.toNat).size = p.keep.toNat:=by
      rw [Lib.size_eq,hx1,List.length_take]
      omega
     have hsz' : S.data.toList.length + putsLen l ≤ 1000000000 + 1048576:=by rw [← Lib.size_eq];omega
     have hsz'' : acc.length + (T.length + (p.put.length + putsLen (l.drop (k + 1)))) ≤ 1000000000 + 1048576:=by omega
     have hsz'':=hidU hsz''
     clear hN2 hsz'
     go_wp2_with fail
     refine (b_WriteString w2.heap.size w2.heap.size _ _ _ hI1.out (by rw [Lib.byteCells_length,hx1s];have:=hsz''.out;omega) (Nat.le_trans (Nat.le_of_lt hbl) (by simp))).mono ?_
     rintro e W1 ⟨rfl,hA1,b1,q1⟩
     have hbox1:=q1 _ _ hbox (by simp;omega) hne.out
     have c2 : W1.cell? ⟨wr.heap.size,2,none⟩ = some (.string ⟨p.put.toArray⟩):=by rw [Lib.cell_of_heap hbox1];rfl
     have hsz1 : w2.heap.size ≤ W1.heap.size:=Nat.le_trans hw1.size b1.size
     have hA1 : Lib.IsBuilderF 175 5 w2.heap.size w2.heap.size _ W1:=.inr hA1
     have hA1:=hidU hA1
     have hbox1:=hidU hbox1
     have hq : Below w2.heap.size w2 W1:=hw1.trans b1
     clear b1 q1 hw1 hbox
     go_wp2_with fail
     refine (b_WriteString w2.heap.size w2.heap.size _ _ _ hA1.out (by rw [List.length_append,Lib.byteCells_length,Lib.strCells_eq,Lib.byteCells_length,hx1,List.length_take,Lib.size_eq];have:=hsz''.out;simp only [];omega) hsz1).mono ?_
     rintro e W2 ⟨rfl,hA2,b2,q2⟩
     have hbox2:=q2 _ _ hbox1.out (by simp;omega) hne.out
     have c3 : W2.cell? ⟨wr.heap.size,0,none⟩ = some (.int .i64 p.keep):=by rw [Lib.cell_of_heap hbox2];rfl
     have c4 : W2.cell? ⟨wr.heap.size,1,none⟩ = some (.int .i64 p.drop):=by rw [Lib.cell_of_heap hbox2];rfl
     have hA2 : Lib.IsBuilderF 175 5 w2.heap.size w2.heap.size _ W2:=.inr hA2
     have hA2:=hidU hA2
     have hq2 : Below w2.heap.size w2 W2:=hq.trans b2
     clear b2 q2 hbox2 c2
     go_wp2_with fail
     refine ⟨⟨k + 1,T.drop (p.keep + p.drop).toNat,acc ++ T.take p.keep.toNat ++ p.put,hlt,?_,rfl,?_,hq2,?_,?_,?_⟩,?_⟩
     ·congr 1
      refine ba_of _ _ ?_
      rw [Lib.extract_data]
      exact List.take_of_length_le (by simp)
     ·have:=hA2.out
      rw [Lib.strCells_eq,Lib.strCells_eq,hx1,← Lib.byteCells_append,← Lib.byteCells_append] at this
      exact this
     ·rw [← hacc.out]
      show _ = acc ++ editP T (p :: l.drop (k + 1))
      rw [editP]
      simp only [List.append_assoc]
     ·rw [List.length_drop]
      omega
     ·have:=hN.out
      simp only [List.length_append,List.length_take,List.length_drop]
      omega
     ·show l.length - (k + 1 : Int).toNat < l.length - (k : Int).toNat
      omega
    ·have hke : k = l.length:=by omega
     have hd : l.drop k = []:=List.drop_eq_nil_of_le (by omega)
     rw [hd] at hacc hsz hext
     have hacc : acc ++ T = editP S.data.toList l:=hacc
     have hsz : acc.length + T.length + 0 ≤ S.data.toList.length + putsLen l:=hsz
     have hS : S.data.toList.length ≤ 1000000000:=by rw [← Lib.size_eq];omega
     have hI:=hidU hI
     have hacc:=hidU hacc
     have hN : Hid (acc.length + T.length ≤ 1000000000 + 1048576):=hidU (by omega)
     clear hsz hext hS
     go_wp2_with fail
     refine (b_WriteString w2.heap.size w2.heap.size _ _ _ hI.out (by rw [Lib.byteCells_length,Lib.size_eq];have:=hN.out;simp only [];omega) hbw.size).mono ?_
     rintro e W1 ⟨rfl,hA1,b1,q1⟩
     have hq : Below w2.heap.size w2 W1:=hbw.trans b1
     have hA1 : Lib.IsBuilderF 175 5 w2.heap.size w2.heap.size _ W1:=.inr hA1
     rw [Lib.strCells_eq,← Lib.byteCells_append] at hA1
     have hA1:=hidU hA1
     clear b1 q1
     go_wp2_with fail
     refine (b_String w2.heap.size w2.heap.size _ _ hA1.out hq.size).mono ?_
     rintro e W2 ⟨rfl,_,b2,_⟩
     have hq2 : Below w2.heap.size w2 W2:=hq.trans b2
     clear b2
     go_wp2
     go_ret2
     refine ⟨?_,hb12.trans (hq2.mono hb12.size)⟩
     have : applyE S.data.toList l = (editP S.data.toList l,0):=by
      unfold applyE
      rw [hr,decide_eq_false (by rw [← Lib.size_eq];simpa using hx)]
      rfl
     rw [this,← hacc.out]
     rfl
theorem editP_length : ∀ (t : List UInt8) (l : List PieceT),(∀ p ∈ l,p.Ok) → (editP t l).length ≤ t.length + putsLen l
 | t,[],_ => Nat.le_refl _
 | t,p :: l,h => by
  have ih:=editP_length (t.drop (p.keep + p.drop).toNat) l fun q hq => h q (List.mem_cons_of_mem _ hq)
  have hp:=h p List.mem_cons_self
  have:=hp.k0
  have:=hp.d0
  have e : putsLen (p :: l) = p.put.length + putsLen l:=rfl
  rw [editP,e]
  rw [List.length_drop] at ih
  simp only [List.length_append,List.length_take]
  omega
theorem applyE_len (t : List UInt8) (l : List PieceT) : (applyE t l).1.length ≤ t.length + 1048576:=by
 unfold applyE
 cases hr : rightP l with
 | false => simp
 | true =>
  obtain ⟨r1,r2,r3⟩:=rightP_ok hr
  cases decide ((t.length : Int) < extentP l) with
  | false =>
   have:=editP_length t l r2
   simp only [Bool.not_true,cond_false]
   omega
  | true => simp
theorem w_edit (t : List UInt8) (l : List PieceT) (ht : t.length ≤ 1000000000) (hl : l.length ≤ 1000000) (hpl : ∀ p ∈ l,p.put.length ≤ 1000000000) :
  Pure Tryz.prog 121 [.str t,piecesV l] (fun x => x = strE (applyE t l)):=by
 refine pure_of_calls ?_ rfl fun w β H vals hv hr => ?_
 ·exact ⟨_,Tryz.func121,rfl,rfl⟩
 ·obtain ⟨v0,v1,rfl⟩ : ∃ v0 v1,vals = #[v0,v1]:=by
   obtain ⟨l⟩:=vals
   match l,hv with
   | [v0,v1],_ => exact ⟨v0,v1,rfl⟩
  have h0:=hr 0 _ v0 rfl rfl
  have h1:=hr 1 _ v1 rfl rfl
  obtain ⟨rfl,_⟩:=rep_str (m:=[]) h0
  have h1:=Rep.flat_sl (pieces_flat l) h1
  obtain ⟨a,cap,rfl,_⟩:=sl_cells h1
  have e : (l.map pieceV).length = l.length:=by simp
  rw [e] at h1 ⊢
  refine (edit_walk ⟨t.toArray⟩ l (by simpa [ByteArray.size] using ht) hl hpl a cap w h1).mono ?_
  rintro e w' ⟨rfl,hb⟩
  have hm:=applyE_len t l
  have hS : (⟨t.toArray⟩ : ByteArray).data.toList = t:=rfl
  rw [hS]
  refine ⟨hb,strE (applyE t l),_,rfl,rfl,rfl,.tup _ _ rfl fun j c v hc hv => ?_⟩
  match j,hc,hv with
  | 0,hc,hv =>
   simp at hc hv
   subst hc hv
   exact .str _ (by unfold maxLen;omega)
  | 1,hc,hv =>
   simp at hc hv
   subst hc hv
   exact .int _ _
  | j + 2,hc,hv => simp at hc
end Bow
/- W25: which operations are valid. -/
namespace Bow
open Go Go.Proofs
theorem text_le_weight (t : Tree) : t.text.length < t.weight:=by have:=weight_eq t;omega
set_option maxRecDepth 100000 in
theorem w_valid (t : Tree) (o : OpT) (ht : t.weight ≤ 1000000) (ho : o.Ok) : Pure Tryz.prog 86 [nodeV t,opV o] (fun x => x = .int .i64 (validE t o)):=by
 have hp:=ho.lt.path
 have hto:=ho.lt.to
 have hpc:=ho.lt.pieces
 have hpl:=ho.each
 refine pure_fn 300 Tryz.func86 rfl rfl rfl fun B => ?_
 show CallThen _ _ _ _ _ _
 refine call_pure (w_At t o.path hp) rfl ?_
 rintro x rfl
 cases hat : atT t o.path with
 | none =>
  repeat' first
   | (refine ⟨fun _ => go 300 ?_,fun _ => go 300 ?_⟩)
   | (refine ⟨trivial,rfl,rfl,rfl,?_⟩)
   | fail
  all_goals (show V.int _ _ = _;simp_all [validE];done)
 | some x =>
  have hxw:=atT_weight hat
  have hxt:=text_le_weight x
  repeat' first
   | (refine ⟨fun _ => go 300 ?_,fun _ => go 300 ?_⟩)
   | (show CallThen _ _ _ _ _ _;refine call_pure (w_into x o.at_) rfl ?_;rintro z rfl)
   | (show CallThen _ _ _ _ _ _;refine call_pure (w_pathWithin o.path o.to hp) rfl ?_;rintro z rfl)
   | (show CallThen _ _ _ _ _ _;refine call_pure (w_edit x.text o.pieces (by omega) (by omega) hpl) rfl ?_;rintro z rfl)
   | (show CallThen _ _ _ _ _ _;refine call_pure (w_At t o.to hto) rfl ?_;rintro z rfl;cases hat2 : atT t o.to with
     | none => exact ⟨trivial,rfl,rfl,rfl,(by show V.int _ _ = _;simp_all [validE])⟩
     | some y =>
      show CallThen _ _ _ _ _ _
      refine call_pure (w_into y o.at_) rfl ?_
      rintro z rfl
      exact ⟨trivial,rfl,rfl,rfl,(by show V.int _ _ = _;simp_all [validE])⟩)
   | (refine ⟨trivial,rfl,rfl,rfl,?_⟩)
   | fail
  all_goals (show V.int _ _ = _;simp_all [validE])
set_option maxHeartbeats 4000000 in
set_option maxRecDepth 100000 in
theorem w_refValid (t : Tree) (o : OpT) (ht : t.weight ≤ 1000000) (ho : o.Ok) : Pure Tryz.prog 91 [nodeV t,opV o] (fun x => x = .int .i64 (ValidE t o)):=by
 have hp:=ho.lt.path
 have hto:=ho.lt.to
 have hpc:=ho.lt.pieces
 have hpl:=ho.each
 refine pure_fn 300 Tryz.func91 rfl rfl rfl fun B => ?_
 show CallThen _ _ _ _ _ _
 refine call_pure (w_refRightT t ht) rfl ?_
 rintro x rfl
 refine ⟨fun g1 => go 300 ?_,fun g1 => go 300 ?_⟩
 ·exact ⟨trivial,rfl,rfl,rfl,by unfold ValidE;rw [g1];rfl⟩
 show CallThen _ _ _ _ _ _
 refine call_pure (w_refFormed o ho.lt ho.each) rfl ?_
 rintro x rfl
 refine ⟨fun g2 => go 300 ?_,fun g2 => go 300 ?_⟩
 ·exact ⟨trivial,rfl,rfl,rfl,by unfold ValidE;rw [g1,g2];rfl⟩
 have hV : ValidE t o = validE t o:=by unfold ValidE;rw [g1,g2];rfl
 rw [hV]
 clear hV g1 g2
 repeat' first
  | (refine ⟨fun _ => go 300 ?_,fun _ => go 300 ?_⟩)
  | (show CallThen _ _ _ _ _ _;refine call_pure (w_refAt t o.path hp) rfl ?_;rintro z rfl;cases hat : atT t o.path with
    | none => exact ⟨trivial,rfl,rfl,rfl,(by show V.int _ _ = _;simp_all [validE])⟩
    | some x =>
     have hxw:=atT_weight hat
     have hxt:=text_le_weight x
     repeat' first
      | (refine ⟨fun _ => go 300 ?_,fun _ => go 300 ?_⟩)
      | (show CallThen _ _ _ _ _ _;refine call_pure (w_refInto x o.at_) rfl ?_;rintro z rfl)
      | (show CallThen _ _ _ _ _ _;refine call_pure (w_refWithin o.path o.to hp) rfl ?_;rintro z rfl)
      | (show CallThen _ _ _ _ _ _;refine call_pure (w_refEdit x.text o.pieces (by omega) (by omega) hpl) rfl ?_;rintro z rfl)
      | (show CallThen _ _ _ _ _ _;refine call_pure (w_refAt t o.to hto) rfl ?_;rintro z rfl;cases hat2 : atT t o.to with
        | none => exact ⟨trivial,rfl,rfl,rfl,(by show V.int _ _ = _;simp_all [validE])⟩
        | some y =>
         show CallThen _ _ _ _ _ _
         refine call_pure (w_refInto y o.at_) rfl ?_
         rintro z rfl
         exact ⟨trivial,rfl,rfl,rfl,(by show V.int _ _ = _;simp_all [validE])⟩)
      | (refine ⟨trivial,rfl,rfl,rfl,?_⟩)
      | fail
     all_goals (show V.int _ _ = _;simp_all [validE]))
  | (refine ⟨trivial,rfl,rfl,rfl,?_⟩)
  | fail
 all_goals (show V.int _ _ = _;simp_all [validE])
end Bow
/- W26: what becomes of a tree. -/
namespace Bow
open Go Go.Proofs
theorem w_apply2 (o : OpT) (y : Tree) : Fun Tryz.prog 128 [some (.box (nodeV y).cells)] [.ptr (.loc 0) 0,.iptr (opV o).cells 0] (fun _ T => T = [some (.box (nodeV (relabelT o.label y)).cells)]):=by
 refine fun_fn 100 Tryz.func128 rfl rfl rfl fun imps B hi => ?_
 obtain ⟨r,rfl⟩:=List.length_eq_one_iff.1 hi
 refine ⟨trivial,rfl,rfl,?_⟩
 cases y
 rfl
set_option maxRecDepth 100000 in
theorem w_apply3 (o : OpT) (y : Tree) (ho : o.Ok) (hy : y.weight ≤ 1000000) : Fun Tryz.prog 129 [some (.box (nodeV y).cells)] [.ptr (.loc 0) 0,.iptr (opV o).cells 0] (fun _ T => T = [some (.box (nodeV (retextT o.pieces y)).cells)]):=by
 refine fun_fn 100 Tryz.func129 rfl rfl rfl fun imps B hi => ?_
 obtain ⟨r,rfl⟩:=List.length_eq_one_iff.1 hi
 have:=text_le_weight y
 show Goes _ _ _ _
 refine goes_draw 100 ⟨_,w_edit y.text o.pieces (by omega) ho.lt.pieces ho.each,rfl,?_⟩
 refine ⟨by kernel_rfl,?_⟩
 refine ⟨trivial,rfl,rfl,?_⟩
 cases y
 rfl
inductive Does (t : Tree) (o : OpT) : Tree → Prop
 | ins (y) (hk : o.kind = 1) (hy : atT t o.path = some y) (h0 : 0 ≤ o.at_) (h1 : o.at_ ≤ y.subs.length) : Does t o (changeT (insT o.at_ (freshT o)) t o.path)
 | del (x) (hk : o.kind = 2) (hne : o.path ≠ []) (hx : atT t o.path = some x) : Does t o (changeT (delT (lastP o.path)) t o.path.dropLast)
 | mov (x z) (hk : o.kind = 3) (hne : o.path ≠ []) (hx : atT t o.path = some x) (hw : within o.path o.to = false) (hz : atT t o.to = some z) (h0 : 0 ≤ o.at_) (h1 : o.at_ ≤ z.subs.length) : Does t o (moveT x t o)
 | lab (y) (hk : o.kind = 5) (hy : atT t o.path = some y) : Does t o (changeT (relabelT o.label) t o.path)
 | edt (y) (hk : o.kind = 6) (hy : atT t o.path = some y) : Does t o (changeT (retextT o.pieces) t o.path)
theorem wk_fresh (o : OpT) : Wk (.agg [.int .u64 o.id,.bool o.leaf,.str o.label,.nilsl,.str [],.nilsl]) (nodeV (freshT o)) :=
 Wk.agg ⟨.refl _,.refl _,.refl _,Wk.nil 2,.refl _,Wk.nil 6,trivial⟩
set_option maxHeartbeats 1000000 in
set_option maxRecDepth 100000 in
theorem w_apply_k (t : Tree) (o : OpT) (m : Tree) (ht : t.weight ≤ 900000) (ho : o.Ok) (hto : o.kind = 3 → ∀ x ∈ o.to,inI x) (h : Does t o m) : Pure Tryz.prog 87 [nodeV t,opV o] (fun x => x = nodeV m):=by
 have hp:=ho.lt.path
 have hpt:=ho.lt.to
 refine pure_fn 300 Tryz.func87 rfl rfl rfl fun B => ?_
 cases h with
 | ins y hk hy h0 h1 =>
  refine ⟨fun g1 => go 300 ?_,fun g1 => absurd hk (ne_of g1)⟩
  show CallThen _ _ _ _ _ _
  refine call_pure (pure_args (w_insert t (freshT o) y o.path o.at_ hp ht hy h0 h1) ⟨.refl _,.refl _,.refl _,wk_fresh o,trivial⟩ rfl rfl) rfl ?_
  rintro z rfl
  exact ⟨trivial,rfl,rfl,rfl,rfl⟩
 | del x hk hne hx =>
  obtain ⟨y,y1,y2,y3,y4⟩:=at_parent hne hx
  refine ⟨fun g1 => absurd (hk.symm.trans (eq_of g1)) (by decide),fun g1 => go 300 ?_⟩
  refine ⟨fun g1 => go 300 ?_,fun g1 => absurd hk (ne_of g1)⟩
  show CallThen _ _ _ _ _ _
  refine call_pure (w_remove t y o.path hp hne ht y1 y2 y3) rfl ?_
  rintro z rfl
  exact ⟨trivial,rfl,rfl,rfl,by rw [lastP_eq];rfl⟩
 | mov x z hk hne hx hw hz h0 h1 =>
  obtain ⟨y,y1,y2,y3,y4⟩:=at_parent hne hx
  refine ⟨fun g1 => absurd (hk.symm.trans (eq_of g1)) (by decide),fun g1 => go 300 ?_⟩
  refine ⟨fun g1 => absurd (hk.symm.trans (eq_of g1)) (by decide),fun g1 => go 300 ?_⟩
  refine ⟨fun g1 => go 300 ?_,fun g1 => absurd hk (ne_of g1)⟩
  show CallThen _ _ _ _ _ _
  refine call_pure (w_At t o.path hp) rfl ?_
  rintro _ rfl
  rw [hx]
  have hzl:=subs_le_weight z
  have hzw:=atT_weight hz
  show CallThen _ _ _ _ _ _
  refine call_pure (w_landing o.path o.to o.at_ hp hpt hne ⟨by omega,by omega⟩ (hto hk) y2) rfl ?_
  rintro _ rfl
  show Goes _ _ _ _
  have hlast:=lastP_eq hne
  have hw' : within (o.path.dropLast ++ [lastP o.path]) o.to = false:=by rw [← hlast,List.dropLast_concat_getLast];exact hw
  obtain ⟨z',z1,z2,z3⟩:=land_at (by rw [← hlast];exact y2) h0 o.path.dropLast o.to t y z y1 (by rw [← hlast];exact y3) hw' hz h1
  have hmw:=change_weight (del_weight (lastP o.path)) o.path.dropLast t
  have hrem:=w_remove t y o.path hp hne ht y1 y2 y3
  have hins:=w_insert (changeT (delT (lastP o.path)) t o.path.dropLast) x z' (landT o.path.dropLast (lastP o.path) o.to o.at_).1 (landT o.path.dropLast (lastP o.path) o.to o.at_).2 (by rw [land_len];exact hpt) (by omega) z1 z2 z3
  rw [← hlast] at hins
  refine goes_draw 300 ⟨_,hrem,rfl,_,hins,rfl,?_⟩
  refine ⟨by kernel_rfl,?_⟩
  refine ⟨trivial,rfl,rfl,rfl,?_⟩
  unfold moveT
  rw [← hlast]
  rfl
 | lab y hk hy =>
  refine ⟨fun g1 => absurd (hk.symm.trans (eq_of g1)) (by decide),fun g1 => go 300 ?_⟩
  refine ⟨fun g1 => absurd (hk.symm.trans (eq_of g1)) (by decide),fun g1 => go 300 ?_⟩
  refine ⟨fun g1 => absurd (hk.symm.trans (eq_of g1)) (by decide),fun g1 => go 300 ?_⟩
  refine ⟨fun g1 => absurd (hk.symm.trans (eq_of g1)) (by decide),fun g1 => go 300 ?_⟩
  refine ⟨fun g1 => go 300 ?_,fun g1 => absurd hk (ne_of g1)⟩
  show CallThen _ _ _ _ _ _
  refine call_freeze 1 rfl rfl ?_
  refine call_pure (w_change1 128 (opV o).cells (relabelT o.label) y (w_apply2 o y) o.path t hp (by omega) hy) rfl ?_
  rintro z rfl
  exact ⟨trivial,rfl,rfl,rfl,rfl⟩
 | edt y hk hy =>
  have hyw:=atT_weight hy
  refine ⟨fun g1 => absurd (hk.symm.trans (eq_of g1)) (by decide),fun g1 => go 300 ?_⟩
  refine ⟨fun g1 => absurd (hk.symm.trans (eq_of g1)) (by decide),fun g1 => go 300 ?_⟩
  refine ⟨fun g1 => absurd (hk.symm.trans (eq_of g1)) (by decide),fun g1 => go 300 ?_⟩
  refine ⟨fun g1 => absurd (hk.symm.trans (eq_of g1)) (by decide),fun g1 => go 300 ?_⟩
  refine ⟨fun g1 => absurd (hk.symm.trans (eq_of g1)) (by decide),fun g1 => go 300 ?_⟩
  show CallThen _ _ _ _ _ _
  refine call_freeze 1 rfl rfl ?_
  refine call_pure (w_change1 129 (opV o).cells (retextT o.pieces) y (w_apply3 o y ho (by omega)) o.path t hp (by omega) hy) rfl ?_
  rintro z rfl
  exact ⟨trivial,rfl,rfl,rfl,rfl⟩
def ApplyV (r : Tree × Int) : V:=.tup [nodeV r.1,.int .i64 r.2]
end Bow
/- SP9: trees that are the same, in plain Lean. -/
namespace Bow
open Go
mutual
def sameT (ids : Bool) : Tree → Tree → Bool
 | .mk i l b a t ss,u => (!ids || decide (i = u.id)) && ((l == u.leaf) && (decide (b = u.label) && (decide (t = u.text) && (decide (a = u.attrs) && sameTs ids ss u.subs))))
def sameTs (ids : Bool) : List Tree → List Tree → Bool
 | [],[] => true
 | s :: ss,u :: us => sameT ids s u && sameTs ids ss us
 | _,_ => false
end
theorem sameT_eq (ids : Bool) (t u : Tree) : sameT ids t u = ((!ids || decide (t.id = u.id)) && ((t.leaf == u.leaf) && (decide (t.label = u.label) && (decide (t.text = u.text) && (decide (t.attrs = u.attrs) && sameTs ids t.subs u.subs))))):=by
 cases t
 rw [sameT]
 rfl
theorem sameTs_len {ids : Bool} : ∀ {ss us : List Tree},sameTs ids ss us = true → ss.length = us.length
 | [],[],_ => rfl
 | [],_ :: _,h => by simp [sameTs] at h
 | _ :: _,[],h => by simp [sameTs] at h
 | s :: ss,u :: us,h => by
  rw [sameTs,Bool.and_eq_true] at h
  simp [sameTs_len h.2]
theorem sameTs_at {ids : Bool} {ss us : List Tree} {i : Nat} (h1 : i < ss.length) (h2 : i < us.length) : sameTs ids (ss.drop i) (us.drop i) = (sameT ids ss[i] us[i] && sameTs ids (ss.drop (i + 1)) (us.drop (i + 1))):=by
 rw [List.drop_eq_getElem_cons h1,List.drop_eq_getElem_cons h2,sameTs]
mutual
theorem sameT_refl (ids : Bool) : ∀ t : Tree,sameT ids t t = true
 | .mk i l b a c ss => by
  rw [sameT_eq]
  simp only [Tree.id,Tree.leaf,Tree.label,Tree.text,Tree.attrs,Tree.subs]
  rw [sameTs_refl ids ss]
  simp
theorem sameTs_refl (ids : Bool) : ∀ ss : List Tree,sameTs ids ss ss = true
 | [] => by rw [sameTs]
 | s :: ss => by rw [sameTs,sameT_refl ids s,sameTs_refl ids ss];rfl
end
end Bow
/- W27: trees that are the same. -/
namespace Bow
open Go Go.Proofs
end Bow
/- W30a: Light, just so. -/
namespace Bow
open Go Go.Proofs
end Bow
/- W31: the reference's Put, put, drop, change. -/
namespace Bow
open Go Go.Proofs
theorem w_CopiedQ (xs : List V) (hl : xs.length ≤ 1000000) : Fun Tryz.prog 137 [] [.sl 1 xs] (fun x T => x = .osl (.loc 0) 0 0 xs.length ∧ T = [some (.vec 0 1 xs)]):=by
 refine fun_fn 100 Tryz.func137 rfl rfl rfl fun imps B hi => ?_
 have : imps = []:=List.length_eq_zero_iff.1 hi
 subst this
 refine ⟨Nat.le_trans (Nat.mul_le_mul_right _ hl) (by decide),?_⟩
 exact ⟨trivial,rfl,rfl,rfl,rfl⟩
set_option maxRecDepth 100000 in
theorem w_refPut (x : Tree) : ∀ (p : List Int) (t y : Tree),p.length ≤ 1000000 → t.weight ≤ 1000000 → atT t p = some y → Pure Tryz.prog 135 [nodeV t,pathV p,nodeV x] (fun r => r = .tup [nodeV (changeT (fun _ => x) t p),.tt])
 | [],t,y,_,_,_ => by
  refine pure_fn 300 Tryz.func135 rfl rfl rfl fun B => ?_
  refine ⟨fun g => go 300 ?_,fun g => absurd rfl (ne_of g)⟩
  exact ⟨trivial,rfl,rfl,rfl,rfl⟩
 | i :: p,t,y,hp,ht,hy => by
  rw [atT] at hy
  cases hs : subT t i with
  | none => rw [hs] at hy;cases hy
  | some s =>
  rw [hs] at hy
  simp only at hy
  obtain ⟨hi,hsi,hm⟩:=subT_some hs
  have hil:=lt_of_get hsi
  have hsw:=weight_sub hm
  have ih:=w_refPut x p s y (by simp at hp;omega) (by omega) hy
  refine pure_fn 300 Tryz.func135 rfl rfl rfl fun B => ?_
  refine ⟨fun g => absurd (eq_of g) (by simp;omega),fun g => go 300 ?_⟩
  show Goes _ _ _ _
  refine goes_draw 300 ?_
  refine ⟨Int.le_refl 0,_,rfl,⟨fun q1 => absurd (lt_of q1) (by omega),fun q1 => ⟨Int.le_refl 0,_,rfl,?_⟩⟩⟩
  refine ⟨by kernel_rfl,?_⟩
  refine ⟨fun q2 => absurd (le_of q2) (by simp [subV_eq];omega),fun q2 => go 300 ?_⟩
  show Goes _ _ _ _
  have hx : t.subV[i.toNat]? = some (nodeV s):=subV_at hsi
  have hil' : i < (t.subV.length : Int):=by rw [subV_len];omega
  have e : V.sl 1 ((((i :: p).map intV).drop (Int.toNat 1)).take (((((i :: p).map intV).length : Nat) : Int).toNat - Int.toNat 1)) = pathV p:=by
   unfold pathV
   rw [List.take_of_length_le (by simp)]
   rfl
  refine goes_draw 300 ⟨Int.le_refl 0,_,rfl,hi,_,hx,by decide,by simp;omega,by omega,.tup [nodeV (changeT (fun _ => x) s p),.tt],?_,rfl,?_⟩
  ·unfold pathV at e ih
   rw [e]
   exact ih
  refine ⟨by kernel_rfl,?_⟩
  refine ⟨by kernel_rfl,?_⟩
  have hsl:=subs_le_weight t
  refine ⟨room_of (by rw [subV_len];omega) (by decide),?_⟩
  show Goes _ _ _ _
  have hx0 : t.subV[0 + i.toNat]? = some (nodeV s):=by rw [Nat.zero_add];exact hx
  refine goes_draw 1 ⟨Int.le_refl 0,_,rfl,rfl,hi,hil',rfl,_,hx0,?_⟩
  refine ⟨by kernel_rfl,?_⟩
  show Goes _ _ _ _
  refine goes_fzSlot 10 4 rfl rfl (by simp) ?_
  refine go 300 ?_
  refine ⟨trivial,rfl,rfl,rfl,?_⟩
  rw [changeT,hs]
  simp only
  rw [withSubs_V,← subV_set,Nat.zero_add]
  rfl
end Bow
/- W32: the reference's put, drop, change, Without. -/
namespace Bow
open Go Go.Proofs
theorem row_ins (t x : Tree) (at_ : Int) : (t.subV.take (at_.toNat - Int.toNat 0 : Nat)).drop 0 ++ [nodeV x] ++ (t.subV.drop at_.toNat).take ((t.subV.length : Int).toNat - at_.toNat) = (t.subs.take at_.toNat ++ x :: t.subs.drop at_.toNat).map nodeV:=by
 rw [subV_eq,List.take_of_length_le (l:=List.drop _ _) (by simp)]
 simp
theorem row_del (t : Tree) (at_ : Int) (h0 : 0 ≤ at_) : (t.subV.take (at_.toNat - Int.toNat 0 : Nat)).drop 0 ++ (t.subV.drop (at_ + 1).toNat).take ((t.subV.length : Int).toNat - (at_ + 1).toNat) = (t.subs.take at_.toNat ++ t.subs.drop (at_.toNat + 1)).map nodeV:=by
 have e : (at_ + 1).toNat = at_.toNat + 1:=by omega
 rw [subV_eq,List.take_of_length_le (l:=List.drop _ _) (by simp),e]
 simp
set_option maxRecDepth 100000 in
theorem w_refputs (t x : Tree) (at_ : Int) (ht : t.weight ≤ 1000000) (h0 : 0 ≤ at_) (h1 : at_ ≤ t.subs.length) : Pure Tryz.prog 94 [nodeV t,.int .i64 at_,nodeV x] (fun r => r = nodeV (insT at_ x t)):=by
 have hsl:=subs_le_weight t
 have hl : t.subV.length = t.subs.length:=subV_len t
 refine pure_fn 300 Tryz.func94 rfl rfl rfl fun B => ?_
 refine ⟨by decide,h0,by rw [hl];exact h1,room_of (by simp;omega) (by decide),?_⟩
 refine ⟨⟨rfl,trivial⟩,?_⟩
 refine ⟨rfl,rfl,rfl,rfl,room_of (by simp;omega) (by decide),?_⟩
 refine ⟨h0,by rw [hl];exact h1,Int.le_refl _,rfl,?_,room_of (by simp;omega) (by decide),?_⟩
 ·simp
 refine ⟨trivial,rfl,rfl,rfl,by simp only [List.length_append],rfl,?_⟩
 rw [insT,withSubs_V,← row_ins]
 rfl
set_option maxRecDepth 100000 in
theorem w_refdrop (t : Tree) (at_ : Int) (ht : t.weight ≤ 1000000) (h0 : 0 ≤ at_) (h1 : at_ < t.subs.length) : Pure Tryz.prog 136 [nodeV t,.int .i64 at_] (fun r => r = nodeV (delT at_ t)):=by
 have hsl:=subs_le_weight t
 have hl : t.subV.length = t.subs.length:=subV_len t
 refine pure_fn 300 Tryz.func136 rfl rfl rfl fun B => ?_
 refine ⟨by decide,h0,by rw [hl];omega,room_of (by simp;omega) (by decide),?_⟩
 refine ⟨⟨by omega,by omega⟩,by omega,by rw [hl];omega,Int.le_refl _,rfl,by simp,room_of (by simp;omega) (by decide),?_⟩
 refine ⟨trivial,rfl,rfl,rfl,by simp [List.length_append],rfl,?_⟩
 rw [delT,withSubs_V,← row_del _ _ h0]
 rfl
set_option maxRecDepth 100000 in
theorem w_refchange (t x y : Tree) (p : List Int) (hp : p.length ≤ 1000000) (ht : t.weight ≤ 1000000) (hy : atT t p = some y) : Pure Tryz.prog 93 [nodeV t,pathV p,nodeV x] (fun r => r = nodeV (changeT (fun _ => x) t p)):=by
 refine pure_fn 300 Tryz.func93 rfl rfl rfl fun B => ?_
 show CallThen _ _ _ _ _ _
 refine call_pure (w_refPut x p t y hp ht hy) rfl ?_
 rintro z rfl
 exact ⟨trivial,rfl,rfl,rfl,rfl⟩
theorem change_const {F : Tree → Tree} {y : Tree} : ∀ {p : List Int} {t : Tree},atT t p = some y → changeT (fun _ => F y) t p = changeT F t p
 | [],t,h => by
  rw [atT] at h
  injection h with h
  subst h
  rfl
 | i :: p,t,h => by
  rw [atT] at h
  cases hs : subT t i with
  | none => rw [hs] at h;cases h
  | some s =>
   rw [hs] at h
   rw [changeT,changeT,hs]
   simp only
   rw [change_const (p:=p) h]
set_option maxRecDepth 100000 in
theorem w_refWithout (t x : Tree) (p : List Int) (hp : p.length ≤ 1000000) (hne : p ≠ []) (ht : t.weight ≤ 1000000) (hx : atT t p = some x) : Pure Tryz.prog 95 [nodeV t,pathV p] (fun r => r = nodeV (withoutT t p)):=by
 obtain ⟨y,y1,y2,y3,y4⟩:=at_parent hne hx
 have hlen : 0 < p.length:=List.length_pos_iff.2 hne
 have hyw:=atT_weight y1
 refine pure_fn 300 Tryz.func95 rfl rfl rfl fun B => ?_
 refine ⟨by constructor <;> simp <;> omega,by decide,by simp;omega,by simp;omega,?_⟩
 have e : (List.take ((((p.map intV).length : Int) - 1).toNat - Int.toNat 0) (List.drop (Int.toNat 0) (p.map intV))) = p.dropLast.map intV:=by
  rw [List.dropLast_eq_take,List.map_take]
  simp
 show CallThen _ _ _ _ _ _
 rw [e]
 refine call_pure (w_refAt t p.dropLast (by simp;omega)) rfl ?_
 rintro z rfl
 rw [y1]
 show Goes _ _ _ _
 have hg : (p.map intV)[(((p.map intV).length : Int) - 1).toNat]? = some (intV (lastP p)):=by
  have e1 : (((p.map intV).length : Int) - 1).toNat = p.length - 1:=by simp
  rw [e1,List.getElem?_map,← List.getLast?_eq_getElem?,List.getLast?_eq_some_getLast hne,lastP_eq hne]
  rfl
 have hlast:=lastP_eq hne
 refine goes_draw 300 ⟨⟨by simp;omega,by simp;omega⟩,by simp;omega,_,hg,_,w_refdrop y (lastP p) (by omega) (by omega) (by omega),rfl,_,w_refchange t (delT (lastP p) y) y p.dropLast (by simp;omega) ht y1,rfl,?_⟩
 refine ⟨by kernel_rfl,?_⟩
 refine ⟨trivial,rfl,rfl,rfl,?_⟩
 rw [change_const (F:=delT (lastP p)) y1]
 rfl
end Bow
/- W33: the reference's attr. -/
namespace Bow
open Go Go.Proofs
theorem withAttrs_V (t : Tree) (a : AttrL) : nodeV (t.withAttrs a) = .agg [.int .u64 t.id, .bool t.leaf, .str t.label, .sl 2 (a.map attrV), .str t.text, .sl 6 t.subV] := by
  cases t
  rfl
theorem attrs_le_weight (t : Tree) : t.attrs.length ≤ t.weight := by rw [weight_eq]; omega
set_option maxHeartbeats 1000000 in
set_option maxRecDepth 100000 in
theorem w_refattr (t : Tree) (o : OpT) (ht : t.weight ≤ 400000) : Pure Tryz.prog 97 [nodeV t, opV o] (fun r => r = nodeV (t.withAttrs (refA o o.gone t.attrs))) := by
  have hal := attrs_le_weight t
  refine pure_fn 300 Tryz.func97 rfl rfl rfl fun B => ?_
  show Goes _ _ _ _
  refine goes_own 5 2 rfl ?_
  refine goes_iter (ι := Nat × Bool × Nat × Nat × List V) (fun i => i.1 ≤ t.attrs.length ∧ ∃ acc : AttrL, i.2.2.2.2 = acc.map attrV ∧ i.2.2.2.1 = acc.length ∧ acc.length ≤ 2 * i.1 ∧ acc ++ refA o i.2.1 (t.attrs.drop i.1) = refA o o.gone t.attrs) (fun i => t.attrs.length - i.1)
    (fun i => [(7, .int .i64 i.1), (6, .bool i.2.1), (5, .osl (.loc 3) i.2.2.1 0 i.2.2.2.1), (2, .ptr (.loc 0) 0), (3, .ptr (.loc 1) 0), (4, .ptr (.loc 2) 0)])
    (fun i => [some (.box (nodeV t).cells), some (.box (opV o).cells), some (.box (zeroV .nilsl).cells), some (.vec i.2.2.1 2 i.2.2.2.2)]) (0, o.gone, 0, 0, []) 300 (fun _ => rfl) (fun _ => rfl) ⟨⟨Nat.zero_le _, [], rfl, rfl, Nat.le_refl _, rfl⟩, ?_, ?_⟩ ?_
  · exact ⟨⟨rfl, rfl⟩, ⟨rfl, rfl⟩, ⟨rfl, rfl⟩, ⟨rfl, rfl⟩, ⟨rfl, rfl⟩, ⟨rfl, rfl⟩, trivial⟩
  · exact ⟨⟨rfl, rfl⟩, ⟨rfl, rfl⟩, ⟨rfl, rfl⟩, ⟨rfl, rfl⟩, trivial⟩
  rintro ⟨i, d, g, n, xs⟩ ⟨k1, acc, rfl, rfl, k2, k3⟩ next
  simp only at k1 k2 k3
  refine ⟨fun hlt => go 300 ?_, fun hge => go 300 ?_⟩
  · have hi : i < t.attrs.length := by simpa using hlt
    have hx : (t.attrs.map attrV)[i]? = some (attrV t.attrs[i]) := by simp [hi]
    rw [drop_cons hi, refA] at k3
    show Goes _ _ _ _
    refine goes_draw 300 ⟨fun q1 => ⟨Int.natCast_nonneg i, _, hx, ?_⟩, fun q1 => ?_⟩
    all_goals refine ⟨by kernel_rfl, ?_⟩
    · have hd : d = false := by simpa using q1
      subst hd
      refine ⟨fun q2 => go 300 ?_, fun q2 => go 300 ?_⟩
      · have hl : Op.bytesLess t.attrs[i].1 o.key = false := by simpa using q2
        rw [hl] at k3
        refine ⟨⟨rfl, trivial⟩, rfl, rfl, rfl, (by simp), room_of (by simp; omega) (by decide), ?_⟩
        show Goes _ _ _ _
        refine goes_draw 300 ⟨Int.natCast_nonneg i, _, hx, ?_⟩
        refine ⟨by kernel_rfl, ?_⟩
        refine ⟨fun q3 => go 300 ?_, fun q3 => go 300 ?_⟩
        · have he : decide (t.attrs[i].1 = o.key) = false := by simpa using q3
          rw [he] at k3
          refine ⟨Int.natCast_nonneg i, _, hx, ⟨rfl, trivial⟩, rfl, rfl, rfl, (by simp), room_of (by simp; omega) (by decide), ?_⟩
          refine ⟨by constructor <;> omega, ?_⟩
          show Goes _ _ _ _
          refine goes_wkSlot 6 (v := .tt) (v' := .bool true) rfl rfl rfl Wk.tt ?_
          refine next (i + 1, true, _, _, _) _ _ ⟨⟨hi, acc ++ [(o.key, o.value)] ++ [t.attrs[i]], ?_, ?_, ?_, ?_⟩, ?_, ⟨⟨rfl, rfl⟩, ⟨rfl, rfl⟩, ⟨rfl, rfl⟩, ⟨rfl, rfl⟩, ⟨rfl, rfl⟩, ⟨rfl, rfl⟩, trivial⟩, ⟨⟨rfl, rfl⟩, ⟨rfl, rfl⟩, ⟨rfl, rfl⟩, ⟨rfl, rfl⟩, trivial⟩⟩
          · simp [attrV]
          · simp
          · simp; omega
          · simpa using k3
          · simp only; omega
        · have he : decide (t.attrs[i].1 = o.key) = true := by simpa using q3
          rw [he] at k3
          refine ⟨by constructor <;> omega, ?_⟩
          show Goes _ _ _ _
          refine goes_wkSlot 6 (v := .tt) (v' := .bool true) rfl rfl rfl Wk.tt ?_
          refine next (i + 1, true, _, _, _) _ _ ⟨⟨hi, acc ++ [(o.key, o.value)], ?_, ?_, ?_, ?_⟩, ?_, ⟨⟨rfl, rfl⟩, ⟨rfl, rfl⟩, ⟨rfl, rfl⟩, ⟨rfl, rfl⟩, ⟨rfl, rfl⟩, ⟨rfl, rfl⟩, trivial⟩, ⟨⟨rfl, rfl⟩, ⟨rfl, rfl⟩, ⟨rfl, rfl⟩, ⟨rfl, rfl⟩, trivial⟩⟩
          · simp [attrV]
          · simp
          · simp; omega
          · simpa using k3
          · simp only; omega
      · have hl : Op.bytesLess t.attrs[i].1 o.key = true := by simpa using q2
        rw [hl] at k3
        show Goes _ _ _ _
        refine goes_draw 300 ⟨Int.natCast_nonneg i, _, hx, ?_⟩
        refine ⟨by kernel_rfl, ?_⟩
        refine ⟨fun q3 => go 300 ?_, fun q3 => go 300 ?_⟩
        · have he : decide (t.attrs[i].1 = o.key) = false := by simpa using q3
          rw [he] at k3
          refine ⟨Int.natCast_nonneg i, _, hx, ⟨rfl, trivial⟩, rfl, rfl, rfl, (by simp), room_of (by simp; omega) (by decide), ?_⟩
          refine ⟨by constructor <;> omega, ?_⟩
          show Goes _ _ _ _
          refine next (i + 1, false, bump g, (acc.map attrV).length + 1, acc.map attrV ++ [attrV t.attrs[i]]) _ _ ⟨⟨hi, acc ++ [t.attrs[i]], ?_, ?_, ?_, ?_⟩, ?_, ⟨⟨rfl, rfl⟩, ⟨rfl, rfl⟩, ⟨rfl, rfl⟩, ⟨rfl, rfl⟩, ⟨rfl, rfl⟩, ⟨rfl, rfl⟩, trivial⟩, ⟨⟨rfl, rfl⟩, ⟨rfl, rfl⟩, ⟨rfl, rfl⟩, ⟨rfl, rfl⟩, trivial⟩⟩
          · simp [attrV]
          · simp
          · simp; omega
          · simpa using k3
          · simp only; omega
        · have he : decide (t.attrs[i].1 = o.key) = true := by simpa using q3
          rw [he] at k3
          refine ⟨by constructor <;> omega, ?_⟩
          show Goes _ _ _ _
          refine next (i + 1, false, _, _, _) _ _ ⟨⟨hi, acc, ?_, ?_, ?_, ?_⟩, ?_, ⟨⟨rfl, rfl⟩, ⟨rfl, rfl⟩, ⟨rfl, rfl⟩, ⟨rfl, rfl⟩, ⟨rfl, rfl⟩, ⟨rfl, rfl⟩, trivial⟩, ⟨⟨rfl, rfl⟩, ⟨rfl, rfl⟩, ⟨rfl, rfl⟩, ⟨rfl, rfl⟩, trivial⟩⟩
          · simp
          · simp
          · simp; omega
          · simpa using k3
          · simp only; omega
    · have hd : d = true := by simpa using q1
      subst hd
      show Goes _ _ _ _
      refine goes_draw 300 ⟨Int.natCast_nonneg i, _, hx, ?_⟩
      refine ⟨by kernel_rfl, ?_⟩
      refine ⟨fun q3 => go 300 ?_, fun q3 => go 300 ?_⟩
      · have he : decide (t.attrs[i].1 = o.key) = false := by simpa using q3
        rw [he] at k3
        refine ⟨Int.natCast_nonneg i, _, hx, ⟨rfl, trivial⟩, rfl, rfl, rfl, (by simp), room_of (by simp; omega) (by decide), ?_⟩
        refine ⟨by constructor <;> omega, ?_⟩
        show Goes _ _ _ _
        refine next (i + 1, true, bump g, (acc.map attrV).length + 1, acc.map attrV ++ [attrV t.attrs[i]]) _ _ ⟨⟨hi, acc ++ [t.attrs[i]], ?_, ?_, ?_, ?_⟩, ?_, ⟨⟨rfl, rfl⟩, ⟨rfl, rfl⟩, ⟨rfl, rfl⟩, ⟨rfl, rfl⟩, ⟨rfl, rfl⟩, ⟨rfl, rfl⟩, trivial⟩, ⟨⟨rfl, rfl⟩, ⟨rfl, rfl⟩, ⟨rfl, rfl⟩, ⟨rfl, rfl⟩, trivial⟩⟩
        · simp [attrV]
        · simp
        · simp; omega
        · simpa using k3
        · simp only; omega
      · have he : decide (t.attrs[i].1 = o.key) = true := by simpa using q3
        rw [he] at k3
        refine ⟨by constructor <;> omega, ?_⟩
        show Goes _ _ _ _
        refine next (i + 1, true, _, _, _) _ _ ⟨⟨hi, acc, ?_, ?_, ?_, ?_⟩, ?_, ⟨⟨rfl, rfl⟩, ⟨rfl, rfl⟩, ⟨rfl, rfl⟩, ⟨rfl, rfl⟩, ⟨rfl, rfl⟩, ⟨rfl, rfl⟩, trivial⟩, ⟨⟨rfl, rfl⟩, ⟨rfl, rfl⟩, ⟨rfl, rfl⟩, ⟨rfl, rfl⟩, trivial⟩⟩
        · simp
        · simp
        · simp; omega
        · simpa using k3
        · simp only; omega
  · have hi : i = t.attrs.length := by have : t.attrs.length ≤ i := by simpa using hge
                                       omega
    subst hi
    rw [List.drop_length, refA] at k3
    refine ⟨fun q1 => go 300 ?_, fun q1 => go 300 ?_⟩
    · have hd : d = false := by simpa using q1
      subst hd
      refine ⟨⟨rfl, trivial⟩, rfl, rfl, rfl, (by simp), room_of (by simp; omega) (by decide), ?_⟩
      refine ⟨trivial, rfl, rfl, rfl, (by simp), rfl, ?_⟩
      rw [withAttrs_V, ← k3]
      simp [attrV]
    · have hd : d = true := by simpa using q1
      subst hd
      refine ⟨trivial, rfl, rfl, rfl, (by simp), rfl, ?_⟩
      rw [withAttrs_V, ← k3]
      simp
end Bow
/- W34: the reference's move. -/
namespace Bow
open Go Go.Proofs
theorem pure_sl_cast {P : Program} {f : FuncId} {a : V} {sz : Nat} {q q' : List V} {Q : V → Prop} (h : Pure P f [a,.sl sz q'] Q) (e : q = q') : Pure P f [a,.sl sz q] Q:=e ▸ h
set_option maxHeartbeats 1000000 in
set_option maxRecDepth 100000 in
theorem w_refmove (t x z : Tree) (o : OpT) (ht : t.weight ≤ 400000) (ho : o.Ok) (hfr : ∀ i ∈ o.path,inI (i + 1)) (hne : o.path ≠ []) (hx : atT t o.path = some x) (hw : within o.path o.to = false) (hz : atT t o.to = some z) (h0 : 0 ≤ o.at_) (h1 : o.at_ ≤ z.subs.length) :
  Pure Tryz.prog 96 [nodeV t,opV o] (fun r => r = nodeV (moveT x t o)):=by
 have hp:=ho.lt.path
 have hpt:=ho.lt.to
 have hxw:=atT_weight hx
 have hzw:=atT_weight hz
 have hmw:=change_weight_add (F:=insT o.at_ x) (n:=x.weight) (ins_weight o.at_ x) o.to t
 obtain ⟨s',hs'⟩:=lift_at h0 x o.path o.to t x z hne hx hw hz h1
 have law:=move_law h0 x o.path o.to t x z hne hx hw hz h1
 refine pure_fn 300 Tryz.func96 rfl rfl rfl fun B => ?_
 show CallThen _ _ _ _ _ _
 refine call_pure (w_refAt t o.path hp) rfl ?_
 rintro _ rfl
 rw [hx]
 show CallThen _ _ _ _ _ _
 refine call_pure (w_refAt t o.to hpt) rfl ?_
 rintro _ rfl
 rw [hz]
 show Goes _ _ _ _
 refine goes_draw 300 ⟨_,w_refputs z x o.at_ (by omega) h0 h1,rfl,_,w_refchange t (insT o.at_ x z) z o.to hpt (by omega) hz,rfl,?_⟩
 rw [change_const (F:=insT o.at_ x) hz]
 refine ⟨by kernel_rfl,?_⟩
 refine ⟨by kernel_rfl,?_⟩
 show CallThen _ _ _ _ _ _
 refine call_sub [] (w_CopiedQ (o.path.map intV) (by simpa using hp)) rfl rfl trivial rfl rfl rfl ?_
 rintro r T1 ⟨rfl,rfl⟩
 refine ⟨rfl,?_⟩
 show Goes _ _ _ _
 have hwith:=w_refWithin o.to o.path hpt
 have hm : (changeT (insT o.at_ x) t o.to).weight ≤ 1000000:=by omega
 have hwo : Pure Tryz.prog 95 [nodeV (changeT (insT o.at_ x) t o.to),pathV (liftP o.to o.at_ o.path)] (fun r => r = nodeV (moveT x t o)):=by
  have:=w_refWithout (changeT (insT o.at_ x) t o.to) s' (liftP o.to o.at_ o.path) (by rw [lift_len];exact hp) (fun e => hne (List.length_eq_zero_iff.1 (by rw [← lift_len o.to o.at_ o.path,e];rfl))) hm hs'
  rw [law] at this
  exact this
 have hsame : (decide (o.to.length < o.path.length) && (within o.to o.path && decide (o.at_ ≤ o.path.getD o.to.length 0))) = false → liftP o.to o.at_ o.path = o.path:=fun h => by unfold liftP;rw [h];rfl
 refine goes_draw 300 ⟨rfl,fun q1 => ⟨rfl,rfl,_,hwith,rfl,⟨fun q2 => ?_,fun q2 => ?_⟩⟩,fun q1 => ?_⟩
 ·have hd : o.to.length < o.path.length:=by have:=lt_of q1;simp at this;omega
  have hg : (o.path.map intV)[0 + (((o.to.map intV).length : Nat) : Int).toNat]? = some (intV o.path[o.to.length]):=by simp [hd]
  have hgd : o.path.getD o.to.length 0 = o.path[o.to.length]:=by simp [List.getD_eq_getElem?_getD,hd]
  have hb0 : (0 : Int) ≤ ((o.to.map intV).length : Nat):=Int.natCast_nonneg _
  have hb1 : (((o.to.map intV).length : Nat) : Int) < ((o.path.map intV).length : Nat):=by simp;omega
  refine ⟨rfl,hb0,hb1,rfl,_,hg,?_⟩
  refine ⟨by kernel_rfl,?_⟩
  refine ⟨fun q3 => go 300 ?_,fun q3 => go 300 ?_⟩
  ·have hin:=hfr _ (List.getElem_mem hd)
   refine ⟨rfl,hb0,hb1,rfl,_,hg,hin,rfl,hb0,hb1,rfl,_,hg,?_⟩
   show CallThen _ _ _ _ _ _
   refine call_pure_frz ?_
   refine ⟨rfl,by simp,fun r => r = nodeV (moveT x t o),?_,rfl,?_⟩
   ·refine pure_sl_cast (q':=(liftP o.to o.at_ o.path).map intV) hwo ?_
    have e : liftP o.to o.at_ o.path = o.path.set o.to.length (o.path[o.to.length] + 1):=by
     unfold liftP
     have q2 : within o.to o.path = true:=by simpa using q2
     have q3 : o.at_ ≤ o.path[o.to.length]:=le_of q3
     rw [hgd,decide_eq_true hd,q2,decide_eq_true q3]
     rfl
    rw [e,List.map_set]
    simp
    rfl
   ·rintro r rfl
    exact ⟨trivial,rfl,rfl,rfl,rfl⟩
  ·have e:=hsame (by
    have q3:=not_le_of q3
    rw [hgd,decide_eq_false (by omega : ¬ o.at_ ≤ o.path[o.to.length])]
    simp)
   rw [e] at hwo
   show CallThen _ _ _ _ _ _
   refine call_pure_frz ?_
   refine ⟨rfl,rfl,fun r => r = nodeV (moveT x t o),hwo,rfl,?_⟩
   rintro r rfl
   exact ⟨trivial,rfl,rfl,rfl,rfl⟩
 ·have e:=hsame (by
   have q2 : within o.to o.path = false:=by simpa using q2
   rw [q2]
   simp)
  rw [e] at hwo
  refine ⟨by kernel_rfl,?_⟩
  show CallThen _ _ _ _ _ _
  refine call_pure_frz ?_
  refine ⟨rfl,rfl,fun r => r = nodeV (moveT x t o),hwo,rfl,?_⟩
  rintro r rfl
  exact ⟨trivial,rfl,rfl,rfl,rfl⟩
 ·have e:=hsame (by
   have q1 : ¬ o.to.length < o.path.length:=by have:=not_lt_of q1;simp at this;omega
   rw [decide_eq_false q1]
   rfl)
  rw [e] at hwo
  refine ⟨by kernel_rfl,?_⟩
  show CallThen _ _ _ _ _ _
  refine call_pure_frz ?_
  refine ⟨rfl,rfl,fun r => r = nodeV (moveT x t o),hwo,rfl,?_⟩
  rintro r rfl
  exact ⟨trivial,rfl,rfl,rfl,rfl⟩
end Bow
/- WB2: strings.Compare at this program: by the kit's own tactics. -/
namespace Bow
open Go Go.Proofs Go.RowKit Go.Shelf
set_option maxHeartbeats 1000000 in
set_option maxRecDepth 100000 in
theorem c_CompareString (a b : ByteArray) (w : World) :
  Calls Tryz.prog 192 #[.string a,.string b] w fun e w' => e = .returned (.int .i64 (Lib.compareBytes a.data.toList b.data.toList)) ∧ w' = w:=by
 go_enter Tryz.func192,Tryz.ntmps192
 go_wp2
 rw [run_callFunc_extern Tryz.func204 (by kernel_rfl) (by kernel_rfl) (by kernel_rfl) (e:=Extern.BytealgCompare.compare) (by kernel_rfl),Lib.run_compareString]
 simp only [Result.andThen]
 rw [Oper.upon_value]
 go_wp2
 go_ret
 exact ⟨rfl,rfl⟩
set_option maxHeartbeats 1000000 in
set_option maxRecDepth 100000 in
theorem c_Compare (a b : ByteArray) (w : World) :
  Calls Tryz.prog 167 #[.string a,.string b] w fun e w' => e = .returned (.int .i64 (Lib.compareBytes a.data.toList b.data.toList)) ∧ w' = w:=by
 go_enter Tryz.func167,Tryz.ntmps167
 go_wp2_with (go_at_call 192;refine (c_CompareString _ _ _).mono ?_;rintro e w' ⟨rfl,rfl⟩)
 go_ret
 exact ⟨rfl,rfl⟩
theorem w_Compare (a b : List UInt8) : Pure Tryz.prog 167 [.str a,.str b] (fun x => x = .int .i64 (Lib.compareBytes a b)):=by
 refine pure_of_calls ⟨_,Tryz.func167,rfl,rfl⟩ rfl fun w β H vals hv hr => ?_
 obtain ⟨v0,v1,rfl⟩ : ∃ v0 v1,vals = #[v0,v1]:=by
  obtain ⟨l⟩:=vals
  match l,hv with
  | [v0,v1],_ => exact ⟨v0,v1,rfl⟩
 obtain ⟨rfl,_⟩:=rep_str (m:=[]) (hr 0 _ v0 rfl rfl)
 obtain ⟨rfl,_⟩:=rep_str (m:=[]) (hr 1 _ v1 rfl rfl)
 refine (c_Compare ⟨a.toArray⟩ ⟨b.toArray⟩ w).mono ?_
 rintro e w' ⟨rfl,rfl⟩
 exact ⟨Below.refl _ _,.int .i64 (Lib.compareBytes a b),_,rfl,rfl,rfl,.int _ _⟩
end Bow
/- W35: the program's search for an attribute. -/
namespace Bow
open Go Go.Proofs
theorem w_cmpAttr (a : List UInt8 × List UInt8) (k : List UInt8) : Pure Tryz.prog 166 [attrV a,.str k] (fun x => x = .int .i64 (Lib.compareBytes a.1 k)):=by
 refine pure_fn 300 Tryz.func166 rfl rfl rfl fun B => ?_
 show CallThen _ _ _ _ _ _
 refine call_pure (w_Compare a.1 k) rfl ?_
 rintro x rfl
 exact ⟨trivial,rfl,rfl,rfl,rfl⟩
theorem half_eq (i j : Nat) (h : i + j ≤ 2000000) : IntKind.i64.wrap (IntKind.u64.wrap ((i : Int) + j) / 2 ^ min (1 : Int).toNat IntKind.u64.bits) = (((i + j) / 2 : Nat) : Int):=by
 have e : IntKind.u64.wrap ((i : Int) + j) = ((i + j : Nat) : Int):=by
  unfold IntKind.wrap
  simp [IntKind.signed,IntKind.bits]
  omega
 rw [e]
 unfold IntKind.wrap
 simp [IntKind.signed,IntKind.bits]
 omega
set_option maxRecDepth 100000 in
theorem w_search (l : AttrL) (k : List UInt8) (k0 : Option (List UInt8)) (hl : l.length ≤ 1000000) (hs : attrsOk k0 l = true) : Pure Tryz.prog 165 [.sl 2 (l.map attrV),.str k,.fn (.func 166) [] []] (fun x => x = .tup [.int .i64 (posK k l),.bool (hasK k l)]):=by
 have hpl:=pos_le k l
 refine pure_wk (pure_fn 300 Tryz.func165 rfl rfl rfl fun B => ?_)
 show Goes _ _ _ _
 refine goes_while (ι:=Nat × Nat) (κ:=Unit) (fun i => i.1 ≤ posK k l ∧ posK k l ≤ i.2 ∧ i.2 ≤ l.length) (fun i => i.2 - i.1)
  (fun i => [(9,.int .i64 i.1),(10,.int .i64 i.2),(8,.int .i64 (l.map attrV).length),(0,.sl 2 (l.map attrV)),(1,.str k),(2,.fn (.func 166) [] [])]) (fun _ => []) (0,(l.map attrV).length) (fun _ => True)
  (fun _ => [(9,.int .i64 (posK k l)),(8,.int .i64 (l.map attrV).length),(0,.sl 2 (l.map attrV)),(1,.str k),(2,.fn (.func 166) [] [])]) (fun _ => []) 300 (fun _ => rfl) (fun _ => rfl) (fun _ => rfl) (fun _ => rfl) ⟨⟨Nat.zero_le _,by simpa using hpl,by simp⟩,?_,trivial⟩ ?_ ?_
 ·exact ⟨⟨rfl,rfl⟩,⟨rfl,rfl⟩,⟨rfl,rfl⟩,⟨rfl,rfl⟩,⟨rfl,rfl⟩,⟨rfl,rfl⟩,trivial⟩
 ·rintro ⟨⟩ _
  refine ⟨fun q1 => go 300 ?_,fun q1 => go 300 ?_⟩
  ·have hp : posK k l < l.length:=by have:=lt_of q1;simp at this;omega
   have hx : (l.map attrV)[posK k l]? = some (attrV l[posK k l]):=by simp [hp]
   refine ⟨Int.natCast_nonneg _,_,hx,?_⟩
   show CallThen _ _ _ _ _ _
   refine call_pure (w_cmpAttr l[posK k l] k) rfl ?_
   rintro x rfl
   refine ⟨trivial,rfl,rfl,rfl,_,Wk.refl _,rfl,?_⟩
   have hgd : l.getD (posK k l) ([],[]) = l[posK k l]:=by simp [List.getD_eq_getElem?_getD,hp]
   have e : hasK k l = decide (Lib.compareBytes l[posK k l].1 k = 0):=by
    unfold hasK
    rw [decide_eq_true hp,Bool.true_and,hgd]
    exact decide_eq_decide.2 (cmp_zero _ _).symm
   rw [e]
  ·have hp : ¬ posK k l < l.length:=by have:=not_lt_of q1;simp at this;omega
   refine ⟨trivial,rfl,rfl,rfl,.tup [.int .i64 (posK k l),.bool false],Wk.tup ⟨.refl _,Wk.ff,trivial⟩,rfl,?_⟩
   have e : hasK k l = false:=by unfold hasK;rw [decide_eq_false hp];rfl
   rw [e]
 ·rintro ⟨i,j⟩ ⟨k1,k2,k3⟩ next post
  simp only at k1 k2 k3
  refine ⟨fun hlt => go 300 ?_,fun hge => go 300 ?_⟩
  ·have hij : i < j:=by have:=lt_of hlt;omega
   refine ⟨by constructor <;> simp only <;> omega,?_⟩
   show Goes _ _ _ _
   refine goes_shr 2 rfl rfl rfl rfl rfl (by decide) ?_
   show Goes _ _ _ _
   refine goes_wkSlot 11 (v':=.int .i64 (((i + j) / 2 : Nat) : Int)) rfl rfl rfl (Wk.of_eq (congrArg (V.int .i64) (half_eq i j (by omega)))) ?_
   refine go 300 ?_
   obtain ⟨m,hm⟩ : ∃ m,(i + j) / 2 = m:=⟨_,rfl⟩
   have hml : m < l.length:=by omega
   have hx : (l.map attrV)[m]? = some (attrV l[m]):=by simp [hml]
   rw [hm]
   refine ⟨Int.natCast_nonneg _,_,hx,?_⟩
   show CallThen _ _ _ _ _ _
   refine call_pure (w_cmpAttr l[m] k) rfl ?_
   rintro x rfl
   have hpi:=pos_iff k hs m hml
   refine ⟨fun q2 => go 300 ?_,fun q2 => go 300 ?_⟩
   ·have q2:=hpi.1 ((cmp_less _ _).1 (lt_of q2))
    refine ⟨by constructor <;> omega,?_⟩
    show Goes _ _ _ _
    refine next (m + 1,j) _ _ ⟨⟨q2,k2,k3⟩,by simp only;omega,⟨⟨rfl,rfl⟩,⟨rfl,rfl⟩,⟨rfl,rfl⟩,⟨rfl,rfl⟩,⟨rfl,rfl⟩,⟨rfl,rfl⟩,trivial⟩,trivial⟩
   ·have q2 : ¬ m < posK k l:=fun h => by
     have:=(cmp_less _ _).2 (hpi.2 h)
     have:=not_lt_of q2
     omega
    show Goes _ _ _ _
    refine next (i,m) _ _ ⟨⟨k1,by simp only;omega,by simp only;omega⟩,by simp only;omega,⟨⟨rfl,rfl⟩,⟨rfl,rfl⟩,⟨rfl,rfl⟩,⟨rfl,rfl⟩,⟨rfl,rfl⟩,⟨rfl,rfl⟩,trivial⟩,trivial⟩
  ·have hij : i = posK k l:=by have:=not_lt_of hge;omega
   subst hij
   exact post () _ _ _ rfl ⟨trivial,⟨⟨rfl,rfl⟩,⟨rfl,rfl⟩,⟨rfl,rfl⟩,⟨rfl,rfl⟩,⟨rfl,rfl⟩,trivial⟩,trivial⟩
end Bow
/- W36: the program's setAttr. -/
namespace Bow
open Go Go.Proofs
set_option maxHeartbeats 1000000 in
set_option maxRecDepth 100000 in
theorem w_setAttr (o : OpT) (y : Tree) (k0 : Option (List UInt8)) (hs : attrsOk k0 y.attrs = true) (hl : y.attrs.length ≤ 900000) : Fun Tryz.prog 127 [some (.box (nodeV y).cells)] [.ptr (.loc 0) 0,opV o] (fun _ T => T = [some (.box (nodeV (setAT o y)).cells)]):=by
 refine fun_keep 1 rfl (fun_fn 300 Tryz.func127 rfl rfl rfl fun imps B hi => ?_)
 obtain ⟨r,rfl⟩:=List.length_eq_one_iff.1 hi
 have hpl:=pos_le o.key y.attrs
 have hpl' : ((posK o.key y.attrs : Nat) : Int) ≤ (y.attrs.map attrV).length:=by simp;omega
 have hsr:=w_search y.attrs o.key k0 (by omega) hs
 show Goes _ _ _ _
 refine goes_draw 300 ⟨_,hsr,rfl,?_⟩
 refine ⟨by kernel_rfl,?_⟩
 refine ⟨fun q1 => go 300 ?_,fun q1 => go 300 ?_⟩
 ·have q1 : hasK o.key y.attrs = true:=by simpa using q1
  have hp : posK o.key y.attrs < y.attrs.length:=by
   unfold hasK at q1
   simp only [Bool.and_eq_true,decide_eq_true_eq] at q1
   exact q1.1
  have hpl'' : ((posK o.key y.attrs : Nat) : Int) + 1 ≤ (y.attrs.map attrV).length:=by simp;omega
  have hp0 : (0 : Int) ≤ ((posK o.key y.attrs : Nat) : Int) + 1:=by omega
  refine ⟨by constructor <;> omega,?_⟩
  refine ⟨fun q2 => go 300 ?_,fun q2 => go 300 ?_⟩
  ·have q2 : o.gone = false:=by simpa using q2
   refine ⟨⟨rfl,trivial⟩,?_⟩
   show Goes _ _ _ _
   have hc:=w_ConcatAttr [(((y.attrs.map attrV).drop (Int.toNat 0)).take (((posK o.key y.attrs : Nat) : Int).toNat - Int.toNat 0)),[attrV (o.key,o.value)],(((y.attrs.map attrV).drop (((posK o.key y.attrs : Nat) : Int) + 1).toNat).take (((y.attrs.map attrV).length : Int).toNat - (((posK o.key y.attrs : Nat) : Int) + 1).toNat))] (by simp;omega) (by simp)
   refine goes_draw 300 ⟨by decide,Int.natCast_nonneg _,hpl',hp0,hpl'',Int.le_refl _,?_⟩
   refine ⟨by kernel_rfl,rfl,rfl,⟨rfl,rfl,rfl,trivial⟩,rfl,rfl,rfl,_,hc,rfl,?_⟩
   refine ⟨by kernel_rfl,?_⟩
   refine ⟨trivial,rfl,rfl,[some (.box [.int .u64 y.id,.bool y.leaf,.str y.label,.sl 2 [(((y.attrs.map attrV).drop (Int.toNat 0)).take (((posK o.key y.attrs : Nat) : Int).toNat - Int.toNat 0)),[attrV (o.key,o.value)],(((y.attrs.map attrV).drop (((posK o.key y.attrs : Nat) : Int) + 1).toNat).take (((y.attrs.map attrV).length : Int).toNat - (((posK o.key y.attrs : Nat) : Int) + 1).toNat))].flatten,.str y.text,.sl 6 y.subV])],rfl,rfl,⟨⟨rfl,rfl⟩,trivial⟩,?_⟩
   have e : [(((y.attrs.map attrV).drop (Int.toNat 0)).take (((posK o.key y.attrs : Nat) : Int).toNat - Int.toNat 0)),[attrV (o.key,o.value)],(((y.attrs.map attrV).drop (((posK o.key y.attrs : Nat) : Int) + 1).toNat).take (((y.attrs.map attrV).length : Int).toNat - (((posK o.key y.attrs : Nat) : Int) + 1).toNat))].flatten = (setA o y.attrs).map attrV:=by
    unfold setA midA
    rw [q1,q2]
    rw [List.take_of_length_le (l:=List.drop (((posK o.key y.attrs : Nat) : Int) + 1).toNat (y.attrs.map attrV)) (by simp)]
    have e1 : (((posK o.key y.attrs : Nat) : Int) + 1).toNat = posK o.key y.attrs + 1:=by omega
    rw [e1]
    simp [List.map_take,List.map_drop]
   rw [e,setAT,withAttrs_V]
   rfl
  ·have q2 : o.gone = true:=by simpa using q2
   show Goes _ _ _ _
   have hc:=w_ConcatAttr [(((y.attrs.map attrV).drop (Int.toNat 0)).take (((posK o.key y.attrs : Nat) : Int).toNat - Int.toNat 0)),[],(((y.attrs.map attrV).drop (((posK o.key y.attrs : Nat) : Int) + 1).toNat).take (((y.attrs.map attrV).length : Int).toNat - (((posK o.key y.attrs : Nat) : Int) + 1).toNat))] (by simp;omega) (by simp)
   have hc:=pure_args (args':=[.sl 1 ([(((y.attrs.map attrV).drop (Int.toNat 0)).take (((posK o.key y.attrs : Nat) : Int).toNat - Int.toNat 0)),[],(((y.attrs.map attrV).drop (((posK o.key y.attrs : Nat) : Int) + 1).toNat).take (((y.attrs.map attrV).length : Int).toNat - (((posK o.key y.attrs : Nat) : Int) + 1).toNat))].map (V.sl 2))]) (args:=[.sl 1 [.sl 2 (((y.attrs.map attrV).drop (Int.toNat 0)).take (((posK o.key y.attrs : Nat) : Int).toNat - Int.toNat 0)),.nilsl,.sl 2 (((y.attrs.map attrV).drop (((posK o.key y.attrs : Nat) : Int) + 1).toNat).take (((y.attrs.map attrV).length : Int).toNat - (((posK o.key y.attrs : Nat) : Int) + 1).toNat))]]) hc ⟨Wk.sl ⟨⟨⟨.refl _,trivial⟩,⟨rfl,rfl⟩⟩,⟨⟨Wk.nil 2,trivial⟩,⟨rfl,rfl⟩⟩,⟨⟨.refl _,trivial⟩,⟨rfl,rfl⟩⟩,trivial⟩,trivial⟩ rfl rfl
   refine goes_draw 300 ⟨by decide,Int.natCast_nonneg _,hpl',hp0,hpl'',Int.le_refl _,?_⟩
   refine ⟨by kernel_rfl,⟨rfl,rfl,rfl,trivial⟩,rfl,rfl,rfl,_,hc,rfl,?_⟩
   refine ⟨by kernel_rfl,?_⟩
   refine ⟨trivial,rfl,rfl,[some (.box [.int .u64 y.id,.bool y.leaf,.str y.label,.sl 2 [(((y.attrs.map attrV).drop (Int.toNat 0)).take (((posK o.key y.attrs : Nat) : Int).toNat - Int.toNat 0)),[],(((y.attrs.map attrV).drop (((posK o.key y.attrs : Nat) : Int) + 1).toNat).take (((y.attrs.map attrV).length : Int).toNat - (((posK o.key y.attrs : Nat) : Int) + 1).toNat))].flatten,.str y.text,.sl 6 y.subV])],rfl,rfl,⟨⟨rfl,rfl⟩,trivial⟩,?_⟩
   have e : [(((y.attrs.map attrV).drop (Int.toNat 0)).take (((posK o.key y.attrs : Nat) : Int).toNat - Int.toNat 0)),[],(((y.attrs.map attrV).drop (((posK o.key y.attrs : Nat) : Int) + 1).toNat).take (((y.attrs.map attrV).length : Int).toNat - (((posK o.key y.attrs : Nat) : Int) + 1).toNat))].flatten = (setA o y.attrs).map attrV:=by
    unfold setA midA
    rw [q1,q2]
    rw [List.take_of_length_le (l:=List.drop (((posK o.key y.attrs : Nat) : Int) + 1).toNat (y.attrs.map attrV)) (by simp)]
    have e1 : (((posK o.key y.attrs : Nat) : Int) + 1).toNat = posK o.key y.attrs + 1:=by omega
    rw [e1]
    simp [List.map_take,List.map_drop]
   rw [e,setAT,withAttrs_V]
   rfl
 ·have q1 : hasK o.key y.attrs = false:=by simpa using q1
  have hpl'':=hpl'
  have hp0 : (0 : Int) ≤ ((posK o.key y.attrs : Nat) : Int):=Int.natCast_nonneg _
  refine ⟨fun q2 => go 300 ?_,fun q2 => go 300 ?_⟩
  ·have q2 : o.gone = false:=by simpa using q2
   refine ⟨⟨rfl,trivial⟩,?_⟩
   show Goes _ _ _ _
   have hc:=w_ConcatAttr [(((y.attrs.map attrV).drop (Int.toNat 0)).take (((posK o.key y.attrs : Nat) : Int).toNat - Int.toNat 0)),[attrV (o.key,o.value)],(((y.attrs.map attrV).drop ((posK o.key y.attrs : Nat) : Int).toNat).take (((y.attrs.map attrV).length : Int).toNat - ((posK o.key y.attrs : Nat) : Int).toNat))] (by simp;omega) (by simp)
   refine goes_draw 300 ⟨by decide,Int.natCast_nonneg _,hpl',hp0,hpl'',Int.le_refl _,?_⟩
   refine ⟨by kernel_rfl,rfl,rfl,⟨rfl,rfl,rfl,trivial⟩,rfl,rfl,rfl,_,hc,rfl,?_⟩
   refine ⟨by kernel_rfl,?_⟩
   refine ⟨trivial,rfl,rfl,[some (.box [.int .u64 y.id,.bool y.leaf,.str y.label,.sl 2 [(((y.attrs.map attrV).drop (Int.toNat 0)).take (((posK o.key y.attrs : Nat) : Int).toNat - Int.toNat 0)),[attrV (o.key,o.value)],(((y.attrs.map attrV).drop ((posK o.key y.attrs : Nat) : Int).toNat).take (((y.attrs.map attrV).length : Int).toNat - ((posK o.key y.attrs : Nat) : Int).toNat))].flatten,.str y.text,.sl 6 y.subV])],rfl,rfl,⟨⟨rfl,rfl⟩,trivial⟩,?_⟩
   have e : [(((y.attrs.map attrV).drop (Int.toNat 0)).take (((posK o.key y.attrs : Nat) : Int).toNat - Int.toNat 0)),[attrV (o.key,o.value)],(((y.attrs.map attrV).drop ((posK o.key y.attrs : Nat) : Int).toNat).take (((y.attrs.map attrV).length : Int).toNat - ((posK o.key y.attrs : Nat) : Int).toNat))].flatten = (setA o y.attrs).map attrV:=by
    unfold setA midA
    rw [q1,q2]
    rw [List.take_of_length_le (l:=List.drop ((posK o.key y.attrs : Nat) : Int).toNat (y.attrs.map attrV)) (by simp)]
    simp [List.map_take,List.map_drop]
   rw [e,setAT,withAttrs_V]
   rfl
  ·have q2 : o.gone = true:=by simpa using q2
   show Goes _ _ _ _
   have hc:=w_ConcatAttr [(((y.attrs.map attrV).drop (Int.toNat 0)).take (((posK o.key y.attrs : Nat) : Int).toNat - Int.toNat 0)),[],(((y.attrs.map attrV).drop ((posK o.key y.attrs : Nat) : Int).toNat).take (((y.attrs.map attrV).length : Int).toNat - ((posK o.key y.attrs : Nat) : Int).toNat))] (by simp;omega) (by simp)
   have hc:=pure_args (args':=[.sl 1 ([(((y.attrs.map attrV).drop (Int.toNat 0)).take (((posK o.key y.attrs : Nat) : Int).toNat - Int.toNat 0)),[],(((y.attrs.map attrV).drop ((posK o.key y.attrs : Nat) : Int).toNat).take (((y.attrs.map attrV).length : Int).toNat - ((posK o.key y.attrs : Nat) : Int).toNat))].map (V.sl 2))]) (args:=[.sl 1 [.sl 2 (((y.attrs.map attrV).drop (Int.toNat 0)).take (((posK o.key y.attrs : Nat) : Int).toNat - Int.toNat 0)),.nilsl,.sl 2 (((y.attrs.map attrV).drop ((posK o.key y.attrs : Nat) : Int).toNat).take (((y.attrs.map attrV).length : Int).toNat - ((posK o.key y.attrs : Nat) : Int).toNat))]]) hc ⟨Wk.sl ⟨⟨⟨.refl _,trivial⟩,⟨rfl,rfl⟩⟩,⟨⟨Wk.nil 2,trivial⟩,⟨rfl,rfl⟩⟩,⟨⟨.refl _,trivial⟩,⟨rfl,rfl⟩⟩,trivial⟩,trivial⟩ rfl rfl
   refine goes_draw 300 ⟨by decide,Int.natCast_nonneg _,hpl',hp0,hpl'',Int.le_refl _,?_⟩
   refine ⟨by kernel_rfl,⟨rfl,rfl,rfl,trivial⟩,rfl,rfl,rfl,_,hc,rfl,?_⟩
   refine ⟨by kernel_rfl,?_⟩
   refine ⟨trivial,rfl,rfl,[some (.box [.int .u64 y.id,.bool y.leaf,.str y.label,.sl 2 [(((y.attrs.map attrV).drop (Int.toNat 0)).take (((posK o.key y.attrs : Nat) : Int).toNat - Int.toNat 0)),[],(((y.attrs.map attrV).drop ((posK o.key y.attrs : Nat) : Int).toNat).take (((y.attrs.map attrV).length : Int).toNat - ((posK o.key y.attrs : Nat) : Int).toNat))].flatten,.str y.text,.sl 6 y.subV])],rfl,rfl,⟨⟨rfl,rfl⟩,trivial⟩,?_⟩
   have e : [(((y.attrs.map attrV).drop (Int.toNat 0)).take (((posK o.key y.attrs : Nat) : Int).toNat - Int.toNat 0)),[],(((y.attrs.map attrV).drop ((posK o.key y.attrs : Nat) : Int).toNat).take (((y.attrs.map attrV).length : Int).toNat - ((posK o.key y.attrs : Nat) : Int).toNat))].flatten = (setA o y.attrs).map attrV:=by
    unfold setA midA
    rw [q1,q2]
    rw [List.take_of_length_le (l:=List.drop ((posK o.key y.attrs : Nat) : Int).toNat (y.attrs.map attrV)) (by simp)]
    simp
   rw [e,setAT,withAttrs_V]
   rfl
end Bow
/- W37: the program's apply, Apply. -/
namespace Bow
open Go Go.Proofs
theorem w_apply1 (o : OpT) (y : Tree) (k0 : Option (List UInt8)) (hs : attrsOk k0 y.attrs = true) (hl : y.attrs.length ≤ 900000) : Fun Tryz.prog 126 [some (.box (nodeV y).cells)] [.ptr (.loc 0) 0,.iptr (opV o).cells 0] (fun _ T => T = [some (.box (nodeV (setAT o y)).cells)]):=by
 refine fun_fn 100 Tryz.func126 rfl rfl rfl fun imps B hi => ?_
 obtain ⟨r,rfl⟩:=List.length_eq_one_iff.1 hi
 show CallThen _ _ _ _ _ _
 refine call_sub [0] (w_setAttr o y k0 hs hl) rfl rfl ⟨⟨rfl,rfl⟩,trivial⟩ rfl rfl rfl ?_
 rintro x T1 rfl
 refine ⟨rfl,?_⟩
 exact ⟨trivial,rfl,rfl,rfl⟩
set_option maxRecDepth 100000 in
theorem w_apply_att (t y : Tree) (o : OpT) (ht : t.weight ≤ 900000) (ho : o.Ok) (hk : o.kind = 4) (hy : atT t o.path = some y) (hs : attrsOk none y.attrs = true) : Pure Tryz.prog 87 [nodeV t,opV o] (fun x => x = nodeV (changeT (setAT o) t o.path)):=by
 have hp:=ho.lt.path
 have hyw:=atT_weight hy
 have hya:=attrs_le_weight y
 refine pure_fn 300 Tryz.func87 rfl rfl rfl fun B => ?_
 refine ⟨fun g1 => absurd (hk.symm.trans (eq_of g1)) (by decide),fun g1 => go 300 ?_⟩
 refine ⟨fun g1 => absurd (hk.symm.trans (eq_of g1)) (by decide),fun g1 => go 300 ?_⟩
 refine ⟨fun g1 => absurd (hk.symm.trans (eq_of g1)) (by decide),fun g1 => go 300 ?_⟩
 refine ⟨fun g1 => go 300 ?_,fun g1 => absurd hk (ne_of g1)⟩
 show CallThen _ _ _ _ _ _
 refine call_freeze 1 rfl rfl ?_
 refine call_pure (w_change1 126 (opV o).cells (setAT o) y (w_apply1 o y none hs (by omega)) o.path t hp (by omega) hy) rfl ?_
 rintro z rfl
 exact ⟨trivial,rfl,rfl,rfl,rfl⟩
theorem w_applyT (t : Tree) (o : OpT) (ht : t.weight ≤ 900000) (ho : o.Ok) (h : ValidE t o = 0) : Pure Tryz.prog 87 [nodeV t,opV o] (fun x => x = nodeV (applyT t o)):=by
 obtain ⟨hr,hf,_⟩:=valid_right h
 have hra : t.rightA = true:=by
  unfold rightT at hr
  rw [Bool.and_eq_true] at hr
  exact hr.2
 have hto : o.kind = 3 → ∀ x ∈ o.to,inI x:=fun hk x hx => by
  have:=may_step (good_to hf hk) x hx
  constructor <;> omega
 cases good_of h with
 | ins y hk hy hl h0 h1 h2 =>
  have e : applyT t o = changeT (insT o.at_ (freshT o)) t o.path:=by unfold applyT;rw [hk];rfl
  rw [e]
  exact w_apply_k t o _ ht ho (fun h => absurd (hk.symm.trans h) (by decide)) (.ins y hk hy h0 h1)
 | del x hk hne hx =>
  have e : applyT t o = changeT (delT (lastP o.path)) t o.path.dropLast:=by unfold applyT;rw [hk];rfl
  rw [e]
  exact w_apply_k t o _ ht ho (fun h => absurd (hk.symm.trans h) (by decide)) (.del x hk hne hx)
 | mov x z hk hne hx hw hz hl h0 h1 =>
  have e : applyT t o = moveT x t o:=by unfold applyT;rw [hk,hx];rfl
  rw [e]
  exact w_apply_k t o _ ht ho (fun _ => hto hk) (.mov x z hk hne hx hw hz h0 h1)
 | att y hk hy h1 h2 =>
  have e : applyT t o = changeT (setAT o) t o.path:=by unfold applyT;rw [hk];rfl
  rw [e]
  exact w_apply_att t y o ht ho hk hy (right_attrs (right_at hra hy))
 | lab y hk hy h2 =>
  have e : applyT t o = changeT (relabelT o.label) t o.path:=by unfold applyT;rw [hk];rfl
  rw [e]
  exact w_apply_k t o _ ht ho (fun h => absurd (hk.symm.trans h) (by decide)) (.lab y hk hy)
 | edt y hk hy hl he =>
  have e : applyT t o = changeT (retextT o.pieces) t o.path:=by unfold applyT;rw [hk];rfl
  rw [e]
  exact w_apply_k t o _ ht ho (fun h => absurd (hk.symm.trans h) (by decide)) (.edt y hk hy)
end Bow
/- W38: the reference's Apply. -/
namespace Bow
open Go Go.Proofs
set_option maxRecDepth 100000 in
theorem w_refApply_bad (t : Tree) (o : OpT) (ht : t.weight ≤ 1000000) (ho : o.Ok) (h : ValidE t o ≠ 0) : Pure Tryz.prog 58 [nodeV t,opV o] (fun x => x = ApplyV (zeroT [],ValidE t o)):=by
 refine pure_wk (pure_fn 300 Tryz.func58 rfl rfl rfl fun B => ?_)
 show CallThen _ _ _ _ _ _
 refine call_pure (w_refValid t o ht ho) rfl ?_
 rintro x rfl
 refine ⟨fun g1 => go 300 ?_,fun g1 => absurd (eq_of' g1) h⟩
 exact ⟨trivial,rfl,rfl,rfl,ApplyV (zeroT [],ValidE t o),Wk.tup ⟨wk_zero (ss:=[]) (Wk.nil 6),.refl _,trivial⟩,rfl,rfl⟩
set_option maxHeartbeats 1000000 in
set_option maxRecDepth 100000 in
theorem w_refApply_ok (t : Tree) (o : OpT) (ht : t.weight ≤ 400000) (ho : o.Ok) (h : ValidE t o = 0) : Pure Tryz.prog 58 [nodeV t,opV o] (fun x => x = ApplyV (applyT t o,0)):=by
 obtain ⟨hr,hf,_⟩:=valid_right h
 have hra : t.rightA = true:=by
  unfold rightT at hr
  rw [Bool.and_eq_true] at hr
  exact hr.2
 have hp:=ho.lt.path
 have hpi:=may_step (formed_path hf)
 refine pure_fn 300 Tryz.func58 rfl rfl rfl fun B => ?_
 show CallThen _ _ _ _ _ _
 refine call_pure (w_refValid t o (by omega) ho) rfl ?_
 rintro x rfl
 refine ⟨fun g1 => absurd h (ne_of' g1),fun g1 => go 300 ?_⟩
 show CallThen _ _ _ _ _ _
 refine call_pure (w_refAt t o.path hp) rfl ?_
 rintro _ rfl
 cases good_of h with
 | ins y hk hy hl h0 h1 h2 =>
  have e : applyT t o = changeT (insT o.at_ (freshT o)) t o.path:=by unfold applyT;rw [hk];rfl
  have hyw:=atT_weight hy
  rw [hy]
  refine ⟨fun g1 => go 300 ?_,fun g1 => absurd hk (ne_of g1)⟩
  show Goes _ _ _ _
  have hput:=pure_args (args:=[nodeV y,.int .i64 o.at_,.agg [.int .u64 o.id,.bool o.leaf,.str o.label,.nilsl,.str [],.nilsl]]) (w_refputs y (freshT o) o.at_ (by omega) h0 h1) ⟨.refl _,.refl _,wk_fresh o,trivial⟩ rfl rfl
  refine goes_draw 300 ⟨_,hput,rfl,_,w_refchange t (insT o.at_ (freshT o) y) y o.path hp (by omega) hy,rfl,?_⟩
  refine ⟨by kernel_rfl,?_⟩
  refine ⟨trivial,rfl,rfl,rfl,?_⟩
  rw [change_const (F:=insT o.at_ (freshT o)) hy,e]
  rfl
 | del x hk hne hx =>
  have e : applyT t o = withoutT t o.path:=by unfold applyT;rw [hk];rfl
  rw [hx]
  refine ⟨fun g1 => absurd (hk.symm.trans (eq_of g1)) (by decide),fun g1 => go 300 ?_⟩
  refine ⟨fun g1 => go 300 ?_,fun g1 => absurd hk (ne_of g1)⟩
  show CallThen _ _ _ _ _ _
  refine call_pure (w_refWithout t x o.path hp hne (by omega) hx) rfl ?_
  rintro z rfl
  exact ⟨trivial,rfl,rfl,rfl,by rw [e];rfl⟩
 | mov x z hk hne hx hw hz hl h0 h1 =>
  have e : applyT t o = moveT x t o:=by unfold applyT;rw [hk,hx];rfl
  rw [hx]
  refine ⟨fun g1 => absurd (hk.symm.trans (eq_of g1)) (by decide),fun g1 => go 300 ?_⟩
  refine ⟨fun g1 => absurd (hk.symm.trans (eq_of g1)) (by decide),fun g1 => go 300 ?_⟩
  refine ⟨fun g1 => go 300 ?_,fun g1 => absurd hk (ne_of g1)⟩
  show CallThen _ _ _ _ _ _
  refine call_pure (w_refmove t x z o ht ho (fun i hi => by have:=hpi i hi;constructor <;> omega) hne hx hw hz h0 h1) rfl ?_
  rintro r rfl
  exact ⟨trivial,rfl,rfl,rfl,by rw [e];rfl⟩
 | att y hk hy h1 h2 =>
  have e : applyT t o = changeT (setAT o) t o.path:=by unfold applyT;rw [hk];rfl
  have hyw:=atT_weight hy
  have ea : y.withAttrs (refA o o.gone y.attrs) = setAT o y:=by rw [attr_law o (right_attrs (right_at hra hy))];rfl
  rw [hy]
  refine ⟨fun g1 => absurd (hk.symm.trans (eq_of g1)) (by decide),fun g1 => go 300 ?_⟩
  refine ⟨fun g1 => absurd (hk.symm.trans (eq_of g1)) (by decide),fun g1 => go 300 ?_⟩
  refine ⟨fun g1 => absurd (hk.symm.trans (eq_of g1)) (by decide),fun g1 => go 300 ?_⟩
  refine ⟨fun g1 => go 300 ?_,fun g1 => absurd hk (ne_of g1)⟩
  show Goes _ _ _ _
  have hat:=w_refattr y o (by omega)
  rw [ea] at hat
  refine goes_draw 300 ⟨_,hat,rfl,_,w_refchange t (setAT o y) y o.path hp (by omega) hy,rfl,?_⟩
  refine ⟨by kernel_rfl,?_⟩
  refine ⟨trivial,rfl,rfl,rfl,?_⟩
  rw [change_const (F:=setAT o) hy,e]
  rfl
 | lab y hk hy h2 =>
  have e : applyT t o = changeT (relabelT o.label) t o.path:=by unfold applyT;rw [hk];rfl
  rw [hy]
  refine ⟨fun g1 => absurd (hk.symm.trans (eq_of g1)) (by decide),fun g1 => go 300 ?_⟩
  refine ⟨fun g1 => absurd (hk.symm.trans (eq_of g1)) (by decide),fun g1 => go 300 ?_⟩
  refine ⟨fun g1 => absurd (hk.symm.trans (eq_of g1)) (by decide),fun g1 => go 300 ?_⟩
  refine ⟨fun g1 => absurd (hk.symm.trans (eq_of g1)) (by decide),fun g1 => go 300 ?_⟩
  refine ⟨fun g1 => go 300 ?_,fun g1 => absurd hk (ne_of g1)⟩
  show CallThen _ _ _ _ _ _
  cases y with
  | mk i lf b a c ss =>
  refine call_pure (w_refchange t (relabelT o.label (.mk i lf b a c ss)) (.mk i lf b a c ss) o.path hp (by omega) hy) rfl ?_
  rintro r rfl
  refine ⟨trivial,rfl,rfl,rfl,?_⟩
  rw [change_const (F:=relabelT o.label) hy,e]
  rfl
 | edt y hk hy hl he =>
  have e : applyT t o = changeT (retextT o.pieces) t o.path:=by unfold applyT;rw [hk];rfl
  have hyw:=atT_weight hy
  have htw:=text_le_weight y
  rw [hy]
  refine ⟨fun g1 => absurd (hk.symm.trans (eq_of g1)) (by decide),fun g1 => go 300 ?_⟩
  refine ⟨fun g1 => absurd (hk.symm.trans (eq_of g1)) (by decide),fun g1 => go 300 ?_⟩
  refine ⟨fun g1 => absurd (hk.symm.trans (eq_of g1)) (by decide),fun g1 => go 300 ?_⟩
  refine ⟨fun g1 => absurd (hk.symm.trans (eq_of g1)) (by decide),fun g1 => go 300 ?_⟩
  refine ⟨fun g1 => absurd (hk.symm.trans (eq_of g1)) (by decide),fun g1 => go 300 ?_⟩
  show CallThen _ _ _ _ _ _
  refine call_pure (w_refEdit y.text o.pieces (by omega) ho.lt.pieces ho.each) rfl ?_
  rintro r rfl
  show CallThen _ _ _ _ _ _
  cases y with
  | mk i lf b a c ss =>
  refine call_pure (w_refchange t (retextT o.pieces (.mk i lf b a c ss)) (.mk i lf b a c ss) o.path hp (by omega) hy) rfl ?_
  rintro r rfl
  refine ⟨trivial,rfl,rfl,rfl,?_⟩
  rw [change_const (F:=retextT o.pieces) hy,e]
  rfl
theorem w_refApply (t : Tree) (o : OpT) (ht : t.weight ≤ 400000) (ho : o.Ok) : Pure Tryz.prog 58 [nodeV t,opV o] (fun x => x = ApplyV (applyR t o)):=by
 by_cases h : ValidE t o = 0
 ·have e : applyR t o = (applyT t o,0):=by unfold applyR;rw [decide_eq_true h];rfl
  rw [e]
  exact w_refApply_ok t o ht ho h
 ·have e : applyR t o = (zeroT [],ValidE t o):=by unfold applyR;rw [decide_eq_false h];rfl
  rw [e]
  exact w_refApply_bad t o (by omega) ho h
end Bow
/- SP15: a tree that was right stays right, in plain Lean. -/
namespace Bow
open Go
theorem rightN_iff (t : Tree) : rightN t = true ↔ t.label.length ≤ 64 ∧ (t.leaf = true → t.subs = []) ∧ (t.leaf = false → t.text = []) ∧ attrsOk none t.attrs = true:=by
 unfold rightN headOk
 constructor
 ·intro h
  rw [Bool.and_eq_true,Bool.and_eq_true,Bool.and_eq_true] at h
  obtain ⟨⟨h1,h2,h3⟩,h4⟩:=h
  refine ⟨by simp at h1;omega,fun hl => ?_,fun hl => ?_,h4⟩
  ·rw [hl] at h2
   cases hs : t.subs with
   | nil => rfl
   | cons a l => rw [hs] at h2;simp at h2
  ·rw [hl] at h3
   simpa using h3
 ·rintro ⟨h1,h2,h3,h4⟩
  rw [h4,decide_eq_false (by omega : ¬ (64 : Int) < t.label.length)]
  cases hl : t.leaf with
  | false => rw [h3 hl];simp
  | true => rw [h2 hl];simp
theorem rightN_subs (t : Tree) (ss : List Tree) (h : rightN t = true) (hl : t.leaf = true → ss = []) : rightN (t.withSubs ss) = true:=by
 obtain ⟨h1,h2,h3,h4⟩:=(rightN_iff t).1 h
 refine (rightN_iff _).2 ?_
 obtain ⟨i,lf,b,a,c,us⟩:=t
 exact ⟨h1,hl,h3,h4⟩
theorem rightN_leaf {t : Tree} (h : rightN t = true) (hl : t.leaf = true) : t.subs = []:=((rightN_iff t).1 h).2.1 hl
theorem rightA_N {t : Tree} (h : t.rightA = true) : rightN t = true:=by
 rw [rightA_eq,Bool.and_eq_true] at h
 exact h.1
theorem rightA_subs {t : Tree} (h : t.rightA = true) : ∀ s ∈ t.subs,s.rightA = true:=by
 rw [rightA_eq,Bool.and_eq_true,rightsA_all] at h
 exact List.all_eq_true.1 h.2
theorem rightA_mk {t : Tree} (h1 : rightN t = true) (h2 : ∀ s ∈ t.subs,s.rightA = true) : t.rightA = true:=by
 rw [rightA_eq,h1,rightsA_all,Bool.true_and]
 exact List.all_eq_true.2 h2
theorem change_rightA {F : Tree → Tree} {y : Tree} : ∀ {p : List Int} {t : Tree},t.rightA = true → atT t p = some y → (F y).rightA = true → (changeT F t p).rightA = true
 | [],t,_,h,hF => by
  rw [atT] at h
  injection h with h
  subst h
  exact hF
 | i :: p,t,ht,h,hF => by
  rw [atT] at h
  cases hs : subT t i with
  | none => rw [hs] at h;cases h
  | some s =>
   rw [hs] at h
   obtain ⟨h1,h2,h3⟩:=subT_some hs
   have ih:=change_rightA (F:=F) (p:=p) (rightA_subs ht s h3) h hF
   rw [changeT,hs]
   simp only
   refine rightA_mk (rightN_subs t _ (rightA_N ht) fun hl => ?_) fun u hu => ?_
   ·rw [rightN_leaf (rightA_N ht) hl] at h3
    cases h3
   ·rw [withSubs_subs] at hu
    rcases List.mem_or_eq_of_mem_set hu with hu | rfl
    ·exact rightA_subs ht u hu
    ·exact ih
theorem ins_rightA (n : Int) {x y : Tree} (hy : y.rightA = true) (hl : y.leaf = false) (hx : x.rightA = true) : (insT n x y).rightA = true:=by
 refine rightA_mk (rightN_subs y _ (rightA_N hy) fun h => by rw [hl] at h;cases h) fun u hu => ?_
 unfold insT at hu
 rw [withSubs_subs] at hu
 rcases List.mem_append.1 hu with hu | hu
 ·exact rightA_subs hy u (List.mem_of_mem_take hu)
 ·rcases List.mem_cons.1 hu with rfl | hu
  ·exact hx
  ·exact rightA_subs hy u (List.mem_of_mem_drop hu)
theorem del_rightA (n : Int) {y : Tree} (hy : y.rightA = true) : (delT n y).rightA = true:=by
 refine rightA_mk (rightN_subs y _ (rightA_N hy) fun h => by rw [rightN_leaf (rightA_N hy) h];simp) fun u hu => ?_
 unfold delT at hu
 rw [withSubs_subs] at hu
 rcases List.mem_append.1 hu with hu | hu
 ·exact rightA_subs hy u (List.mem_of_mem_take hu)
 ·exact rightA_subs hy u (List.mem_of_mem_drop hu)
theorem less_ord {k s : List UInt8} (h : Op.bytesLess k s = true) : ordOk (some k) s = true:=by
 show (!leS s k) = true
 unfold leS
 rw [less_asymm h,decide_eq_false fun e => less_ne h e.symm]
 rfl
theorem ord_trans {k0 : Option (List UInt8)} {k s : List UInt8} (h1 : ordOk k0 k = true) (h2 : Op.bytesLess k s = true) : ordOk k0 s = true:=by
 cases k0 with
 | none => rfl
 | some q => exact less_ord (less_trans (ordOk_less h1) h2)
theorem attrOk_mk {k0 : Option (List UInt8)} {a : List UInt8 × List UInt8} (h1 : keyOk a.1 = true) (h2 : a.2.length ≤ 256) (h3 : ordOk k0 a.1 = true) : attrOk k0 a = true:=by
 unfold attrOk
 rw [h1,h3,decide_eq_true (by omega)]
 rfl
theorem attrOk_parts {k0 : Option (List UInt8)} {a : List UInt8 × List UInt8} (h : attrOk k0 a = true) : keyOk a.1 = true ∧ a.2.length ≤ 256 ∧ ordOk k0 a.1 = true:=by
 unfold attrOk at h
 simp only [Bool.and_eq_true,decide_eq_true_eq] at h
 exact ⟨h.1,by omega,h.2.2⟩
theorem attrsOk_weak {k0 : Option (List UInt8)} {k : List UInt8} (h : ordOk k0 k = true) : ∀ {l : AttrL},attrsOk (some k) l = true → attrsOk k0 l = true
 | [],_ => rfl
 | a :: l,hl => by
  rw [attrsOk,Bool.and_eq_true] at hl ⊢
  obtain ⟨h1,h2,h3⟩:=attrOk_parts hl.1
  exact ⟨attrOk_mk h1 h2 (ord_trans h (ordOk_less h3)),hl.2⟩
theorem refA_true_ok (o : OpT) : ∀ {l : AttrL} {k0 : Option (List UInt8)},attrsOk k0 l = true → attrsOk k0 (refA o true l) = true
 | [],_,_ => rfl
 | a :: l,k0,h => by
  have ih:=refA_true_ok o (attrsOk_tail h)
  rw [attrsOk,Bool.and_eq_true] at h
  obtain ⟨h1,h2,h3⟩:=attrOk_parts h.1
  rw [refA]
  simp only [Bool.not_true,Bool.false_and,cond_false,List.nil_append,Bool.true_or]
  cases decide (a.1 = o.key) with
  | true => exact attrsOk_weak h3 ih
  | false =>
   show attrsOk k0 (a :: refA o true l) = true
   rw [attrsOk,h.1,ih]
   rfl
theorem refA_false_ok (o : OpT) (hk : keyOk o.key = true) (hv : o.value.length ≤ 256) : ∀ {l : AttrL} {k0 : Option (List UInt8)},attrsOk k0 l = true → ordOk k0 o.key = true → attrsOk k0 (refA o false l) = true
 | [],k0,_,ho => by
  show attrsOk k0 [(o.key,o.value)] = true
  rw [attrsOk,attrOk_mk hk hv ho]
  rfl
 | a :: l,k0,h,ho => by
  have ht:=attrsOk_tail h
  rw [attrsOk,Bool.and_eq_true] at h
  obtain ⟨h1,h2,h3⟩:=attrOk_parts h.1
  rw [refA]
  cases ha : Op.bytesLess a.1 o.key with
  | true =>
   rw [decide_eq_false (less_ne ha)]
   show attrsOk k0 (a :: refA o false l) = true
   rw [attrsOk,h.1,refA_false_ok o hk hv ht (less_ord ha)]
   rfl
  | false =>
   by_cases he : a.1 = o.key
   ·rw [decide_eq_true he]
    show attrsOk k0 ((o.key,o.value) :: refA o true l) = true
    rw [attrsOk,attrOk_mk hk hv ho]
    show attrsOk (some o.key) (refA o true l) = true
    rw [← he]
    exact refA_true_ok o ht
   ·rw [decide_eq_false he]
    show attrsOk k0 ((o.key,o.value) :: a :: refA o true l) = true
    have hka : Op.bytesLess o.key a.1 = true:=by
     cases hk' : Op.bytesLess o.key a.1 with
     | true => rfl
     | false => exact absurd (less_tri ha hk') he
    rw [attrsOk,attrOk_mk hk hv ho,attrsOk,attrOk_mk h1 h2 (less_ord hka)]
    exact refA_true_ok o ht
theorem withAttrs_rightA {y : Tree} {a : AttrL} (hy : y.rightA = true) (ha : attrsOk none a = true) : (y.withAttrs a).rightA = true:=by
 have h1:=rightA_N hy
 have h2:=rightA_subs hy
 obtain ⟨q1,q2,q3,q4⟩:=(rightN_iff y).1 h1
 obtain ⟨i,lf,b,a',c,us⟩:=y
 exact rightA_mk ((rightN_iff _).2 ⟨q1,q2,q3,ha⟩) h2
theorem setAT_rightA {o : OpT} {y : Tree} (hy : y.rightA = true) (hk : keyOk o.key = true) (hv : o.gone = true ∨ o.value.length ≤ 256) : (setAT o y).rightA = true:=by
 unfold setAT
 refine withAttrs_rightA hy ?_
 rw [← attr_law o (right_attrs hy)]
 cases hg : o.gone with
 | true => exact refA_true_ok o (right_attrs hy)
 | false => exact refA_false_ok o hk (hv.resolve_left (by rw [hg];simp)) (right_attrs hy) rfl
theorem relabel_rightA {s : List UInt8} {y : Tree} (hy : y.rightA = true) (hs : s.length ≤ 64) : (relabelT s y).rightA = true:=by
 have h1:=rightA_N hy
 have h2:=rightA_subs hy
 obtain ⟨q1,q2,q3,q4⟩:=(rightN_iff y).1 h1
 obtain ⟨i,lf,b,a',c,us⟩:=y
 exact rightA_mk ((rightN_iff _).2 ⟨hs,q2,q3,q4⟩) h2
theorem retext_rightA {l : List PieceT} {y : Tree} (hy : y.rightA = true) (hl : y.leaf = true) : (retextT l y).rightA = true:=by
 have h1:=rightA_N hy
 have h2:=rightA_subs hy
 obtain ⟨q1,q2,q3,q4⟩:=(rightN_iff y).1 h1
 obtain ⟨i,lf,b,a',c,us⟩:=y
 exact rightA_mk ((rightN_iff _).2 ⟨q1,q2,fun h => absurd (h.symm.trans hl) (by simp),q4⟩) h2
theorem fresh_rightA {o : OpT} (h : o.label.length ≤ 64) : (freshT o).rightA = true:=by
 exact rightA_mk ((rightN_iff _).2 ⟨h,fun _ => rfl,fun _ => rfl,rfl⟩) (fun s hs => by cases hs)
theorem land_of {t x z : Tree} {fr to : List Int} {at_ : Int} (hne : fr ≠ []) (hx : atT t fr = some x) (hw : within fr to = false) (hz : atT t to = some z) (h0 : 0 ≤ at_) (h1 : at_ ≤ z.subs.length) :
  ∃ z',atT (withoutT t fr) (landT fr.dropLast (lastP fr) to at_).1 = some z' ∧ 0 ≤ (landT fr.dropLast (lastP fr) to at_).2 ∧ (landT fr.dropLast (lastP fr) to at_).2 ≤ z'.subs.length ∧ z'.leaf = z.leaf ∧ z'.id = z.id:=by
 obtain ⟨y,y1,y2,y3,y4⟩:=at_parent hne hx
 have hlast:=lastP_eq hne
 rw [hlast] at y2 y3 y4
 have hw' : within (fr.dropLast ++ [lastP fr]) to = false:=by rw [← hlast,List.dropLast_concat_getLast];exact hw
 exact land_at2 y2 h0 fr.dropLast to t y z y1 y3 hw' hz h1
theorem without_rightA {t x : Tree} {fr : List Int} (hne : fr ≠ []) (hx : atT t fr = some x) (ht : t.rightA = true) : (withoutT t fr).rightA = true:=by
 obtain ⟨y,y1,y2,y3,y4⟩:=at_parent hne hx
 exact change_rightA ht y1 (del_rightA _ (right_at ht y1))
theorem change_leaf {F : Tree → Tree} (hF : ∀ y,(F y).leaf = y.leaf) : ∀ (p : List Int) (t : Tree),(changeT F t p).leaf = t.leaf
 | [],t => hF t
 | i :: p,t => by
  rw [changeT]
  cases subT t i with
  | none => rfl
  | some s => exact withSubs_leaf _ _
theorem rightT_parts {t : Tree} (h : rightT t = true) : t.leaf = false ∧ t.rightA = true:=by
 unfold rightT at h
 simpa using h
theorem right_applyT {t : Tree} {o : OpT} (h : ValidE t o = 0) : rightT (applyT t o) = true:=by
 obtain ⟨hr,hf,_⟩:=valid_right h
 obtain ⟨hl,hA⟩:=rightT_parts hr
 have hins : ∀ n x,∀ y,(insT n x y).leaf = y.leaf:=fun n x y => withSubs_leaf _ _
 have hdel : ∀ n,∀ y,(delT n y).leaf = y.leaf:=fun n y => withSubs_leaf _ _
 have key : (applyT t o).leaf = t.leaf ∧ (applyT t o).rightA = true:=by
  cases good_of h with
  | ins y hk hy hl h0 h1 h2 =>
   have e : applyT t o = changeT (insT o.at_ (freshT o)) t o.path:=by unfold applyT;rw [hk];rfl
   rw [e]
   exact ⟨change_leaf (hins _ _) _ _,change_rightA hA hy (ins_rightA _ (right_at hA hy) hl (fresh_rightA h2))⟩
  | del x hk hne hx =>
   have e : applyT t o = withoutT t o.path:=by unfold applyT;rw [hk];rfl
   rw [e]
   exact ⟨change_leaf (hdel _) _ _,without_rightA hne hx hA⟩
  | mov x z hk hne hx hw hz hl h0 h1 =>
   have e : applyT t o = moveT x t o:=by unfold applyT;rw [hk,hx];rfl
   obtain ⟨z',k1,k2,k3,k4,k5⟩:=land_of hne hx hw hz h0 h1
   rw [e,moveT_eq]
   have hwA:=without_rightA hne hx hA
   refine ⟨(change_leaf (hins _ _) _ _).trans (change_leaf (hdel _) _ _),change_rightA hwA k1 (ins_rightA _ (right_at hwA k1) (k4.trans hl) (right_at hA hx))⟩
  | att y hk hy h1 h2 =>
   have e : applyT t o = changeT (setAT o) t o.path:=by unfold applyT;rw [hk];rfl
   rw [e]
   exact ⟨change_leaf (fun y => by cases y;rfl) _ _,change_rightA hA hy (setAT_rightA (right_at hA hy) h1 h2)⟩
  | lab y hk hy h2 =>
   have e : applyT t o = changeT (relabelT o.label) t o.path:=by unfold applyT;rw [hk];rfl
   rw [e]
   exact ⟨change_leaf (fun y => by cases y;rfl) _ _,change_rightA hA hy (relabel_rightA (right_at hA hy) h2)⟩
  | edt y hk hy hl he =>
   have e : applyT t o = changeT (retextT o.pieces) t o.path:=by unfold applyT;rw [hk];rfl
   rw [e]
   exact ⟨change_leaf (fun y => by cases y;rfl) _ _,change_rightA hA hy (retext_rightA (right_at hA hy) hl)⟩
 unfold rightT
 rw [key.1,key.2,hl]
 rfl
end Bow
/- SP16: the identities of a tree, counted, in plain Lean. -/
namespace Bow
open Go
section
variable {m : List Int → Nat}
end
end Bow
/- W39: the reference's Same, IDs. -/
namespace Bow
open Go Go.Proofs
theorem attrs_take {α : Type} {xs ys : List α} {i : Nat} (h1 : i < xs.length) (h2 : i < ys.length) : (xs.drop i = ys.drop i) = (xs[i] = ys[i] ∧ xs.drop (i + 1) = ys.drop (i + 1)) := by
  rw [List.drop_eq_getElem_cons h1, List.drop_eq_getElem_cons h2, List.cons.injEq]
set_option maxRecDepth 100000 in
theorem w_refSameAttrs (xs ys : AttrL) (hl : xs.length ≤ 1000000) : Pure Tryz.prog 59 [.sl 2 (xs.map attrV), .sl 2 (ys.map attrV)] (fun x => x = .bool (decide (xs = ys))) := by
  refine pure_wk (pure_fn 300 Tryz.func59 rfl rfl rfl fun B => ?_)
  refine ⟨fun g1 => go 300 ?_, fun g1 => go 300 ?_⟩
  · have g1 := ne_of' g1
    exact ⟨trivial, rfl, rfl, rfl, leaf_ff (decide_eq_false fun e => g1 (by rw [e]))⟩
  have g1 : xs.length = ys.length := by have := eq_of' g1; simp at this; omega
  show Goes _ _ _ _
  refine goes_iter (ι := Nat) (fun i => i ≤ xs.length ∧ (xs.drop i = ys.drop i ↔ xs = ys)) (fun i => xs.length - i) (fun i => [(5, .int .i64 i), (0, .sl 2 (xs.map attrV)), (1, .sl 2 (ys.map attrV))]) (fun _ => []) 0 300 (fun _ => rfl) (fun _ => rfl) ⟨⟨Nat.zero_le _, by simp⟩, ⟨⟨rfl, rfl⟩, ⟨rfl, rfl⟩, ⟨rfl, rfl⟩, trivial⟩, trivial⟩ ?_
  rintro i ⟨k1, k2⟩ next
  refine ⟨fun hlt => go 300 ?_, fun hge => go 300 ?_⟩
  · have hi : i < xs.length := by simpa using hlt
    have hi' : i < ys.length := by omega
    have hx : (xs.map attrV)[i]? = some (attrV xs[i]) := by simp [hi]
    have hy : (ys.map attrV)[i]? = some (attrV ys[i]) := by simp [hi']
    rw [attrs_take hi hi'] at k2
    show Goes _ _ _ _
    refine goes_draw 300 ⟨Int.natCast_nonneg i, _, hx, Int.natCast_nonneg i, _, hy, ?_⟩
    refine ⟨by kernel_rfl, ?_⟩
    refine ⟨by kernel_rfl, ?_⟩
    refine ⟨fun g2 => go 300 ?_, fun g2 => go 300 ?_⟩
    · refine ⟨trivial, rfl, rfl, rfl, leaf_ff (decide_eq_false fun e => ?_)⟩
      have := (k2.2 e).1
      rw [this] at g2
      simp at g2
    · refine ⟨by constructor <;> omega, ?_⟩
      have he : xs[i] = ys[i] := by
        simp at g2
        exact Prod.ext g2.1 g2.2
      exact next (i + 1) _ _ ⟨⟨hi, by rw [← k2]; exact ⟨fun h => ⟨he, h⟩, fun h => h.2⟩⟩, by omega, ⟨⟨rfl, rfl⟩, ⟨rfl, rfl⟩, ⟨rfl, rfl⟩, trivial⟩, trivial⟩
  · have hi : i = xs.length := by have : xs.length ≤ i := by simpa using hge
                                  omega
    subst hi
    refine ⟨trivial, rfl, rfl, rfl, leaf_tt (decide_eq_true (k2.1 ?_))⟩
    rw [List.drop_eq_nil_of_le (Nat.le_refl _), List.drop_eq_nil_of_le (by omega)]
set_option maxHeartbeats 1000000 in
set_option maxRecDepth 100000 in
theorem w_refSameT (t : Tree) : ∀ u : Tree, t.weight ≤ 1000000 → Pure Tryz.prog 19 [nodeV t, nodeV u] (fun x => x = .bool (sameT true t u)) := by
  induction t using Tree.ind with
  | _ t ih =>
  intro u ht
  have hsl := subs_le_weight t
  have hal := attrs_le_weight t
  have hA := w_refSameAttrs t.attrs u.attrs (by omega)
  have e := sameT_eq true t u
  refine pure_wk (pure_fn 300 Tryz.func19 rfl rfl rfl fun B => ?_)
  repeat' first
    | (refine ⟨fun _ => go 300 ?_, fun _ => go 300 ?_⟩)
    | (show CallThen _ _ _ _ _ _; refine call_pure hA rfl ?_; rintro z rfl)
    | (refine ⟨trivial, rfl, rfl, rfl, leaf_ff ?_⟩)
    | fail
  case h.refine_2.refine_2.refine_2.refine_2.refine_2.refine_2 g1 g2 g3 g4 g5 g6 =>
    have hlen : t.subs.length = u.subs.length := by have := eq_of' g6; rw [subV_len, subV_len] at this; omega
    have e' : sameT true t u = sameTs true t.subs u.subs := by
      rw [e]
      have g1 := eq_of' g1
      simp at g2 g3 g4 g5
      simp [g1, g2, g3, g4, g5]
    show Goes _ _ _ _
    refine goes_iter (ι := Nat) (fun i => i ≤ t.subs.length ∧ sameTs true (t.subs.drop i) (u.subs.drop i) = sameTs true t.subs u.subs) (fun i => t.subs.length - i) (fun i => [(5, .int .i64 i), (2, .ptr (.loc 0) 0), (3, .ptr (.loc 1) 0)]) (fun _ => [some (.box (nodeV t).cells), some (.box (nodeV u).cells)]) 0 300 (fun _ => rfl) (fun _ => rfl) ⟨⟨Nat.zero_le _, rfl⟩, ⟨⟨rfl, rfl⟩, ⟨rfl, rfl⟩, ⟨rfl, rfl⟩, trivial⟩, ⟨⟨rfl, rfl⟩, ⟨rfl, rfl⟩, trivial⟩⟩ ?_
    rintro i ⟨k1, k2⟩ next
    refine ⟨fun hlt => go 300 ?_, fun hge => go 300 ?_⟩
    · have hi : i < t.subs.length := by simpa [subV_eq] using hlt
      have hi' : i < u.subs.length := by omega
      have hx : t.subV[i]? = some (nodeV t.subs[i]) := by simp [subV_eq, hi]
      have hy : u.subV[i]? = some (nodeV u.subs[i]) := by simp [subV_eq, hi']
      have hws := weight_sub (List.getElem_mem hi)
      rw [sameTs_at hi hi'] at k2
      show Goes _ _ _ _
      refine goes_draw 300 ⟨Int.natCast_nonneg i, _, hx, Int.natCast_nonneg i, _, hy, _, ih _ (List.getElem_mem hi) u.subs[i] (by omega), rfl, ?_⟩
      refine ⟨by kernel_rfl, ?_⟩
      refine ⟨fun g => go 300 ?_, fun g => go 300 ?_⟩
      · have g : sameT true t.subs[i] u.subs[i] = false := by simpa using g
        exact ⟨trivial, rfl, rfl, rfl, leaf_ff (by rw [e', ← k2, g]; rfl)⟩
      · have g : sameT true t.subs[i] u.subs[i] = true := by simpa using g
        rw [g, Bool.true_and] at k2
        refine ⟨by constructor <;> omega, ?_⟩
        exact next (i + 1) _ _ ⟨⟨hi, k2⟩, by omega, ⟨⟨rfl, rfl⟩, ⟨rfl, rfl⟩, ⟨rfl, rfl⟩, trivial⟩, ⟨⟨rfl, rfl⟩, ⟨rfl, rfl⟩, trivial⟩⟩
    · have hi : t.subs.length ≤ i := by simpa [subV_eq] using hge
      rw [List.drop_eq_nil_of_le hi, List.drop_eq_nil_of_le (by omega), sameTs] at k2
      exact ⟨trivial, rfl, rfl, rfl, leaf_tt (by rw [e', ← k2])⟩
  case h.refine_2.refine_2.refine_2.refine_2.refine_2.refine_1 g1 g2 g3 g4 g5 g6 =>
    have g6 := ne_of' g6
    rw [subV_len, subV_len] at g6
    cases h : sameT true t u with
    | false => rfl
    | true =>
      rw [e] at h
      simp only [Bool.and_eq_true] at h
      exact absurd (congrArg Nat.cast (sameTs_len h.2.2.2.2.2)) g6
  all_goals (rw [e]; simp_all)
end Bow
/- SP17: a list of operations, in plain Lean. -/
namespace Bow
open Go
def zeroT0 : Tree:=.mk 0 false [] [] [] []
def allR : Tree → List OpT → Nat → Tree × Nat × Int
 | t,[],i => (t,i,0)
 | t,o :: l,i => bif decide (ValidE t o = 0) then allR (applyT t o) l (i + 1) else (zeroT0,i,ValidE t o)
def AllR (t : Tree) (l : List OpT) : Tree × Nat × Int:=bif rightT t then allR t l 0 else (zeroT0,0,2)
def costs : List OpT → Nat
 | [] => 0
 | o :: l => costO o + costs l
theorem zero_weight : zeroT0.weight = 1:=by
 have:=weight_eq zeroT0
 simp [attrLen,weights,Tree.label,Tree.text,Tree.attrs,Tree.subs,zeroT0] at this
 exact this
theorem weight_pos (t : Tree) : 1 ≤ t.weight:=by rw [weight_eq];omega
theorem allR_weight : ∀ (l : List OpT) (t : Tree) (i : Nat),(allR t l i).1.weight ≤ t.weight + costs l
 | [],t,i => by rw [allR,costs];simp
 | o :: l,t,i => by
  rw [allR,costs]
  by_cases h : ValidE t o = 0
  ·rw [decide_eq_true h]
   have:=allR_weight l (applyT t o) (i + 1)
   have:=applyT_weight h
   simp only [cond_true]
   omega
  ·rw [decide_eq_false h]
   have:=zero_weight
   have:=weight_pos t
   simp only [cond_false]
   omega
theorem AllR_weight (t : Tree) (l : List OpT) : (AllR t l).1.weight ≤ t.weight + costs l:=by
 unfold AllR
 cases rightT t with
 | true => exact allR_weight l t 0
 | false =>
  have:=zero_weight
  have:=weight_pos t
  simp only [cond_false]
  omega
theorem valid_of_right {t : Tree} (h : rightT t = true) (o : OpT) : ValidE t o = bif !formedB o then 80 else validE t o:=by
 unfold ValidE
 rw [h]
 rfl
theorem costs_le {n k : Nat} : ∀ {l : List OpT},l.length ≤ k → (∀ o ∈ l,costO o ≤ n) → costs l ≤ k * n
 | [],_,_ => Nat.zero_le _
 | o :: l,hk,h => by
  obtain ⟨k',rfl⟩ : ∃ k',k = k' + 1:=⟨k - 1,by simp at hk;omega⟩
  have:=costs_le (n:=n) (k:=k') (l:=l) (by simpa using hk) fun o' ho => h o' (List.mem_cons_of_mem _ ho)
  have:=h o List.mem_cons_self
  rw [costs,Nat.succ_mul]
  omega
end Bow
/- W43a: ApplyAll, the program's and the reference's. -/
namespace Bow
open Go Go.Proofs
def AllV (r : Tree × Nat × Int) : V:=.tup [nodeV r.1,.int .i64 r.2.1,.int .i64 r.2.2]
theorem allZ (i : Nat) (e : Int) : ∃ y,Wk (.tup [zeroV .nilsl,.int .i64 i,.int .i64 e]) y ∧ y.pureB = true ∧ y = AllV (zeroT0,i,e) :=
 ⟨_,Wk.tup (ys:=[nodeV zeroT0,.int .i64 i,.int .i64 e]) ⟨wk_zero (ss:=[]) (Wk.nil 6),.refl _,.refl _,trivial⟩,rfl,rfl⟩
set_option maxHeartbeats 1000000 in
set_option maxRecDepth 100000 in
theorem w_refApplyAll (t : Tree) (l : List OpT) (hw : t.weight + costs l ≤ 400000) (hl : l.length ≤ 1000000) (hok : ∀ o ∈ l,o.Ok) : Pure Tryz.prog 18 [nodeV t,opsV l] (fun x => x = AllV (AllR t l)):=by
 refine pure_wk (pure_fn 300 Tryz.func18 rfl rfl rfl fun B => ?_)
 show CallThen _ _ _ _ _ _
 refine call_pure (w_refRightT t (by omega)) rfl ?_
 rintro x rfl
 refine ⟨fun g => go 300 ?_,fun g => go 300 ?_⟩
 ·have hr : rightT t = false:=by simpa using g
  refine ⟨trivial,rfl,rfl,rfl,?_⟩
  have e : AllR t l = (zeroT0,0,2):=by unfold AllR;rw [hr];rfl
  rw [e]
  exact allZ 0 2
 have hr : rightT t = true:=by simpa using g
 have e : AllR t l = allR t l 0:=by unfold AllR;rw [hr];rfl
 rw [e]
 show Goes _ _ _ _
 refine goes_iter (ι:=Nat × Tree) (fun i => i.1 ≤ l.length ∧ rightT i.2 = true ∧ i.2.weight + costs (l.drop i.1) ≤ 400000 ∧ allR i.2 (l.drop i.1) i.1 = allR t l 0) (fun i => l.length - i.1)
  (fun i => [(7,.int .i64 i.1),(1,opsV l),(2,.ptr (.loc 0) 0),(4,.ptr (.loc 1) 0)]) (fun i => [some (.box (nodeV i.2).cells),some (.box (zeroV .nilsl).cells)]) (0,t) 300 (fun _ => rfl) (fun _ => rfl) ⟨⟨Nat.zero_le _,hr,hw,rfl⟩,⟨⟨rfl,rfl⟩,⟨rfl,rfl⟩,⟨rfl,rfl⟩,⟨rfl,rfl⟩,trivial⟩,⟨⟨rfl,rfl⟩,⟨rfl,rfl⟩,trivial⟩⟩ ?_
 rintro ⟨i,u⟩ ⟨k1,k2,k3,k4⟩ next
 simp only at k1 k2 k3 k4
 refine ⟨fun hlt => go 300 ?_,fun hge => go 300 ?_⟩
 ·have hi : i < l.length:=by simpa using hlt
  have hx : (l.map opV)[i]? = some (opV l[i]):=by simp [hi]
  rw [List.drop_eq_getElem_cons hi,allR] at k4
  rw [List.drop_eq_getElem_cons hi,costs] at k3
  have hap:=w_refApply u l[i] (by omega) (hok _ (List.getElem_mem hi))
  show Goes _ _ _ _
  refine goes_draw 300 ⟨Int.natCast_nonneg i,_,hx,_,hap,rfl,?_⟩
  refine ⟨by kernel_rfl,?_⟩
  refine ⟨by kernel_rfl,?_⟩
  by_cases hv : ValidE u l[i] = 0
  ·have e : applyR u l[i] = (applyT u l[i],0):=by unfold applyR;rw [decide_eq_true hv];rfl
   rw [decide_eq_true hv] at k4
   have hwt:=applyT_weight hv
   rw [e]
   refine ⟨fun g => absurd rfl (ne_of' g),fun _ => go 300 ?_⟩
   refine ⟨by constructor <;> omega,?_⟩
   show Goes _ _ _ _
   exact next (i + 1,applyT u l[i]) _ _ ⟨⟨hi,right_applyT hv,by simp only;omega,k4⟩,by simp only;omega,⟨⟨rfl,rfl⟩,⟨rfl,rfl⟩,⟨rfl,rfl⟩,⟨rfl,rfl⟩,trivial⟩,⟨⟨rfl,rfl⟩,⟨rfl,rfl⟩,trivial⟩⟩
  ·have e : applyR u l[i] = (zeroT [],ValidE u l[i]):=by unfold applyR;rw [decide_eq_false hv];rfl
   rw [decide_eq_false hv] at k4
   rw [e]
   refine ⟨fun _ => go 300 ?_,fun g => absurd (eq_of' g) hv⟩
   refine ⟨trivial,rfl,rfl,rfl,?_⟩
   rw [← k4]
   exact allZ i (ValidE u l[i])
 ·have hi : i = l.length:=by have:=not_lt_of hge;simp at this;omega
  subst hi
  rw [List.drop_length,allR] at k4
  refine ⟨trivial,rfl,rfl,rfl,?_⟩
  rw [← k4]
  exact ⟨_,Wk.refl _,rfl,by simp [AllV];rfl⟩
set_option maxHeartbeats 1000000 in
set_option maxRecDepth 100000 in
theorem w_ApplyAll (t : Tree) (l : List OpT) (hw : t.weight + costs l ≤ 400000) (hl : l.length ≤ 1000000) (hok : ∀ o ∈ l,o.Ok) : Pure Tryz.prog 52 [nodeV t,opsV l] (fun x => x = AllV (AllR t l)):=by
 refine pure_wk (pure_fn 300 Tryz.func52 rfl rfl rfl fun B => ?_)
 show CallThen _ _ _ _ _ _
 refine call_pure (w_RightT t (by omega)) rfl ?_
 rintro x rfl
 refine ⟨fun g => go 300 ?_,fun g => go 300 ?_⟩
 ·have hr : rightT t = false:=by simpa using g
  refine ⟨trivial,rfl,rfl,rfl,?_⟩
  have e : AllR t l = (zeroT0,0,2):=by unfold AllR;rw [hr];rfl
  rw [e]
  exact allZ 0 2
 have hr : rightT t = true:=by simpa using g
 have e : AllR t l = allR t l 0:=by unfold AllR;rw [hr];rfl
 rw [e]
 show Goes _ _ _ _
 refine goes_iter (ι:=Nat × Tree) (fun i => i.1 ≤ l.length ∧ rightT i.2 = true ∧ i.2.weight + costs (l.drop i.1) ≤ 400000 ∧ allR i.2 (l.drop i.1) i.1 = allR t l 0) (fun i => l.length - i.1)
  (fun i => [(16,.int .i64 i.1),(15,.int .i64 (l.map opV).length),(14,opsV l),(1,opsV l),(2,.ptr (.loc 0) 0),(4,.ptr (.loc 1) 0)]) (fun i => [some (.box (nodeV i.2).cells),some (.box (zeroV .nilsl).cells)]) (0,t) 300 (fun _ => rfl) (fun _ => rfl) ⟨⟨Nat.zero_le _,hr,hw,rfl⟩,⟨⟨rfl,rfl⟩,⟨rfl,rfl⟩,⟨rfl,rfl⟩,⟨rfl,rfl⟩,⟨rfl,rfl⟩,⟨rfl,rfl⟩,trivial⟩,⟨⟨rfl,rfl⟩,⟨rfl,rfl⟩,trivial⟩⟩ ?_
 rintro ⟨i,u⟩ ⟨k1,k2,k3,k4⟩ next
 simp only at k1 k2 k3 k4
 refine ⟨fun hlt => go 300 ?_,fun hge => go 300 ?_⟩
 ·have hi : i < l.length:=by simpa using hlt
  have hx : (l.map opV)[i]? = some (opV l[i]):=by simp [hi]
  have ho:=hok _ (List.getElem_mem hi)
  have hvr:=valid_of_right k2 l[i]
  rw [List.drop_eq_getElem_cons hi,allR] at k4
  rw [List.drop_eq_getElem_cons hi,costs] at k3
  refine ⟨Int.natCast_nonneg i,_,hx,?_⟩
  show CallThen _ _ _ _ _ _
  refine call_pure (w_Formed l[i] ho.lt ho.each) rfl ?_
  rintro x rfl
  refine ⟨fun g => go 300 ?_,fun g => go 300 ?_⟩
  ·rw [g] at hvr
   have hvr : ValidE u l[i] = validE u l[i]:=hvr
   show CallThen _ _ _ _ _ _
   refine call_pure (w_valid u l[i] (by omega) ho) rfl ?_
   rintro x rfl
   rw [← hvr]
   by_cases hv : ValidE u l[i] = 0
   ·rw [decide_eq_true hv] at k4
    have hwt:=applyT_weight hv
    refine ⟨fun g => absurd hv (ne_of' g),fun _ => go 300 ?_⟩
    show CallThen _ _ _ _ _ _
    refine call_pure (w_applyT u l[i] (by omega) ho hv) rfl ?_
    rintro x rfl
    refine ⟨by constructor <;> omega,?_⟩
    show Goes _ _ _ _
    exact next (i + 1,applyT u l[i]) _ _ ⟨⟨hi,right_applyT hv,by simp only;omega,k4⟩,by simp only;omega,⟨⟨rfl,rfl⟩,⟨rfl,rfl⟩,⟨rfl,rfl⟩,⟨rfl,rfl⟩,⟨rfl,rfl⟩,⟨rfl,rfl⟩,trivial⟩,⟨⟨rfl,rfl⟩,⟨rfl,rfl⟩,trivial⟩⟩
   ·rw [decide_eq_false hv] at k4
    refine ⟨fun _ => go 300 ?_,fun g => absurd (eq_of' g) hv⟩
    refine ⟨trivial,rfl,rfl,rfl,?_⟩
    rw [← k4]
    exact allZ i (ValidE u l[i])
  ·rw [g] at hvr
   have hvr : ValidE u l[i] = 80:=hvr
   rw [hvr] at k4
   refine ⟨fun _ => go 300 ?_,fun g => absurd (eq_of' g) (by decide)⟩
   refine ⟨trivial,rfl,rfl,rfl,?_⟩
   rw [← k4]
   exact allZ i 80
 ·have hi : i = l.length:=by have:=not_lt_of hge;simp at this;omega
  subst hi
  rw [List.drop_length,allR] at k4
  refine ⟨trivial,rfl,rfl,rfl,?_⟩
  rw [← k4]
  exact ⟨_,Wk.refl _,rfl,by simp [AllV];rfl⟩
end Bow
/- W49: where nodes are behind an operation: shift.moves, of, number, land. -/
namespace Bow
open Go Go.Proofs
set_option maxRecDepth 100000 in
theorem w_moves (o : OpT) (ho : o.Ok) : Pure Tryz.prog 220 [opV o] (fun x => x = .bool (movesO o)):=by
 refine pure_wk (pure_fn 300 Tryz.func220 rfl rfl rfl fun B => ?_)
 show CallThen _ _ _ _ _ _
 refine call_pure (w_Formed o ho.lt ho.each) rfl ?_
 rintro x rfl
 have hW:=w_pathWithin o.path o.to ho.lt.path
 repeat' first
  | (refine ⟨fun _ => go 300 ?_,fun _ => go 300 ?_⟩)
  | (show CallThen _ _ _ _ _ _;refine call_pure hW rfl ?_;rintro z rfl)
  | (refine ⟨trivial,rfl,rfl,rfl,leaf_tt ?_⟩)
  | (refine ⟨trivial,rfl,rfl,rfl,leaf_ff ?_⟩)
  | (refine ⟨trivial,rfl,rfl,rfl,leaf_b ?_⟩)
  | fail
 all_goals (clear hW;simp_all [movesO])
theorem moves_ne {o : OpT} (h : movesO o = true) : o.kind ≠ 1 → o.path ≠ []:=fun hk e => by
 unfold movesO at h
 rw [e,decide_eq_false hk] at h
 simp at h
theorem leaf_i {n m : Int} (h : n = m) : V.int .i64 n = V.int .i64 m:=by rw [h]
def chgV (c : Chg) : V:=.agg [.bool c.takes,.bool c.puts,pathV c.frm,pathV c.to,.int .i64 c.at_,.int .i64 c.gap]
set_option maxRecDepth 100000 in
theorem w_chgOf (o : OpT) (ho : o.Ok) (hne : o.kind ≠ 1 → o.path ≠ []) : Pure Tryz.prog 221 [opV o] (fun x => x = chgV (chgO o)):=by
 refine pure_wk (pure_fn 300 Tryz.func221 rfl rfl rfl fun B => ?_)
 refine ⟨fun g1 => go 300 ?_,fun g1 => go 300 ?_⟩
 ·have hk : o.kind = 1:=eq_of g1
  refine ⟨fun q => absurd hk (ne_of' q),fun _ => go 300 ?_⟩
  have e : chgO o = ⟨!decide (o.kind = 1),!decide (o.kind = 2),[],o.path,0,o.at_⟩:=by unfold chgO;simp [hk]
  rw [e]
  exact ⟨trivial,rfl,rfl,rfl,chgV ⟨!decide (o.kind = 1),!decide (o.kind = 2),[],o.path,0,o.at_⟩,Wk.agg ⟨.refl _,.refl _,Wk.nil 1,.refl _,.refl _,.refl _,trivial⟩,rfl,rfl⟩
 ·have hk : o.kind ≠ 1:=ne_of g1
  refine ⟨fun _ => go 300 ?_,fun q => absurd (eq_of' q) hk⟩
  show CallThen _ _ _ _ _ _
  refine call_pure (w_Parent o.path ho.lt.path (hne hk)) rfl ?_
  rintro x rfl
  have e : chgO o = ⟨!decide (o.kind = 1),!decide (o.kind = 2),o.path.dropLast,o.to,o.path.getLast (hne hk),o.at_⟩:=by unfold chgO;rw [lastP_eq];simp [hk]
  rw [e]
  exact ⟨trivial,rfl,rfl,rfl,_,Wk.refl _,rfl,rfl⟩
set_option maxRecDepth 100000 in
theorem w_number (c : Chg) (p : List Int) (k : Int) (hp : p.length ≤ 1000000) (hk : -1 ≤ k ∧ k ≤ 10000000) : Pure Tryz.prog 223 [chgV c,pathV p,.int .i64 k] (fun x => x = .int .i64 (c.number p k)):=by
 refine pure_fn 300 Tryz.func223 rfl rfl rfl fun B => ?_
 have h1:=w_pathSame p c.frm hp
 have h2:=w_pathSame p c.to hp
 repeat' first
  | (refine ⟨fun _ => go 300 ?_,fun _ => go 300 ?_⟩)
  | (show CallThen _ _ _ _ _ _;refine call_pure h1 rfl ?_;rintro z rfl)
  | (show CallThen _ _ _ _ _ _;refine call_pure h2 rfl ?_;rintro z rfl)
  | (refine ⟨trivial,rfl,rfl,rfl,leaf_i ?_⟩)
  | (refine ⟨by constructor <;> omega,?_⟩)
  | fail
 all_goals (unfold Chg.number;try simp_all)
 all_goals (first | (simp [show ¬ (c.gap ≤ k) by omega,show ¬ (c.at_ < k) by omega];done) | (simp [show ¬ (c.gap ≤ k) by omega];done) | (simp [show ¬ (c.at_ < k) by omega];done))
set_option maxRecDepth 100000 in
theorem w_land (c : Chg) (hp : c.frm.length ≤ 1000000) (hk : -1 ≤ c.gap ∧ c.gap ≤ 10000000) : Pure Tryz.prog 222 [chgV c] (fun x => x = .int .i64 c.land):=by
 refine pure_fn 300 Tryz.func222 rfl rfl rfl fun B => ?_
 have h1:=w_pathSame c.frm c.to hp
 repeat' first
  | (refine ⟨fun _ => go 300 ?_,fun _ => go 300 ?_⟩)
  | (show CallThen _ _ _ _ _ _;refine call_pure h1 rfl ?_;rintro z rfl)
  | (refine ⟨trivial,rfl,rfl,rfl,leaf_i ?_⟩)
  | (refine ⟨by constructor <;> omega,?_⟩)
  | fail
 all_goals (unfold Chg.land;try simp_all)
 all_goals (simp [show ¬ (c.at_ < c.gap) by omega];done)
end Bow
/- W50: where a node is behind an operation: shift.Node. -/
namespace Bow
open Go Go.Proofs
def NodeS (o : OpT) (q : List Int) (x : V) (T : Heap) : Prop :=
  (q = [] ∧ x = .tup [.nilsl, .tt] ∧ T = [some (.box (opV o).cells)]) ∨ (∃ g, x = .tup [.osl (.loc 1) g 0 q.length, .tt] ∧ T = [some (.box (opV o).cells), some (.vec g 1 (q.map intV))])
def NodeM (o : OpT) (q : List Int) (x : V) (T : Heap) : Prop :=
  ∃ g, x = .tup [.osl (.loc 2) g 0 q.length, .tt] ∧ T = [some (.box (opV o).cells), some (.box (chgV (chgO o)).cells), some (.vec g 1 (q.map intV))]
theorem nums_snoc (c : Chg) : ∀ (p q : List Int) (k : Int), c.nums q (p ++ [k]) = c.nums q p ++ [c.number (q ++ p) k]
  | [], q, k => by simp [Chg.nums]
  | x :: p, q, k => by
    rw [List.cons_append, Chg.nums, nums_snoc c p, Chg.nums]
    simp
theorem nums_len (c : Chg) : ∀ (p q : List Int), (c.nums q p).length = p.length
  | [], _ => rfl
  | x :: p, q => by rw [Chg.nums, List.length_cons, nums_len c p, List.length_cons]
theorem nums_take (c : Chg) {p : List Int} {i : Nat} (h : i < p.length) : c.nums [] (p.take (i + 1)) = c.nums [] (p.take i) ++ [c.number (p.take i) p[i]] := by
  rw [List.take_succ_eq_append_getElem h, nums_snoc]
  simp
set_option maxRecDepth 100000 in
theorem w_NodeStay (o : OpT) (p : List Int) (ho : o.Ok) (hp : p.length ≤ 1000000) (hm : movesO o = false) :
    Fun Tryz.prog 207 [] [opV o, pathV p] (NodeS o p) := by
  refine fun_fn 300 Tryz.func207 rfl rfl rfl fun imps B hi => ?_
  have : imps = [] := List.length_eq_zero_iff.1 hi
  subst this
  show CallThen _ _ _ _ _ _
  refine call_pure (w_moves o ho) rfl ?_
  rintro x rfl
  refine ⟨fun g1 => go 300 ?_, fun g1 => absurd hm (by simpa using g1)⟩
  show CallThen _ _ _ _ _ _
  refine call_sub [] (w_CloneInt (p.map intV) (by simpa using hp)) rfl rfl trivial rfl rfl rfl ?_
  rintro x T1 (⟨e, rfl, rfl⟩ | ⟨rfl, rfl⟩)
  · refine ⟨rfl, ?_⟩
    refine ⟨trivial, rfl, rfl, .inl ⟨by simpa using e, rfl, rfl⟩⟩
  · refine ⟨rfl, ?_⟩
    refine ⟨trivial, rfl, rfl, .inr ⟨2, by simp [resV]; rfl, rfl⟩⟩
set_option maxHeartbeats 2000000 in
set_option maxRecDepth 100000 in
theorem w_Node0 (o : OpT) (p : List Int) (ho : o.Ok) (hp : p.length ≤ 1000000) (hpb : ∀ i ∈ p, 0 ≤ i ∧ i ≤ 1048576) (hm : movesO o = true) (hb : ((chgO o).takes && within o.path p) = false) :
    Fun Tryz.prog 207 [] [opV o, pathV p] (NodeM o ((chgO o).nums [] p)) := by
  refine fun_fn 300 Tryz.func207 rfl rfl rfl fun imps B hi => ?_
  have : imps = [] := List.length_eq_zero_iff.1 hi
  subst this
  show CallThen _ _ _ _ _ _
  refine call_pure (w_moves o ho) rfl ?_
  rintro x rfl
  refine ⟨fun g1 => absurd hm (by simpa using g1), fun g1 => go 300 ?_⟩
  have hne : o.kind ≠ 1 → o.path ≠ [] := moves_ne hm
  unfold NodeM
  show CallThen _ _ _ _ _ _
  refine call_pure (w_chgOf o ho hne) rfl ?_
  rintro x rfl
  obtain ⟨c, hc⟩ : ∃ c, chgO o = c := ⟨_, rfl⟩
  rw [hc] at hb ⊢
  rcases Bool.eq_false_or_eq_true c.takes with ht | ht
  · rw [ht, Bool.true_and] at hb
    refine ⟨fun _ => go 300 ?_, fun q => absurd (ht.symm.trans q) (by decide)⟩
    show CallThen _ _ _ _ _ _
    refine call_pure (w_pathWithin o.path p ho.lt.path) rfl ?_
    rintro x rfl
    refine ⟨fun q => absurd (hb.symm.trans q) (by decide), fun _ => go 300 ?_⟩
    show Goes _ _ _ _
    refine goes_own 7 1 rfl ?_
    refine goes_while (ι := Nat × Nat × Nat × List V) (κ := Nat × Nat × List V) (fun i => i.1 ≤ p.length ∧ i.2.2.2 = (c.nums [] (p.take i.1)).map intV ∧ i.2.2.1 = i.1) (fun i => p.length - i.1)
      (fun i => [(9, .int .i64 i.1), (8, .int .i64 0), (7, .osl (.loc 2) i.2.1 0 i.2.2.1), (6, .ptr (.loc 1) 0), (1, pathV p), (2, .ptr (.loc 0) 0)]) (fun i => [some (.box (opV o).cells), some (.box (chgV c).cells), some (.vec i.2.1 1 i.2.2.2)]) (0, 0, 0, [])
      (fun k => k.2.1 = p.length ∧ k.2.2 = (c.nums [] p).map intV) (fun k => [(7, .osl (.loc 2) k.1 0 k.2.1)]) (fun k => [some (.box (opV o).cells), some (.box (chgV c).cells), some (.vec k.1 1 k.2.2)]) 300 (fun _ => rfl) (fun _ => rfl) (fun _ => rfl) (fun _ => rfl) ⟨⟨Nat.zero_le _, rfl, rfl⟩, ⟨⟨rfl, rfl⟩, ⟨rfl, rfl⟩, ⟨rfl, rfl⟩, ⟨rfl, rfl⟩, ⟨rfl, rfl⟩, ⟨rfl, rfl⟩, trivial⟩, ⟨⟨rfl, rfl⟩, ⟨rfl, rfl⟩, ⟨rfl, rfl⟩, trivial⟩⟩ ?_ ?_
    · rintro ⟨g, n, xs⟩ ⟨j1, j2⟩
      simp only at j1 j2
      subst j1 j2
      refine ⟨trivial, rfl, rfl, g, ?_, rfl⟩
      simp [resV, nums_len]
    · rintro ⟨i, g, n, xs⟩ ⟨j1, j2, j3⟩ next post
      simp only at j1 j2 j3
      subst j2
      replace j3 := j3.symm
      subst j3
      refine ⟨fun hlt => go 300 ?_, fun hge => go 300 ?_⟩
      · have hi : i < p.length := by simpa using hlt
        have hx : (p.map intV)[i]? = some (intV p[i]) := by simp [hi]
        have hbd := hpb _ (List.getElem_mem hi)
        have hnum := w_number c (p.take i) p[i] (by simp; omega) ⟨by omega, by omega⟩
        have et : V.sl 1 (((p.map intV).drop (Int.toNat 0)).take (((i : Nat) : Int).toNat - Int.toNat 0)) = pathV (p.take i) := by
          unfold pathV
          simp
        refine ⟨fun q => absurd (lt_of q) (by omega), fun _ => go 300 ?_⟩
        show Goes _ _ _ _
        refine goes_draw 300 ?_
        refine ⟨by decide, Int.natCast_nonneg i, Int.ofNat_le.2 (by simpa using j1), ?_⟩
        refine ⟨Int.natCast_nonneg i, _, hx, ?_⟩
        have hnum' := hnum
        rw [← et] at hnum'
        refine ⟨_, hnum', rfl, ?_⟩
        have hcl : (c.nums [] (p.take i)).length = i := by rw [nums_len]; simp; omega
        refine ⟨rfl, ⟨rfl, trivial⟩, ?_⟩
        refine ⟨rfl, rfl, rfl, rfl, by simp [hcl], room_of (by simp [hcl]; omega) (by decide), ?_⟩
        refine ⟨by kernel_rfl, ?_⟩
        try refine ⟨by kernel_rfl, ?_⟩
        refine ⟨⟨by omega, by omega⟩, ?_⟩
        refine next (i + 1, bump g, i + 1, (c.nums [] (p.take i)).map intV ++ [intV (c.number (p.take i) p[i])]) _ _ ⟨⟨hi, ?_, rfl⟩, ?_, ?_, ?_⟩
        · simp only
          rw [nums_take c hi, List.map_append]
          rfl
        · simp only; omega
        · refine ⟨⟨rfl, rfl⟩, ⟨rfl, rfl⟩, ⟨?_, rfl⟩, ⟨rfl, rfl⟩, ⟨rfl, rfl⟩, ⟨rfl, rfl⟩, trivial⟩
          simp [hcl]
          rfl
        · refine ⟨⟨rfl, rfl⟩, ⟨rfl, rfl⟩, ⟨?_, rfl⟩, trivial⟩
          rfl
      · have hi : i = p.length := by have : p.length ≤ i := by simpa using hge
                                     omega
        subst hi
        rw [List.take_length]
        exact post (g, _, _) _ _ _ rfl ⟨⟨rfl, rfl⟩, ⟨⟨rfl, rfl⟩, trivial⟩, ⟨⟨rfl, rfl⟩, ⟨rfl, rfl⟩, ⟨rfl, rfl⟩, trivial⟩⟩
  · refine ⟨fun q => absurd (ht.symm.trans q) (by decide), fun _ => go 300 ?_⟩
    show Goes _ _ _ _
    refine goes_own 7 1 rfl ?_
    refine goes_while (ι := Nat × Nat × Nat × List V) (κ := Nat × Nat × List V) (fun i => i.1 ≤ p.length ∧ i.2.2.2 = (c.nums [] (p.take i.1)).map intV ∧ i.2.2.1 = i.1) (fun i => p.length - i.1)
      (fun i => [(9, .int .i64 i.1), (8, .int .i64 0), (7, .osl (.loc 2) i.2.1 0 i.2.2.1), (6, .ptr (.loc 1) 0), (1, pathV p), (2, .ptr (.loc 0) 0)]) (fun i => [some (.box (opV o).cells), some (.box (chgV c).cells), some (.vec i.2.1 1 i.2.2.2)]) (0, 0, 0, [])
      (fun k => k.2.1 = p.length ∧ k.2.2 = (c.nums [] p).map intV) (fun k => [(7, .osl (.loc 2) k.1 0 k.2.1)]) (fun k => [some (.box (opV o).cells), some (.box (chgV c).cells), some (.vec k.1 1 k.2.2)]) 300 (fun _ => rfl) (fun _ => rfl) (fun _ => rfl) (fun _ => rfl) ⟨⟨Nat.zero_le _, rfl, rfl⟩, ⟨⟨rfl, rfl⟩, ⟨rfl, rfl⟩, ⟨rfl, rfl⟩, ⟨rfl, rfl⟩, ⟨rfl, rfl⟩, ⟨rfl, rfl⟩, trivial⟩, ⟨⟨rfl, rfl⟩, ⟨rfl, rfl⟩, ⟨rfl, rfl⟩, trivial⟩⟩ ?_ ?_
    · rintro ⟨g, n, xs⟩ ⟨j1, j2⟩
      simp only at j1 j2
      subst j1 j2
      refine ⟨trivial, rfl, rfl, g, ?_, rfl⟩
      simp [resV, nums_len]
    · rintro ⟨i, g, n, xs⟩ ⟨j1, j2, j3⟩ next post
      simp only at j1 j2 j3
      subst j2
      replace j3 := j3.symm
      subst j3
      refine ⟨fun hlt => go 300 ?_, fun hge => go 300 ?_⟩
      · have hi : i < p.length := by simpa using hlt
        have hx : (p.map intV)[i]? = some (intV p[i]) := by simp [hi]
        have hbd := hpb _ (List.getElem_mem hi)
        have hnum := w_number c (p.take i) p[i] (by simp; omega) ⟨by omega, by omega⟩
        have et : V.sl 1 (((p.map intV).drop (Int.toNat 0)).take (((i : Nat) : Int).toNat - Int.toNat 0)) = pathV (p.take i) := by
          unfold pathV
          simp
        refine ⟨fun q => absurd (lt_of q) (by omega), fun _ => go 300 ?_⟩
        show Goes _ _ _ _
        refine goes_draw 300 ?_
        refine ⟨by decide, Int.natCast_nonneg i, Int.ofNat_le.2 (by simpa using j1), ?_⟩
        refine ⟨Int.natCast_nonneg i, _, hx, ?_⟩
        have hnum' := hnum
        rw [← et] at hnum'
        refine ⟨_, hnum', rfl, ?_⟩
        have hcl : (c.nums [] (p.take i)).length = i := by rw [nums_len]; simp; omega
        refine ⟨rfl, ⟨rfl, trivial⟩, ?_⟩
        refine ⟨rfl, rfl, rfl, rfl, by simp [hcl], room_of (by simp [hcl]; omega) (by decide), ?_⟩
        refine ⟨by kernel_rfl, ?_⟩
        try refine ⟨by kernel_rfl, ?_⟩
        refine ⟨⟨by omega, by omega⟩, ?_⟩
        refine next (i + 1, bump g, i + 1, (c.nums [] (p.take i)).map intV ++ [intV (c.number (p.take i) p[i])]) _ _ ⟨⟨hi, ?_, rfl⟩, ?_, ?_, ?_⟩
        · simp only
          rw [nums_take c hi, List.map_append]
          rfl
        · simp only; omega
        · refine ⟨⟨rfl, rfl⟩, ⟨rfl, rfl⟩, ⟨?_, rfl⟩, ⟨rfl, rfl⟩, ⟨rfl, rfl⟩, ⟨rfl, rfl⟩, trivial⟩
          simp [hcl]
          rfl
        · refine ⟨⟨rfl, rfl⟩, ⟨rfl, rfl⟩, ⟨?_, rfl⟩, trivial⟩
          rfl
      · have hi : i = p.length := by have : p.length ≤ i := by simpa using hge
                                     omega
        subst hi
        rw [List.take_length]
        exact post (g, _, _) _ _ _ rfl ⟨⟨rfl, rfl⟩, ⟨⟨rfl, rfl⟩, trivial⟩, ⟨⟨rfl, rfl⟩, ⟨rfl, rfl⟩, ⟨rfl, rfl⟩, trivial⟩⟩
end Bow
/- W51: shift.Node, all; Gap; Undo. -/
namespace Bow
open Go Go.Proofs
theorem moves_parts {o : OpT} (h : movesO o = true) : formedB o = true ∧ (o.kind = 1 ∨ (o.kind = 2 ∧ o.path ≠ []) ∨ (o.kind = 3 ∧ o.path ≠ [] ∧ within o.path o.to = false)) := by
  have hne := moves_ne h
  unfold movesO at h
  rw [Bool.and_eq_true] at h
  refine ⟨h.1, ?_⟩
  have h2 := h.2
  by_cases k1 : o.kind = 1
  · exact .inl k1
  · by_cases k2 : o.kind = 2
    · exact .inr (.inl ⟨k2, hne k1⟩)
    · rw [decide_eq_false k1, decide_eq_false k2] at h2
      by_cases k3 : o.kind = 3
      · rw [decide_eq_true k3] at h2
        simp only [cond_false, cond_true, Bool.and_eq_true, Bool.not_eq_true'] at h2
        exact .inr (.inr ⟨k3, hne k1, h2.2⟩)
      · rw [decide_eq_false k3] at h2
        cases h2
theorem may_len {p : List Int} (h : mayP p = true) : p.length ≤ 64 := by
  unfold mayP at h
  rw [Bool.and_eq_true] at h
  exact of_decide_eq_true h.1
theorem formed_gap {o : OpT} (hf : formedB o = true) (hk : o.kind = 1 ∨ o.kind = 3) : 0 ≤ o.at_ ∧ o.at_ ≤ 1048576 := by
  unfold formedB at hf
  rw [Bool.and_eq_true] at hf
  have hf2 := hf.2
  rcases hk with hk | hk
  · simp only [hk] at hf2
    have hf3 : (gapOk o.at_ && decide ((o.label.length : Int) ≤ 64)) = true := hf2
    unfold gapOk at hf3
    simp only [Bool.and_eq_true, decide_eq_true_eq] at hf3
    exact hf3.1
  · simp only [hk] at hf2
    have hf3 : (gapOk o.at_ && mayP o.to) = true := hf2
    unfold gapOk at hf3
    simp only [Bool.and_eq_true, decide_eq_true_eq] at hf3
    exact hf3.1
def nodeRV : Option (List Int) → V
  | none => .tup [pathV [], .ff]
  | some q => .tup [pathV q, .tt]
set_option maxHeartbeats 4000000 in
set_option maxRecDepth 100000 in
theorem w_NodeT (o : OpT) (p : List Int) (ho : o.Ok) (hp : p.length ≤ 1000) (_hpb : ∀ i ∈ p, 0 ≤ i ∧ i ≤ 1048576) (hm : movesO o = true) (hb : ((chgO o).takes && within o.path p) = true) :
    Pure Tryz.prog 207 [opV o, pathV p] (fun x => x = nodeRV (nodeP o p)) := by
  simp only [Bool.and_eq_true] at hb
  obtain ⟨ht, hwi⟩ := hb
  obtain ⟨hf, hkk⟩ := moves_parts hm
  have hpl := may_step (formed_path hf)
  have hwl := within_len hwi
  refine pure_wk (pure_fn 300 Tryz.func207 rfl rfl rfl fun B => ?_)
  show CallThen _ _ _ _ _ _
  refine call_pure (w_moves o ho) rfl ?_
  rintro x rfl
  refine ⟨fun g1 => absurd hm (by simpa using g1), fun g1 => go 300 ?_⟩
  show CallThen _ _ _ _ _ _
  refine call_pure (w_chgOf o ho (moves_ne hm)) rfl ?_
  rintro x rfl
  refine ⟨fun _ => go 300 ?_, fun q => absurd (ht.symm.trans q) (by decide)⟩
  show CallThen _ _ _ _ _ _
  refine call_pure (w_pathWithin o.path p ho.lt.path) rfl ?_
  rintro x rfl
  refine ⟨fun _ => go 300 ?_, fun q => absurd (hwi.symm.trans q) (by decide)⟩
  rcases Bool.eq_false_or_eq_true (chgO o).puts with hq | hq
  case inr =>
    have e : nodeP o p = none := by unfold nodeP; rw [hm, ht, hwi, hq]; rfl
    rw [e]
    refine ⟨fun _ => go 300 ?_, fun q => absurd q (by rw [hq]; simp)⟩
    exact ⟨trivial, rfl, rfl, rfl, nodeRV none, Wk.tup ⟨Wk.nil 1, .refl _, trivial⟩, rfl, rfl⟩
  have e : nodeP o p = some ((chgO o).nums [] o.to ++ [(chgO o).land] ++ p.drop o.path.length) := by unfold nodeP; rw [hm, ht, hwi, hq]; rfl
  rw [e]
  refine ⟨fun q => absurd q (by rw [hq]; simp), fun _ => go 300 ?_⟩
  have hk3 : o.kind = 3 ∧ o.path ≠ [] ∧ within o.path o.to = false := by
    rcases hkk with k | ⟨k, _⟩ | h
    · unfold chgO at ht; simp [k] at ht
    · unfold chgO at hq; simp [k] at hq
    · exact h
  obtain ⟨hk3, hne, hwt⟩ := hk3
  have htl := may_step (good_to hf hk3)
  have htn : o.to.length ≤ 64 := may_len (good_to hf hk3)
  have hgap := formed_gap hf (.inr hk3)
  have hrec := w_Node0 o o.to ho (by omega) htl hm (by rw [hwt]; simp)
  have hpos : 0 < o.path.length := List.length_pos_iff.2 hne
  have hcf : (chgO o).frm.length ≤ 1000000 := by unfold chgO; simp [hk3]; have := ho.lt.path; omega
  have hcg : (chgO o).gap = o.at_ := rfl
  have hland := w_land (chgO o) hcf ⟨by rw [hcg]; omega, by rw [hcg]; omega⟩
  unfold NodeM at hrec
  obtain ⟨c, hc⟩ : ∃ c, chgO o = c := ⟨_, rfl⟩
  rw [hc] at hrec hland ⊢
  show CallThen _ _ _ _ _ _
  refine call_sub [] hrec rfl rfl trivial rfl rfl rfl ?_
  rintro x T1 ⟨G, rfl, rfl⟩
  refine ⟨rfl, ?_⟩
  show CallThen _ _ _ _ _ _
  refine call_pure hland rfl ?_
  rintro x rfl
  refine ⟨⟨rfl, trivial⟩, rfl, rfl, rfl, by simp, room_of (by simp [nums_len]; omega) (by decide), ?_⟩
  show Goes _ _ _ _
  refine goes_while (ι := Nat × Nat × Nat × List V) (κ := Nat × Nat × List V) (fun i => o.path.length ≤ i.1 ∧ i.1 ≤ p.length ∧ ∃ acc : List Int, i.2.2.2 = acc.map intV ∧ i.2.2.1 = acc.length ∧ acc.length ≤ 1000 + i.1 ∧ acc ++ p.drop i.1 = c.nums [] o.to ++ [c.land] ++ p.drop o.path.length) (fun i => p.length - i.1)
    (fun i => [(9, .int .i64 i.1), (8, .int .i64 (o.path.map intV).length), (7, .osl (.loc 4) i.2.1 0 i.2.2.1), (6, .ptr (.loc 1) 0), (1, pathV p), (2, .ptr (.loc 0) 0)]) (fun i => [some (.box (opV o).cells), some (.box (chgV c).cells), some (.box (opV o).cells), some (.box (chgV c).cells), some (.vec i.2.1 1 i.2.2.2)]) ((o.path.map intV).length, bump G, _, _)
    (fun k => ∃ acc : List Int, k.2.2 = acc.map intV ∧ k.2.1 = acc.length ∧ acc = c.nums [] o.to ++ [c.land] ++ p.drop o.path.length) (fun k => [(7, .osl (.loc 4) k.1 0 k.2.1)]) (fun k => [some (.box (opV o).cells), some (.box (chgV c).cells), some (.box (opV o).cells), some (.box (chgV c).cells), some (.vec k.1 1 k.2.2)]) 300 (fun _ => rfl) (fun _ => rfl) (fun _ => rfl) (fun _ => rfl) ⟨⟨by simp, by simpa using hwl, c.nums [] o.to ++ [c.land], by simp [intV], by simp, by simp [nums_len]; omega, by simp⟩, ⟨⟨rfl, rfl⟩, ⟨rfl, rfl⟩, ⟨rfl, rfl⟩, ⟨rfl, rfl⟩, ⟨rfl, rfl⟩, ⟨rfl, rfl⟩, trivial⟩, ⟨⟨rfl, rfl⟩, ⟨rfl, rfl⟩, ⟨rfl, rfl⟩, ⟨rfl, rfl⟩, ⟨rfl, rfl⟩, trivial⟩⟩ ?_ ?_
  · rintro ⟨g, n, xs⟩ ⟨acc, h1, h2, h3⟩
    simp only at h1 h2 h3
    subst h1 h2 h3
    exact ⟨trivial, rfl, rfl, rfl, by simp, rfl, nodeRV (some _), Wk.refl _, rfl, rfl⟩
  · rintro ⟨i, g, n, xs⟩ ⟨j0, j1, acc, j4, j5, j2, j3⟩ next post
    simp only at j0 j1 j2 j3 j4 j5
    subst j4
    subst j5
    refine ⟨fun hlt => go 300 ?_, fun hge => go 300 ?_⟩
    · have hi : i < p.length := by simpa using hlt
      have hx : (p.map intV)[i]? = some (intV p[i]) := by simp [hi]
      rw [List.drop_eq_getElem_cons hi] at j3
      refine ⟨fun _ => go 300 ?_, fun q => absurd (not_lt_of q) (by simp; omega)⟩
      refine ⟨Int.natCast_nonneg i, _, hx, ⟨rfl, trivial⟩, rfl, rfl, rfl, by simp, room_of (by simp; omega) (by decide), ?_⟩
      refine ⟨by constructor <;> omega, ?_⟩
      show Goes _ _ _ _
      refine next (i + 1, bump g, _, _) _ _ ⟨⟨by simp only; omega, hi, acc ++ [p[i]], ?_, ?_, ?_, ?_⟩, ?_, ⟨⟨rfl, rfl⟩, ⟨rfl, rfl⟩, ⟨rfl, rfl⟩, ⟨rfl, rfl⟩, ⟨rfl, rfl⟩, ⟨rfl, rfl⟩, trivial⟩, ⟨⟨rfl, rfl⟩, ⟨rfl, rfl⟩, ⟨rfl, rfl⟩, ⟨rfl, rfl⟩, ⟨rfl, rfl⟩, trivial⟩⟩
      · simp [intV]
      · simp
      · simp; omega
      · rw [← j3]; simp
      · simp only; omega
    · have hi : i = p.length := by have : p.length ≤ i := by simpa using hge
                                   omega
      subst hi
      rw [List.drop_length, List.append_nil] at j3
      exact post (g, _, _) _ _ _ rfl ⟨⟨acc, rfl, rfl, j3⟩, ⟨⟨rfl, rfl⟩, trivial⟩, ⟨⟨rfl, rfl⟩, ⟨rfl, rfl⟩, ⟨rfl, rfl⟩, ⟨rfl, rfl⟩, ⟨rfl, rfl⟩, trivial⟩⟩
theorem w_Node (o : OpT) (p : List Int) (ho : o.Ok) (hp : p.length ≤ 1000) (hpb : ∀ i ∈ p, 0 ≤ i ∧ i ≤ 1048576) : Pure Tryz.prog 207 [opV o, pathV p] (fun x => x = nodeRV (nodeP o p)) := by
  rcases Bool.eq_false_or_eq_true (movesO o) with hm | hm
  · rcases Bool.eq_false_or_eq_true ((chgO o).takes && within o.path p) with hb | hb
    · exact w_NodeT o p ho hp hpb hm hb
    · have e : nodeP o p = some ((chgO o).nums [] p) := by unfold nodeP; simp only [hm, hb]; rfl
      rw [e]
      refine pure_wk (pure_of_fun (Fun.mono (w_Node0 o p ho (by omega) hpb hm hb) fun x T h => ?_))
      obtain ⟨g, rfl, rfl⟩ := h
      exact ⟨rfl, by simp, rfl, nodeRV (some _), Wk.refl _, rfl, rfl⟩
  · have e : nodeP o p = some p := by unfold nodeP; rw [hm]; rfl
    rw [e]
    refine pure_wk (pure_of_fun (Fun.mono (w_NodeStay o p ho (by omega) hm) fun x T h => ?_))
    rcases h with ⟨rfl, rfl, rfl⟩ | ⟨g, rfl, rfl⟩
    · exact ⟨rfl, nodeRV (some []), Wk.tup ⟨Wk.nil 1, .refl _, trivial⟩, rfl, rfl⟩
    · exact ⟨rfl, by simp, rfl, nodeRV (some _), Wk.refl _, rfl, rfl⟩
end Bow
/- W52: shift.Gap, Undo; square.sound, drop, shifted, won. -/
namespace Bow
open Go Go.Proofs
def gapV (r : List Int × Int × Bool) : V:=.tup [pathV r.1,.int .i64 r.2.1,.bool r.2.2]
theorem gap_leaf {q : List Int} {n : Int} {r : List Int × Int × Bool} (h : r = (q,n,true)) : ∃ y,Wk (.tup [pathV q,.int .i64 n,.tt]) y ∧ y.pureB = true ∧ y = gapV r:=by
 subst h
 exact ⟨gapV (q,n,true),Wk.tup ⟨.refl _,.refl _,Wk.tt,trivial⟩,rfl,rfl⟩
set_option maxHeartbeats 4000000 in
set_option maxRecDepth 100000 in
theorem w_Gap (a : OpT) (p : List Int) (at_ : Int) (first : Bool) (ho : a.Ok) (hp : p.length ≤ 1000) (hpb : ∀ i ∈ p,0 ≤ i ∧ i ≤ 1048576) (hat : 0 ≤ at_ ∧ at_ ≤ 10000000) :
  Pure Tryz.prog 226 [opV a,pathV p,.int .i64 at_,.bool first] (fun x => x = gapV (gapP a p at_ first)):=by
 refine pure_wk (pure_fn 300 Tryz.func226 rfl rfl rfl fun B => ?_)
 show CallThen _ _ _ _ _ _
 refine call_pure (w_Node a p ho hp hpb) rfl ?_
 rintro x rfl
 have hmv:=w_moves a ho
 cases hn : nodeP a p with
 | none =>
  have e : gapP a p at_ first = ([],0,false):=by unfold gapP;rw [hn]
  rw [e]
  exact ⟨trivial,rfl,rfl,rfl,gapV ([],0,false),Wk.tup ⟨.refl _,.refl _,Wk.ff,trivial⟩,rfl,rfl⟩
 | some q =>
  show CallThen _ _ _ _ _ _
  refine call_pure hmv rfl ?_
  rintro x rfl
  refine ⟨fun g1 => go 300 ?_,fun g1 => go 300 ?_⟩
  ·have hm : movesO a = false:=by simpa using g1
   refine ⟨trivial,rfl,rfl,rfl,gap_leaf ?_⟩
   unfold gapP
   rw [hn,hm]
   rfl
  have hm : movesO a = true:=by simpa using g1
  show CallThen _ _ _ _ _ _
  refine call_pure (w_chgOf a ho (moves_ne hm)) rfl ?_
  rintro x rfl
  have e : gapP a p at_ first = (q,(bif (chgO a).takes && (decide ((chgO a).at_ < at_) && decide (p = (chgO a).frm)) then at_ - 1 else at_) + (bif (chgO a).puts && (decide (p = (chgO a).to) && (decide ((chgO a).gap < at_) || (decide (at_ = (chgO a).gap) && !first))) then 1 else 0),true):=by
   unfold gapP
   rw [hn,hm]
   rfl
  rw [e]
  obtain ⟨c,hc⟩ : ∃ c,chgO a = c:=⟨_,rfl⟩
  rw [hc]
  have h1:=w_pathSame p c.frm (by omega)
  have h2:=w_pathSame p c.to (by omega)
  repeat' first
   | (refine ⟨fun _ => go 300 ?_,fun _ => go 300 ?_⟩)
   | (show CallThen _ _ _ _ _ _;refine call_pure h1 rfl ?_;rintro z rfl)
   | (show CallThen _ _ _ _ _ _;refine call_pure h2 rfl ?_;rintro z rfl)
   | (refine ⟨trivial,rfl,rfl,rfl,gap_leaf ?_⟩)
   | (refine ⟨by constructor <;> omega,?_⟩)
   | fail
  all_goals (clear hmv h1 h2 e;simp_all)
  all_goals ((try simp only [Bool.cond_decide]);(repeat' split) <;> first | omega | (simp_all;done) | skip)
  all_goals (first | (simp [show ¬ (c.at_ < at_) by omega];done) | (simp [show ¬ (c.at_ < c.gap) by omega];done) | (simp [show ¬ (c.at_ < at_) by omega,show ¬ (c.gap < at_) by omega];done))
theorem wk_zeroOp : Wk (.agg [.int .u8 0,.nilsl,.int .i64 0,.nilsl,.int .u64 0,.ff,.str [],.str [],.str [],.ff,.nilsl]) (opV (noOp 0)) :=
 Wk.agg ⟨.refl _,Wk.nil 1,.refl _,Wk.nil 1,.refl _,Wk.ff,.refl _,.refl _,.refl _,Wk.ff,Wk.nil 3,trivial⟩
set_option maxRecDepth 100000 in
theorem w_sound (o : OpT) (ho : o.Ok) : Pure Tryz.prog 201 [opV o] (fun x => x = .bool (soundO o)):=by
 refine pure_wk (pure_fn 300 Tryz.func201 rfl rfl rfl fun B => ?_)
 show CallThen _ _ _ _ _ _
 refine call_pure (w_Formed o ho.lt ho.each) rfl ?_
 rintro x rfl
 have hW:=w_pathWithin o.path o.to ho.lt.path
 repeat' first
  | (refine ⟨fun _ => go 300 ?_,fun _ => go 300 ?_⟩)
  | (show CallThen _ _ _ _ _ _;refine call_pure hW rfl ?_;rintro z rfl)
  | (refine ⟨trivial,rfl,rfl,rfl,leaf_tt ?_⟩)
  | (refine ⟨trivial,rfl,rfl,rfl,leaf_ff ?_⟩)
  | (refine ⟨trivial,rfl,rfl,rfl,leaf_b ?_⟩)
  | fail
 all_goals (unfold soundO;simp_all)
theorem w_drop (p : List Int) : Pure Tryz.prog 208 [pathV p] (fun x => x = opV (dropO p)):=by
 refine pure_wk (pure_fn 300 Tryz.func208 rfl rfl rfl fun B => ?_)
 exact ⟨trivial,rfl,rfl,rfl,opV (dropO p),Wk.agg ⟨.refl _,.refl _,.refl _,Wk.nil 1,.refl _,Wk.ff,.refl _,.refl _,.refl _,Wk.ff,Wk.nil 3,trivial⟩,rfl,rfl⟩
set_option maxRecDepth 100000 in
theorem w_won (b a : OpT) (ha : a.Ok) : Pure Tryz.prog 209 [opV b,opV a] (fun x => x = .bool (wonO b a)):=by
 refine pure_wk (pure_fn 300 Tryz.func209 rfl rfl rfl fun B => ?_)
 have h1:=w_pathSame a.path b.path ha.lt.path
 repeat' first
  | (refine ⟨fun _ => go 300 ?_,fun _ => go 300 ?_⟩)
  | (show CallThen _ _ _ _ _ _;refine call_pure h1 rfl ?_;rintro z rfl)
  | (refine ⟨trivial,rfl,rfl,rfl,leaf_tt ?_⟩)
  | (refine ⟨trivial,rfl,rfl,rfl,leaf_ff ?_⟩)
  | (refine ⟨trivial,rfl,rfl,rfl,leaf_b ?_⟩)
  | fail
 all_goals (unfold wonO;simp_all)
theorem nodeRV_get {r : Option (List Int)} : ∃ b : V,nodeRV r = .tup [pathV (r.getD []),b] ∧ (b = .tt ∨ b = .ff):=by
 cases r with
 | none => exact ⟨.ff,rfl,.inr rfl⟩
 | some q => exact ⟨.tt,rfl,.inl rfl⟩
set_option maxHeartbeats 4000000 in
set_option maxRecDepth 100000 in
theorem w_shifted (b a : OpT) (prior : Bool) (ha : a.Ok) (_hb : b.Ok) (hf : formedB b = true) :
  Pure Tryz.prog 212 [opV b,opV a,.bool prior] (fun x => x = opV (shiftedO b a prior)):=by
 have hpl:=may_len (formed_path hf)
 have hps:=may_step (formed_path hf)
 refine pure_fn 300 Tryz.func212 rfl rfl rfl fun B => ?_
 show CallThen _ _ _ _ _ _
 refine call_pure (w_Node a b.path ha (by omega) hps) rfl ?_
 rintro x rfl
 obtain ⟨v,e,hv⟩:=nodeRV_get (r:=nodeP a b.path)
 rw [e]
 rcases hv with rfl | rfl
 all_goals
  refine ⟨fun g1 => go 300 ?_,fun g1 => go 300 ?_⟩
  ·have hk : b.kind = 1:=eq_of g1
   have hg:=formed_gap hf (.inl hk)
   show CallThen _ _ _ _ _ _
   refine call_pure (w_Gap a b.path b.at_ prior ha (by omega) hps ⟨by omega,by omega⟩) rfl ?_
   rintro x rfl
   refine ⟨trivial,rfl,rfl,rfl,?_⟩
   unfold shiftedO
   rw [decide_eq_true hk]
   rfl
  have hk1 : b.kind ≠ 1:=ne_of g1
  refine ⟨fun g2 => go 300 ?_,fun g2 => go 300 ?_⟩
  ·have hk : b.kind = 3:=eq_of g2
   have hg:=formed_gap hf (.inr hk)
   have htl:=may_len (good_to hf hk)
   have hts:=may_step (good_to hf hk)
   show CallThen _ _ _ _ _ _
   refine call_pure (w_Gap a b.to b.at_ prior ha (by omega) hts ⟨by omega,by omega⟩) rfl ?_
   rintro x rfl
   refine ⟨trivial,rfl,rfl,rfl,?_⟩
   unfold shiftedO
   rw [decide_eq_false hk1,decide_eq_true hk]
   rfl
  ·have hk3 : b.kind ≠ 3:=ne_of g2
   refine ⟨trivial,rfl,rfl,rfl,?_⟩
   unfold shiftedO
   rw [decide_eq_false hk1,decide_eq_false hk3]
   rfl
set_option maxHeartbeats 4000000 in
set_option maxRecDepth 100000 in
theorem w_UndoM (o : OpT) (ho : o.Ok) : Pure Tryz.prog 211 [opV o] (fun x => x = opV (undoO o)):=by
 refine pure_wk (pure_fn 300 Tryz.func211 rfl rfl rfl fun B => ?_)
 have z : undoO o = noOp 0 → ∃ y,Wk (.agg [.int .u8 0,.nilsl,.int .i64 0,.nilsl,.int .u64 0,.ff,.str [],.str [],.str [],.ff,.nilsl]) y ∧ y.pureB = true ∧ y = opV (undoO o):=fun h => ⟨opV (noOp 0),wk_zeroOp,rfl,by rw [h]⟩
 refine ⟨fun g1 => go 300 ?_,fun g1 => go 300 ?_⟩
 ·have hk : o.kind ≠ 3:=ne_of' g1
  exact ⟨trivial,rfl,rfl,rfl,z (by unfold undoO;rw [decide_eq_false hk];rfl)⟩
 have hk : o.kind = 3:=eq_of' g1
 show CallThen _ _ _ _ _ _
 refine call_pure (w_moves o ho) rfl ?_
 rintro x rfl
 refine ⟨fun g2 => go 300 ?_,fun g2 => go 300 ?_⟩
 ·have hm : movesO o = false:=by simpa using g2
  exact ⟨trivial,rfl,rfl,rfl,z (by unfold undoO;rw [hm];simp)⟩
 have hm : movesO o = true:=by simpa using g2
 obtain ⟨hf,hkk⟩:=moves_parts hm
 have hpl:=may_len (formed_path hf)
 have hps:=may_step (formed_path hf)
 have hfrm : (chgO o).frm = o.path.dropLast:=by unfold chgO;simp [hk]
 have hfs : ∀ i ∈ (chgO o).frm,0 ≤ i ∧ i ≤ 1048576:=fun i hi => hps i (by rw [hfrm] at hi;exact List.dropLast_subset _ hi)
 have hfl : (chgO o).frm.length ≤ 1000:=by rw [hfrm];simp;omega
 have hgap:=formed_gap hf (.inr hk)
 have hne:=moves_ne hm (by rw [hk];decide)
 have hat : 0 ≤ (chgO o).at_ ∧ (chgO o).at_ ≤ 1048576:=by
  have : (chgO o).at_ = lastP o.path:=by unfold chgO;simp [hk]
  rw [this,← lastP_eq hne]
  exact hps _ (List.getLast_mem hne)
 have hcg : (chgO o).gap = o.at_:=rfl
 have hland:=w_land (chgO o) (by omega) ⟨by rw [hcg];omega,by rw [hcg];omega⟩
 show CallThen _ _ _ _ _ _
 refine call_pure (w_chgOf o ho (moves_ne hm)) rfl ?_
 rintro x rfl
 show CallThen _ _ _ _ _ _
 refine call_pure (w_Node o o.path ho (by omega) hps) rfl ?_
 rintro x rfl
 obtain ⟨v,e,hv⟩:=nodeRV_get (r:=nodeP o o.path)
 rw [e]
 have fin : ∀ n : Int,n = (chgO o).at_ + (bif decide ((chgO o).frm = (chgO o).to) && decide ((chgO o).land < (chgO o).at_) then 1 else 0) →
   ∃ y,Wk (.agg [.int .u8 3,pathV ((nodeP o o.path).getD []),.int .i64 n,pathV ((nodeP o (chgO o).frm).getD []),.int .u64 0,.ff,.str [],.str [],.str [],.ff,.nilsl]) y ∧ y.pureB = true ∧ y = opV (undoO o):=fun n hn =>
  ⟨opV (undoO o),by
   have : undoO o = { noOp 3 with path:=(nodeP o o.path).getD [],to:=(nodeP o (chgO o).frm).getD [],at_:=n }:=by unfold undoO;rw [decide_eq_true hk,hm,hn];rfl
   rw [this]
   exact Wk.agg ⟨.refl _,.refl _,.refl _,.refl _,.refl _,Wk.ff,.refl _,.refl _,.refl _,Wk.ff,Wk.nil 3,trivial⟩,rfl,rfl⟩
 rcases hv with rfl | rfl
 all_goals
  show CallThen _ _ _ _ _ _
  refine call_pure (w_Node o (chgO o).frm ho hfl hfs) rfl ?_
  rintro x rfl
  obtain ⟨v2,e2,hv2⟩:=nodeRV_get (r:=nodeP o (chgO o).frm)
  rw [e2]
  rcases hv2 with rfl | rfl
  all_goals
   show CallThen _ _ _ _ _ _
   refine call_pure (w_pathSame (chgO o).frm (chgO o).to (by omega)) rfl ?_
   rintro x rfl
   refine ⟨fun q1 => go 300 ?_,fun q1 => go 300 ?_⟩
   ·show CallThen _ _ _ _ _ _
    refine call_pure hland rfl ?_
    rintro x rfl
    refine ⟨fun q2 => go 300 ?_,fun q2 => go 300 ?_⟩
    ·refine ⟨by constructor <;> omega,?_⟩
     exact ⟨trivial,rfl,rfl,rfl,fin _ (by rw [q1,q2];rfl)⟩
    ·exact ⟨trivial,rfl,rfl,rfl,fin _ (by rw [q1,q2];simp)⟩
   ·exact ⟨trivial,rfl,rfl,rfl,fin _ (by rw [q1];simp)⟩
end Bow
