/- ClientDrops: of every tree, every script of calls, whether or not a list in flight was taken, and every other tree: behind the script a refusal, or a new tree of the server, drops just what is pending, in its order, and nothing is pending then; the tree is the base: the law's function returns true. No condition. -/
import Derived.Test.YtbffliejmnokpaaGreatMh
import Derived.WalkKit
import Derived.ProofKit
import Derived.OpenShut
import Derived.ShutString
import Derived.ChangeOld
namespace Go.Proofs.YtbffliejmnokpaaGreat.clientDropsDone
open Go.ChangeShapes Go.WideShapes Go.ChangeAt Go.RowKit
open Bow
theorem own : ownKnob Tryz.prog.godebug = none:=by kernel_rfl
theorem laidOut : laidOutB Tryz.prog = true:=by kernel_rfl
theorem walk (x0 : Tree) (x1 : List Call22) (x2 : Bool) (x3 : Tree) (v0 v1 v2 v3 : Value) (w : World) (h0 : Rep w β0 [] (nodeV x0) v0) (h1 : Rep w β0 [] (calls22V x1) v1) (h2 : Rep w β0 [] ((.bool x2)) v2) (h3 : Rep w β0 [] (nodeV x3) v3) :
  Calls Tryz.prog 5 #[v0,v1,v2,v3] w fun e w' => e = .returned (.bool true) ∧ Below w.heap.size w w' :=
 calls_of_pure (w_ClientDrops x0 x1 x2 x3) rfl rfl fun j x u hj hu => by
  cases j with
  | zero => simp at hj hu;subst hj hu;exact h0
  | succ j =>
   cases j with
   | zero => simp at hj hu;subst hj hu;exact h1
   | succ j =>
    cases j with
    | zero => simp at hj hu;subst hj hu;exact h2
    | succ j =>
     cases j with
     | zero => simp at hj hu;subst hj hu;exact h3
     | succ j =>
      simp at hj
set_option maxRecDepth 100000 in
theorem lifted (os : Os) (started : os.Started) (H : Type) (enc : TypeId × Value → H) :
  ReturnsInHanded {} Tryz.checked os 5 .any (Rows.clientDropsSpec.pre6 enc Tryz.prog Tryz.f5 Rows.clientDropsRow.domain false) (Rows.clientDropsSpec.post enc Tryz.prog Tryz.f5 false true false false):=by
 refine returnsInHanded_of_change (C:=Tryz.checked) own started (by kernel_rfl) Tryz.func5
  (ChangeSpec.witness6 (enc:=enc) (C:=Tryz.checked) false ⟨#[],#[.agg #[.int .u64 0,.bool false,.string ⟨#[]⟩,.slice none 0 0,.string ⟨#[]⟩,.slice none 0 0],.slice none 0 0,.bool false,.agg #[.int .u64 0,.bool false,.string ⟨#[]⟩,.slice none 0 0,.string ⟨#[]⟩,.slice none 0 0]],[]⟩ 8 (by kernel_rfl) (by kernel_rfl) (by kernel_rfl) (by kernel_rfl)) ?_
 intro W base args ds gs before hval0 hW hcnd _
 have hval : ∀ (j : Nat) t v,Tryz.f5.params[j]? = some t → args[j]? = some v → Value.okWide Tryz.prog W .any base t v:=hval0
 have hW':=hW
 obtain ⟨p,q,hA0,hV,rfl,hfz,hnd⟩:=hW
 have hA : DataW.TrodAll enc Tryz.prog W 0 (fun _ => true) true Tryz.f5.params.toList args.toList ds p:=hA0
 rw [Tryz.params5] at hA hval
 obtain ⟨v0,vs0,d0,ds0,p0,q0,hargs,rfl,rfl,h0,r0⟩:=trodAll_cons hA
 obtain ⟨v1,vs1,d1,ds1,p1,q1,rfl,rfl,rfl,h1,r1⟩:=trodAll_cons r0
 obtain ⟨v2,vs2,d2,ds2,p2,q2,rfl,rfl,rfl,h2,r2⟩:=trodAll_cons r1
 obtain ⟨v3,vs3,d3,ds3,p3,q3,rfl,rfl,rfl,h3,r3⟩:=trodAll_cons r2
 obtain ⟨rfl,rfl,rfl⟩:=trodAll_nil r3
 obtain rfl : args = #[v0,v1,v2,v3]:=by cases args;simp_all
 obtain ⟨rfl,rfl⟩:=trodVars_none hV
 have k0:=h0
 have lt0 : ∀ x ∈ p0,x.block < W.heap.size:=by obtain ⟨m,hm⟩:=k0;exact DataW.trod_lt m _ _ _ hm
 have k1:=h1
 have lt1 : ∀ x ∈ p1,x.block < W.heap.size:=by obtain ⟨m,hm⟩:=k1;exact DataW.trod_lt m _ _ _ hm
 have k3:=h3
 have lt3 : ∀ x ∈ p3,x.block < W.heap.size:=by obtain ⟨m,hm⟩:=k3;exact DataW.trod_lt m _ _ _ hm
 obtain ⟨x0,e0⟩:=node_arg (hval 0 _ v0 rfl rfl) h0
 obtain ⟨x1,e1,_⟩:=calls22_arg (hval 1 _ v1 rfl rfl) h1
 obtain ⟨x2,rfl,rfl,rfl⟩:=open_bool Tryz.underlying4 (hval 2 4 v2 rfl rfl) h2
 obtain ⟨x3,e3⟩:=node_arg (hval 3 _ v3 rfl rfl) h3
 clear hA0 hval0
 refine (walk x0 x1 x2 x3 v0 v1 (.bool x2) v3 W e0 e1 (.bool _) e3).mono fun e W' ⟨he,bel⟩ => ?_
 subst he
 exact ⟨_,rfl,_,_,_,[],_,[],hW',trodAll_mk1 (shut_bool Tryz.underlying4 _),(trodAll_cons_mk (Below.trod laidOut (by kernel_rfl) (of_decide_eq_true (by kernel_rfl)) k0 bel lt0) (trodAll_cons_mk (Below.trod laidOut (by kernel_rfl) (of_decide_eq_true (by kernel_rfl)) k1 bel lt1) (trodAll_cons_mk (shut_bool Tryz.underlying4 _) (trodAll_cons_mk (Below.trod laidOut (by kernel_rfl) (of_decide_eq_true (by kernel_rfl)) k3 bel lt3) (trodAll_mk0))))),rfl,bel.frame _,fun h => by cases h⟩
set_option maxRecDepth 100000 in
theorem over : Rows.clientDropsRow.holds Tryz.pinned (OpenSpec.ofChange Rows.clientDropsSpec) :=
 OpenClaim.holds_of_wide 5 Tryz.f5 rfl rfl rfl rfl rfl rfl rfl ⟨rfl,rfl,rfl,rfl,rfl⟩ rfl rfl rfl rfl rfl (by kernel_rfl) Tryz.func5 (by kernel_rfl)
  (of_decide_eq_true (by kernel_rfl)) (by unfold Func.isWrapper;first | (rw [if_pos (by decide +kernel)];kernel_rfl) | (rw [if_neg (by decide +kernel)];exact ⟨rfl,rfl⟩))
  (fun os started H enc _ => lifted os started H enc)
theorem proved : Rows.ClientDropsSaid:=over
#print axioms proved
end Go.Proofs.YtbffliejmnokpaaGreat.clientDropsDone
