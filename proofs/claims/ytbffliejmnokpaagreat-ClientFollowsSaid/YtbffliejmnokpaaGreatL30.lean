/- ClientFollows: of every tree and every script of steps: a client that hears all revisions of a server's window in order has, at each step, as its base the server's tree of the revision seen; what is pending is valid on it and makes its tree; the list in flight is, when it is accepted, just the one that the server added; and behind a refusal its tree is the base: the law's function returns true. No condition. -/
import Derived.Test.YtbffliejmnokpaaGreatMh
import Derived.WalkKit
import Derived.ProofKit
import Derived.OpenShut
import Derived.ShutString
import Derived.ChangeOld
namespace Go.Proofs.YtbffliejmnokpaaGreat.clientFollowsDone
open Go.ChangeShapes Go.WideShapes Go.ChangeAt Go.RowKit
open Bow
theorem own:ownKnob Tryz.prog.godebug =none:=by kernel_rfl
theorem laidOut:laidOutB Tryz.prog =true:=by kernel_rfl
theorem walk (x0:Tree)(x1:List StepT)(v0 v1:Value)(w:World)(h0:Rep w β0 [] (nodeV x0) v0)(h1:Rep w β0 [] (stepsV x1) v1):
  Calls Tryz.prog 6 #[v0,v1] w λe w'=>e=.returned (.bool true)∧Below w.heap.size w w':=
 Aat (Wt x0 x1) rfl rfl λj x u hj hu=>by
  cases j with
  |zero=>simp at hj hu;subst hj hu;exact h0
  |succ j=>
   cases j with
   |zero=>simp at hj hu;subst hj hu;exact h1
   |succ j=>
    simp at hj
set_option maxRecDepth 100000 in
theorem lifted (os:Os)(started:os.Started)(H:Type)(enc:TypeId×Value->H):
  ReturnsInHanded {} Tryz.checked os 6 .any (Rows.clientFollowsSpec.pre6 enc Tryz.prog Tryz.f6 Rows.clientFollowsRow.domain false) (Rows.clientFollowsSpec.post enc Tryz.prog Tryz.f6 false true false false):=by
 refine returnsInHanded_of_change (C:= Tryz.checked) own started (by kernel_rfl) Tryz.func6
  (ChangeSpec.witness6 (enc:=enc) (C:= Tryz.checked) false ⟨#[], #[.agg #[.int .u64 0,.bool false,.string ⟨#[]⟩,.slice none 0 0,.string ⟨#[]⟩,.slice none 0 0],.slice none 0 0],[]⟩ 8 (by kernel_rfl) (by kernel_rfl) (by kernel_rfl) (by kernel_rfl)) ?_
 intro W base args ds gs before hval0 hW hcnd _;have hval: ∀(j:Nat) t v, Tryz.f6.params[j]?=some t->args[j]?=some v->Value.okWide Tryz.prog W .any base t v:=hval0;have hW':=hW;obtain⟨p,q,hA0,hV,rfl,hfz,hnd⟩:=hW;have hA:DataW.TrodAll enc Tryz.prog W 0 (λ_=>true) true Tryz.f6.params.toList args.toList ds p:=hA0;rw[Tryz.params6] at hA hval;obtain⟨v0,vs0,d0,ds0,p0,q0,hargs,rfl,rfl,h0,r0⟩:=trodAll_cons hA;obtain⟨v1,vs1,d1,ds1,p1,q1,rfl,rfl,rfl,h1,r1⟩:=trodAll_cons r0;obtain⟨rfl,rfl,rfl⟩:=trodAll_nil r1;obtain rfl:args= #[v0,v1]:=by cases args;simp_all
 obtain⟨rfl,rfl⟩:=trodVars_none hV;have k0:=h0;have lt0: ∀x∈p0,x.block<W.heap.size:=by obtain⟨m,hm⟩:=k0;exact DataW.trod_lt m _ _ _ hm
 have k1:=h1;have lt1: ∀x∈p1,x.block<W.heap.size:=by obtain⟨m,hm⟩:=k1;exact DataW.trod_lt m _ _ _ hm
 obtain⟨x0,e0⟩:=Amu (hval 0 _ v0 rfl rfl) h0;obtain⟨x1,e1⟩:=Aj3 (hval 1 _ v1 rfl rfl) h1;clear hA0 hval0;refine(walk x0 x1 v0 v1 W e0 e1).mono λe W' ⟨he,bel⟩=> ?_;subst he;exact⟨_,rfl,_,_,_,[],_,[],hW',trodAll_mk1 (shut_bool Tryz.underlying4 _),(trodAll_cons_mk (Below.trod laidOut (by kernel_rfl) (of_decide_eq_true (by kernel_rfl)) k0 bel lt0) (trodAll_cons_mk (Below.trod laidOut (by kernel_rfl) (of_decide_eq_true (by kernel_rfl)) k1 bel lt1) (trodAll_mk0))),rfl,bel.frame _,λh=>by cases h⟩
set_option maxRecDepth 100000 in
theorem over:Rows.clientFollowsRow.holds Tryz.pinned (OpenSpec.ofChange Rows.clientFollowsSpec):=
 OpenClaim.holds_of_wide 6 Tryz.f6 rfl rfl rfl rfl rfl rfl rfl ⟨rfl,rfl,rfl,rfl,rfl⟩ rfl rfl rfl rfl rfl (by kernel_rfl) Tryz.func6 (by kernel_rfl)
  (of_decide_eq_true (by kernel_rfl)) (by unfold Func.isWrapper;first| (rw[if_pos (by decide+kernel)];kernel_rfl)| (rw[if_neg (by decide+kernel)];exact⟨rfl,rfl⟩))
  (λos started H enc _=>lifted os started H enc)
theorem proved:Rows.ClientFollowsSaid:=over
#print axioms proved
end Go.Proofs.YtbffliejmnokpaaGreat.clientFollowsDone
