/- The library, part 3: AE31, AE32, AE33, AE34, AE35, AE36, AE37, AE38, AE39, AE40, AE41, AE42, AE58, AE43, AE44, AE45, AE46, AE47, AE53, AE56, AE59, AE60, AE61, TR1, TR2, SP1, SP2, SP3, SP4, SP5, SP6, SP7, SP8, SP10, SP11, SP12. -/
import Derived.Test.YtbffliejmnokpaaGreatMb
import Derived.Laws.MakeOwn
import Derived.Laws.BytesArg
import Derived.ChangeArms
import Derived.ChangeOld
import Derived.DataReads
import Derived.Laws.Shifts
import Derived.Lib.Bytealg
set_option maxRecDepth 100000
set_option maxHeartbeats 4000000
namespace Bow
open Go
def frzRef (k:Nat)(o:HObj)(v:V):V:=
 match v with
 | .ptr (.loc j) off=>bif Nat.beq j k then(match o with| .box cs=>.iptr cs off|_=>.undef) else v
 | .osl (.loc j) g off len=>bif Nat.beq j k then(match o with| .vec g' sz xs=>bif Nat.beq g g'&&Nat.beq off 0&&Nat.beq len xs.length then .sl sz xs else .undef|_=>.undef) else v
 | .eptr (.loc j) _ _ _=>bif Nat.beq j k then .undef else v
 | .yld (.loc j)=>bif Nat.beq j k then .undef else v
 |v=>v
mutual
def V.fz (k:Nat)(o:HObj):V->V
 | .agg cs=>.agg (V.fzL k o cs)
 | .tup vs=>.tup (V.fzL k o vs)
 | .fn f a c=>.fn f (V.fzL k o a) (V.fzL k o c)
 | .iface t v=>.iface t (v.fz k o)
 | .ptr r off=>frzRef k o (.ptr r off)
 | .osl r g off len=>frzRef k o (.osl r g off len)
 | .eptr r g i off=>frzRef k o (.eptr r g i off)
 | .yld r=>frzRef k o (.yld r)
 | .int k n=>.int k n
 | .bool b=>.bool b
 | .tt=>.tt
 | .ff=>.ff
 | .str s=>.str s
 | .sl s xs=>.sl s xs
 | .nilsl=>.nilsl
 | .iptr cs o=>.iptr cs o
 | .nilp=>.nilp
 | .nilf=>.nilf
 | .nili=>.nili
 | .nilmap=>.nilmap
 | .undef=>.undef
def V.fzL (k:Nat)(o:HObj):List V->List V
 | []=>[]
 |v::vs=>v.fz k o::V.fzL k o vs
end
theorem V.fzL_eq (k:Nat)(o:HObj): ∀vs,V.fzL k o vs=vs.map (V.fz k o)
 | []=>rfl
 |v::vs=>by rw[V.fzL,V.fzL_eq k o vs];rfl
def Env.fz (k:Nat)(o:HObj):Env->Env
 | []=>[]
 | (j,v)::E=>(j,v.fz k o)::Env.fz k o E
theorem Anu (k:Nat)(o:HObj): ∀(E:Env) (n:Nat),lk (Env.fz k o E) n=(lk E n).fz k o
 | [],_=>rfl
 | (j,v)::E,n=>by
  rw[Env.fz,lk,lk,Anu k o E n];cases Nat.beq j n<;>rfl
theorem Env.fz_mem {k:Nat}{o:HObj}: ∀ {E:Env} {p:Nat×V},p∈Env.fz k o E-> ∃q∈E,p=(q.1,q.2.fz k o)
 | [],p,h=>by cases h
 | (j,v)::E,p,h=>by
  rcases Arl.1 h with rfl|h
  ·exact⟨_,Ari,rfl⟩
  ·obtain⟨q,h1,h2⟩:=Env.fz_mem h;exact⟨q,Are _ h1,h2⟩
def frzOk:HObj->Bool
 | .box cs=>V.pureL cs
 | .vec .. =>true
 |_=>false
theorem Aip {k n:Nat}{o:HObj}{v:V}(h:v.sc n):(frzRef k o v).sc n:=by
 cases v with
 |ptr r off=>
  cases r with
  |loc j=>
   simp only[frzRef];cases Nat.beq j k
   ·exact h
   ·cases o<;>trivial
  |_=>exact h
 |osl r g off len=>
  cases r with
  |loc j=>
   simp only[frzRef];cases Nat.beq j k
   ·exact h
   ·cases o with
    |vec g' sz xs=>
     simp only[cond_true];cases(Nat.beq g g'&&Nat.beq off 0&&Nat.beq len xs.length)<;>trivial
    |_=>trivial
  |_=>exact h
 |eptr r g i off=>
  cases r with
  |loc j=>
   simp only[frzRef];cases Nat.beq j k
   ·exact h
   ·trivial
  |_=>exact h
 |yld r=>
  cases r with
  |loc j=>
   simp only[frzRef];cases Nat.beq j k
   ·exact h
   ·trivial
  |_=>exact h
 |_=>exact h
mutual
theorem V.fz_sc {k n:Nat}{o:HObj}: ∀v:V,v.sc n->(v.fz k o).sc n
 | .agg cs,h| .tup cs,h=>V.fzL_sc cs h
 | .fn _ a c,h=>⟨V.fzL_sc a h.1,V.fzL_sc c h.2⟩
 | .iface _ v,h=>V.fz_sc v h
 | .ptr ..,h| .osl ..,h| .eptr ..,h| .yld ..,h=>Aip h
 | .int ..,_| .bool _,_| .tt,_| .ff,_| .str _,_| .sl ..,_| .nilsl,_| .iptr ..,_| .nilp,_| .nilf,_| .nili,_| .nilmap,_| .undef,_=>trivial
theorem V.fzL_sc {k n:Nat}{o:HObj}: ∀vs:List V,V.scL n vs->V.scL n (V.fzL k o vs)
 | [],_=>trivial
 |v::vs,h=>⟨V.fz_sc v h.1,V.fzL_sc vs h.2⟩
end
section
variable {w:World} {β:Nat->Loc} {H:Heap} {m:List Nat} {k r:Nat} {o:HObj}
theorem Agm (hr:HRel w β H)(hn:m.Nodup)(hk:m[k]?=some r)(hH:H[r]?=some (some (o.conv m)))(ho:frzOk o=true){v:V}{u:Value}(h:Rep w β H (v.conv m) u):
  Rep w β (H.set r none) ((frzRef k o v).conv m) u:=by
 have hob:=hr.obj r _ hH;have hne: ∀ {j r':Nat},m[j]?=some r'->Nat.beq j k=false->r'≠r:=λ {j r'} hj hb e=>by
  subst e;have:j=k:=(List.getElem?_inj (Ab hj) hn).1 (hj.trans hk.symm);subst this;simp at hb
 have hnot: ∀ {b N:Nat},β r=.blk b N-> ¬ownB β (H.set r none) b:=λ {b N} hβ=>(hr.free hH hβ 0).1;cases v with
 |ptr rf off=>
  cases rf with
  |loc j=>
   simp only[frzRef];cases hb:Nat.beq j k with
   |false=>exact h.mono (Fr.kill r)
   |true=>
    have hjk:=Arn hb;subst hjk;simp only[V.conv,Ref.conv,hk] at h;cases o with
    |box cs=>
     simp only[cond_true,V.conv];have hcs:V.convL m cs=cs:=E5 m cs ho;simp only[HObj.conv,hcs] at hH hob;cases h with
     |ptrLive _ _ b N cs' hH' hβ=>
      rw[hβ] at hob;obtain⟨vs,e,h1,h2,h3,h4⟩:=hob;have hadd:(⟨b,off,none⟩:Addr)=(⟨b,0,none⟩:Addr).add off:=(Ek b off).symm;rw[hadd];refine .iptr cs off _ (λj=>vs.getD j Go.undef) (hnot hβ) (Asz.1 h1).1 (λj hj=> ?_) (λj c hj=> ?_)
      ·have hjv:j<vs.size:=by omega
       rw[Ek,cell_of_row w b j vs e (0,0) h1];simp[hjv]
      ·have hjl:=Ab hj;exact(h4 j c _ hj (by simp[show j<vs.size by omega])).mono (Fr.kill r)
     |ptrDead _ _ _ hd=>rw[hH] at hd;cases hd
    |_=>cases ho<;>exact .undef _
  |abs n=>exact h.mono (Fr.kill r)
  |bad=>exact h.mono (Fr.kill r)
 |osl rf g off len=>
  cases rf with
  |loc j=>
   simp only[frzRef];cases hb:Nat.beq j k with
   |false=>exact h.mono (Fr.kill r)
   |true=>
    have hjk:=Arn hb;subst hjk;simp only[V.conv,Ref.conv,hk] at h;cases o with
    |vec g' sz xs=>
     simp only[cond_true];cases hc:(Nat.beq g g'&&Nat.beq off 0&&Nat.beq len xs.length) with
     |false=>exact .undef _
     |true=>
      simp only[Aq6] at hc;obtain⟨⟨c1,c2⟩,c3⟩:=hc;have c1:=Arn c1;have c2:=Arn c2;have c3:=Arn c3;subst c1 c2 c3;simp only[cond_true,V.conv];simp only[HObj.conv] at hH hob;have hvec: ∀sz2 xs2,H[r]?=some (some (.vec g sz2 xs2))->sz2=sz∧xs2=xs:=λsz2 xs2 h2=>by
       rw[hH] at h2;injection h2 with h2
       injection h2 with h2
       injection h2 with _ e1 e2
       exact⟨e1.symm,e2.symm⟩
      generalize hn':xs.length=n at h;cases h with
      |oslNil _ _ sz2 xs2 ad hH' hβ=>
       rw[hβ] at hob;have:xs=[]:=hob;subst this;exact .sl sz [] ad 0 (λ_=>Go.undef) (Ara _) (Aq4 _) (by simp) (λhne=>absurd rfl hne) (λi x j c hi=>by simp at hi)
      |oslBlk _ _ _ _ sz2 xs2 b N ad cap hH' hβ hl hN hcap ha hlen=>
       obtain⟨rfl,rfl⟩:=hvec _ _ hH';rw[hβ] at hob;obtain⟨vs,e,_,h1,h2,h3,h4,h5,h6⟩:=hob;subst hn';refine .sl sz2 xs2 ad cap (λj=>vs.getD j Go.undef) hl (by omega) h5 (λhne=> ?_) (λi x j c hi hj=> ?_)
       ·have h0:0<xs2.length:=Arw.2 hne;have:=ha (by omega);subst this;refine⟨_,rfl,hr.free hH hβ _,(Asz.1 h1).1,λj hj=> ?_⟩;have hjv:j<vs.size:=by omega
        rw[Aua,Ek,cell_of_row w b j vs e (0,0) h1];simp[hjv]
       ·have hlt:i*sz2+j<vs.size:=by
         have e1:=Ab hi;have e2:=Ab hj;have e3:=(h5 x (Aq7 hi)).1;have:(i+1)*sz2≤xs2.length*sz2:=Arg _ e1;rw[Asn] at this;omega
        exact(h6 i x j c (vs.getD (i*sz2+j) Go.undef) hi hj (by simp[hlt])).mono (Fr.kill r)
      |oslStale _ _ _ _ g' sz' xs' _ hH' hg=>
       rw[hH] at hH';injection hH' with hH'
       injection hH' with hH'
       injection hH' with e0 _ _
       omega
      |oslDead _ _ _ _ _ hd=>rw[hH] at hd;cases hd
    |_=>exact .undef _
  |abs n=>exact h.mono (Fr.kill r)
  |bad=>exact h.mono (Fr.kill r)
 |eptr rf g i off=>
  cases rf with
  |loc j=>
   simp only[frzRef];cases hb:Nat.beq j k with
   |false=>exact h.mono (Fr.kill r)
   |true=>exact .undef _
  |abs n=>exact h.mono (Fr.kill r)
  |bad=>exact h.mono (Fr.kill r)
 |yld rf=>
  cases rf with
  |loc j=>
   simp only[frzRef];cases hb:Nat.beq j k with
   |false=>exact h.mono (Fr.kill r)
   |true=>exact .undef _
  |abs n=>exact h.mono (Fr.kill r)
  |bad=>exact h.mono (Fr.kill r)
 |_=>exact h.mono (Fr.kill r)
mutual
theorem V.fz_rep (hr:HRel w β H)(hn:m.Nodup)(hk:m[k]?=some r)(hH:H[r]?=some (some (o.conv m)))(ho:frzOk o=true): ∀(v:V) {u:Value},Rep w β H (v.conv m) u->Rep w β (H.set r none) ((v.fz k o).conv m) u
 | .agg cs,u,h=>by
  simp only[V.conv] at h;cases h with
  |agg _ vs hl h=>
   simp only[V.fz,V.conv];rw[V.convL_eq,Arf] at hl;exact .agg _ vs (by rw[V.convL_eq,V.fzL_eq];simpa using hl) (V.fzL_rep hr hn hk hH ho cs vs hl h)
 | .tup cs,u,h=>by
  simp only[V.conv] at h;cases h with
  |tup _ vs hl h=>
   simp only[V.fz,V.conv];rw[V.convL_eq,Arf] at hl;exact .tup _ vs (by rw[V.convL_eq,V.fzL_eq];simpa using hl) (V.fzL_rep hr hn hk hH ho cs vs hl h)
 | .fn _ a c,u,h=>by
  simp only[V.conv] at h;cases h with
  |fn _ _ _ va vc hla hlc h1 h2=>
   simp only[V.fz,V.conv];rw[V.convL_eq,Arf] at hla hlc;exact .fn _ _ _ va vc (by rw[V.convL_eq,V.fzL_eq];simpa using hla) (by rw[V.convL_eq,V.fzL_eq];simpa using hlc) (V.fzL_rep hr hn hk hH ho a va hla h1) (V.fzL_rep hr hn hk hH ho c vc hlc h2)
 | .iface _ v,u,h=>by
  simp only[V.conv] at h;cases h with
  |iface _ _ _ h=>exact .iface _ _ _ (V.fz_rep hr hn hk hH ho v h)
 | .ptr ..,u,h| .osl ..,u,h| .eptr ..,u,h| .yld ..,u,h=>Agm hr hn hk hH ho h
 | .int ..,_,h| .bool _,_,h| .tt,_,h| .ff,_,h| .str _,_,h| .sl ..,_,h| .nilsl,_,h| .iptr ..,_,h| .nilp,_,h| .nilf,_,h| .nili,_,h| .nilmap,_,h| .undef,_,h=>h.mono (Fr.kill r)
theorem V.fzL_rep (hr:HRel w β H)(hn:m.Nodup)(hk:m[k]?=some r)(hH:H[r]?=some (some (o.conv m)))(ho:frzOk o=true): ∀(cs:List V) (vs:Array Value),cs.length=vs.size->
  (∀(j:Nat) (c:V) (v:Value),(V.convL m cs)[j]?=some c->vs[j]?=some v->Rep w β H c v)-> ∀(j:Nat) (c:V) (v:Value),(V.convL m (V.fzL k o cs))[j]?=some c->vs[j]?=some v->Rep w β (H.set r none) c v
 | [],_,_,_,j,c,v,hj,_=>by simp[V.fzL,V.convL] at hj
 |c0::cs,vs,hl,h,j,c,v,hj,hv=>by
  cases j with
  |zero=>
   simp only[V.fzL,V.convL,Ar2,Option.some.injEq] at hj;subst hj;exact V.fz_rep hr hn hk hH ho c0 (h 0 _ v rfl hv)
  |succ j=>
   refine V.fzL_rep hr hn hk hH ho cs (vs.extract 1 vs.size) (by simp at hl ⊢;omega) (λj' c' v' hj' hv'=>h (j'+1) c' v' (by simpa[V.convL] using hj') ?_) j c v (by simpa[V.fzL,V.convL] using hj) ?_
   ·rw[At8] at hv';split at hv'
    ·rw[Auf];exact hv'
    ·cases hv'
   ·have hjv:j+1<vs.size:=(Asz.1 hv).1;rw[At8,if_pos (by omega),Auf];exact hv
end
end
theorem SRel.freeze {imps:List Nat}{nt:Nat}{w:World}{β:Nat->Loc}{H:Heap}{m:List Nat}{E:Env}{T:Heap}{B:Base}{D:List Nat}{a:Act}(h:SRel imps nt w β H m ⟨E,T,B,D⟩ a){k:Nat}{o:HObj}(hk:T[k]?=some (some o))(ho:frzOk o=true):
  ∃H',SRel imps nt w β H' m ⟨Env.fz k o E,T.set k none,B,D⟩ a∧Fr w β H w β H'∧ ∀(v:V) (u:Value),Rep w β H (v.conv m) u->Rep w β H' ((v.fz k o).conv m) u:=by
 obtain⟨r,hr,hH⟩:=h.at hk;have hset:=h.set (o':=none) (w':=w) hr (λo h=>by cases h) (λo' h1 h2=>by rw[hk] at h1;injection h1 with h1;injection h1 with h1;subst h1;subst h2;cases ho) (Fr.kill r) (h.hrel.kill r);have hrep: ∀(v:V) (u:Value),Rep w β H (v.conv m) u->Rep w β (H.set r none) ((v.fz k o).conv m) u:=λv u hv=>V.fz_rep h.hrel h.nodup hr hH ho v hv;refine⟨_,⟨hset.hrel,hset.size,λj=> ?_,hset.mlen,hset.nodup,hset.loc,hset.imp,hset.base,hset.fut,hset.own,λp hp=> ?_,hset.scT,hset.defs,hset.marks⟩,Fr.kill r,hrep⟩
 ·simp only[Anu];exact hrep _ _ (h.env j)
 ·obtain⟨q,h1,h2⟩:=Env.fz_mem hp;rw[h2];exact V.fz_sc _ (by simpa using h.scE q h1)
theorem Dl {c:Cx}{g:FuncId}{args:List V}{E:Env}{T:Heap}{K:V->St->Prop}(k:Nat){o:HObj}(hk:lget T k=some (some o))(ho:frzOk o=true)
  (h:lset T k none λT'=>CallThen c g (V.fzL k o args) (Env.fz k o E) T' K):CallThen c g args E T K:=by
 rw[Bz] at h;rw[Af] at hk;unfold CallThen at h ⊢;refine⟨h.1,λw β H m a vals cs hs hl hr=> ?_⟩;obtain⟨H',h1,h2,h3⟩:=hs.freeze hk ho;obtain⟨x,s',v,w',β',H'',m',fr,k1,k2,k3,k4⟩:=h.2 w β H' m a vals cs h1 (by rw[V.fzL_eq];simpa using hl) (λj x v hj hv=>by
  rw[V.fzL_eq,Arv,Asu] at hj;obtain⟨y,hj,rfl⟩:=hj;exact h3 y v (hr j y v hj hv))
 exact⟨x,s',v,w',β',H'',m',fr,k1,k2,h2.trans k3,k4⟩
def frzB:List Nat->V->Heap->(V->Heap->Prop)->Prop
 | [],x,T,K=>K x T
 |k::ks,x,T,K=>match lget T k with
  |some (some o)=>frzOk o=true∧lset T k none λT'=>frzB ks (x.fz k o) T' K
  |_=>False
theorem U0 {imps:List Nat}{nt:Nat}{w:World}{β:Nat->Loc}{m:List Nat}{B:Base}{D:List Nat}{a:Act}{u:Value}: ∀(ks:List Nat) (x:V) (T:Heap) (K:V->Heap->Prop) {H:Heap},frzB ks x T K->SRel imps nt w β H m ⟨[],T,B,D⟩ a->Rep w β H (x.conv m) u->
  ∃x' T' H',K x' T'∧SRel imps nt w β H' m ⟨[],T',B,D⟩ a∧Fr w β H w β H'∧Rep w β H' (x'.conv m) u
 | [],x,T,K,H,h,hs,hr=>⟨x,T,H,h,hs,Fr.refl _ _ _,hr⟩
 |k::ks,x,T,K,H,h,hs,hr=>by
  rw[frzB,Af] at h;split at h
  ·rename_i o ho;obtain⟨h0,h⟩:=h;rw[Bz] at h;obtain⟨H1,h1,h2,h3⟩:=hs.freeze ho h0;obtain⟨x',T',H',k1,k2,k3,k4⟩:=U0 ks _ _ K h h1 (h3 x u hr);exact⟨x',T',H',k1,k2,h2.trans k3,k4⟩
  ·exact h.elim
theorem Aob {P:Program}{f:FuncId}{T:Heap}{args:List V}{Q:V->Heap->Prop}(ks:List Nat)(h:Fun P f T args λx T'=>frzB ks x T' Q):Fun P f T args Q:=by
 unfold Fun at*;refine⟨h.1,λw β H m B vals cs hs hl hr=> ?_⟩;obtain⟨x,T',v,w',β',H',m',fr,hq,k1,k2,k3,k4⟩:=h.2 w β H m B vals cs hs hl hr;obtain⟨x',T1,H1,g1,g2,g3,g4⟩:=U0 ks _ _ _ hq k1 k3;exact⟨x',T1,v,w',β',H1,m',fr,g1,g2,k2.trans g3,g4,k4⟩
theorem Sj {P : Program} {f : FuncId} {fn : Func} {body : Code} {args : List V} {Q : V → Prop} (ks : List Nat) (n : Nat) (hf : P.funcs[f]? = some fn) (hn : (fn.name == "runtime.NumGoroutine") = false) (hb : fn.body = some body) (hnt : Nat.ble args.length fn.ntmps = true)
  (h: ∀B:Base,evp {P:=P,nt:=fn.ntmps,fn:=f,ro:=none,imps:=[],X:=XR P [] fn.results B λx T=>frzB ks x T λx T=>frz x T False λx' _=>x'.pureB=true∧Q x',B:=B,D:=[]} n [.code body] (env0 0 args) []):Pure P f args Q:=
 Gl (Aob ks (M2 hf hn hb hnt λimps B hi=>by
  have:imps=[]:=Ard.1 hi;subst this;exact Av _ _ _ _ _ (h B)))
inductive Rounds (P:Program)(kl:Nat):List (List V)->Heap->Heap->Bool->Prop
 |nil (T):Rounds P kl [] T T true
 |go {y ys T T1 T' b} (hl: ∃ob,T[kl]?=some (some ob)∧isLoop ob) (h:YieldOk P T kl y true T1) (k:Rounds P kl ys T1 T' b):Rounds P kl (y::ys) T T' b
 |stop {y ys T T1} (hl: ∃ob,T[kl]?=some (some ob)∧isLoop ob) (h:YieldOk P T kl y false T1):Rounds P kl (y::ys) T T1 false
theorem Rounds.cut {P:Program}{kl:Nat}{ys:List (List V)}: ∀ {xs:List (List V)} {T T':Heap} {b:Bool},Rounds P kl (xs++ys) T T' b->
  ∃T1 b1,Rounds P kl xs T T1 b1∧((b1=true∧Rounds P kl ys T1 T' b)∨(b1=false∧T'=T1∧b=false))
 | [],T,T',b,h=>⟨T,true,.nil T,.inl ⟨rfl,h⟩⟩
 |x::xs,T,T',b,h=>by
  cases h with
  |go hl h k=>
   obtain⟨T1,b1,h1,h2⟩:=Rounds.cut k;exact⟨T1,b1,.go hl h h1,h2⟩
  |stop hl h=>exact⟨_,false,.stop hl h,.inr ⟨rfl,rfl,rfl⟩⟩
def Iter (P:Program)(g:FuncId)(first cap:List V)(ys:List (List V)):Prop:=
 ∀(m:List Nat) (r kl:Nat) (T T':Heap) (b:Bool),Rounds P kl ys T T' b->m[kl]?=some r->FunB P g m T (first++ [.yld (.abs r)]++cap) (λ_ T''=>T''=T')
def rHeap (c:Cx)(E:Env)(ps:Array Tmp)(assign body:Code)(pre:Heap)(st:LoopState)(pe:Option Code):Heap:=
 pre++ [some .dfr]++ [some (.loop st pe c.fn E c.nt ps assign body)]
theorem G0 {c:Cx}{E:Env}{ps:Array Tmp}{assign body:Code}{pre:Heap}{st:LoopState}{pe:Option Code}:(rHeap c E ps assign body pre st pe).length=pre.length+2:=by simp[rHeap]
theorem I5 {c:Cx}{E:Env}{ps:Array Tmp}{assign body:Code}{pre:Heap}{st:LoopState}{pe:Option Code}{n:Nat}(h:pre.length=n):(rHeap c E ps assign body pre st pe)[n+1]?=some (some (.loop st pe c.fn E c.nt ps assign body)):=by
 subst h;unfold rHeap;rw[Arh (by simp)];simp
theorem Aiq {c:Cx}{E:Env}{ps:Array Tmp}{assign body:Code}{pre:Heap}{st:LoopState}{pe:Option Code}{n:Nat}(h:pre.length=n):(rHeap c E ps assign body pre st pe)[n]?=some (some .dfr):=by
 subst h;simp[rHeap]
theorem Air {c:Cx}{E:Env}{ps:Array Tmp}{assign body:Code}{pre:Heap}{st:LoopState}{pe:Option Code}{n:Nat}(h:n<pre.length):(rHeap c E ps assign body pre st pe)[n]?=pre[n]?:=by
 unfold rHeap;rw[Arz,Aq9 h]
theorem Km {c:Cx}{E:Env}{ps:Array Tmp}{assign body:Code}{pre:Heap}{st st':LoopState}{pe pe':Option Code}{n:Nat}(h:pre.length=n):
  (rHeap c E ps assign body pre st pe).set (n+1) (some (.loop st' pe' c.fn E c.nt ps assign body))=rHeap c E ps assign body pre st' pe':=by
 subst h;simp[rHeap]
theorem Of {c:Cx}{E:Env}{ps:Array Tmp}{assign body:Code}{st:LoopState}{pe:Option Code}: ∀ {pre:Heap},allLive pre=true->allLive (rHeap c E ps assign body pre st pe)=true
 | [],_=>rfl
 |none::_,h=>by cases h
 |some _::pre,h=>Of (pre:=pre) h
def roundX (c:Cx)(E:Env)(ps:Array Tmp)(assign body:Code)(imps:List Nat)(B:Base)(r l:Nat)(n:Nat)(pre':Heap)(jump:Option Code):Cx:=
 {P:=c.P,nt:=c.nt,fn:=c.fn,ro:=some (r,l),imps:=imps,B:=B,D:=[],
  X:=λe s=>s.D=[]∧s.B=B∧(match e,jump with
   | .normal,none=>True
   | .ret,some .ret=>True
   | .exit i,some (.exit j)=>i=j
   | .goto i,some (.goto j)=>i=j
   |_,_=>False)∧heapIs (n+2) s.T (rHeap c E ps assign body pre' .busy none)}
theorem Aee {c:Cx}{E:Env}{ps:Array Tmp}{assign body:Code}{pre pre':Heap}{y:List V}{jump:Option Code}(k:Nat){n:Nat}(hn:pre.length=n)(hn':pre'.length=n)(hps:ps.size=y.length)(hpl:ps.toList.all (Nat.blt · c.nt)=true)
  (hy:V.pureL y=true) (hlive:allLive pre'=true)
  (h: ∀(imps:List Nat) (B:Base) (r l:Nat),imps.length=n+2->imps[n+1]?=some r->evp (roundX c E ps assign body imps B r l n pre' jump) k [.code assign,.beginRound,.code body] (psEnv ps.toList y E) (rHeap c E ps assign body pre .ready none)):
  YieldOk c.P (rHeap c E ps assign body pre .ready none) (n+1) y jump.isNone (rHeap c E ps assign body pre' (if jump.isNone then .ready else .done) jump):=by
 refine Alz 0 (I5 hn) hps hpl hy (Of hlive) (by rw[G0,G0,hn,hn']) λimps B r l h1 h2=> ?_;rw[G0,hn] at h1;have g:=Av _ _ _ _ _ (h imps B r l h1 h2);have: ∀ {todo:List Item} {E0:Env} {T0:Heap},Goes (roundX c E ps assign body imps B r l n pre' jump) todo E0 T0->
   Goes {P:=c.P,nt:=c.nt,fn:=c.fn,ro:=some (r,l),imps:=imps,X:=XO (rHeap c E ps assign body pre .ready none).length (n+1) B jump.isNone (rHeap c E ps assign body pre' (if jump.isNone then .ready else .done) jump),B:=B,D:=[]} todo E0 T0:=by
  intro todo E0 T0 g;unfold Goes at g ⊢;intro w β H m a b cs hs hb hk hro;obtain⟨e,s',w',β',H',m',a',⟨x1,x2,x3,x4⟩,k1,k2,k3⟩:=g w β H m a b cs hs hb hk hro;refine⟨e,s',w',β',H',m',a',⟨x1,x2,rHeap c E ps assign body pre' .busy none,by rw[G0,G0,hn,hn'],by rw[G0,hn];exact x4,?_⟩,k1,k2,k3⟩;unfold roundEnd;rw[I5 hn'];cases e with
  |normal=>
   cases jump with
   |none=>simp[Km hn']
   |some _=>exact x3.elim
  |ret=>
   cases jump with
   |none=>exact x3.elim
   |some j=>cases j<;>first|exact x3.elim|simp[Km hn']
  |exit i=>
   cases jump with
   |none=>exact x3.elim
   |some j=>
    cases j<;>first|exact x3.elim|skip;have x3:i=_:=x3;subst x3;simp[Km hn']
  |goto i=>
   cases jump with
   |none=>exact x3.elim
   |some j=>
    cases j<;>first|exact x3.elim|skip;have x3:i=_:=x3;subst x3;simp[Km hn']
  |panic _=>cases jump<;>exact x3.elim
  |outgrown=>cases jump<;>exact x3.elim
 exact this g
def rfold {σ α:Type}(upd:σ->α->σ×Option Code):σ->List α->σ×Option Code
 |s,[]=>(s,none)
 |s,a::asg=>match upd s a with
  | (s',none)=>rfold upd s' asg
  | (s',some j)=>(s',some j)
theorem Sk {c:Cx}{E:Env}{ps:Array Tmp}{assign body:Code}{σ α:Type}{n:Nat}(k:Nat)(pre:σ->Heap)(upd:σ->α->σ×Option Code)(ev:α->List V)(I:σ->List α->Prop)(hlen: ∀s,(pre s).length=n)(hlive: ∀s,allLive (pre s)=true)
  (hps: ∀a,ps.size=(ev a).length) (hpl:ps.toList.all (Nat.blt · c.nt)=true) (hy: ∀a,V.pureL (ev a)=true)
  (step: ∀s a asg,I s (a::asg)->((upd s a).2=none->I (upd s a).1 asg)∧ ∀(imps:List Nat) (B:Base) (r l:Nat),imps.length=n+2->imps[n+1]?=some r->
   evp (roundX c E ps assign body imps B r l n (pre (upd s a).1) (upd s a).2) k [.code assign,.beginRound,.code body] (psEnv ps.toList (ev a) E) (rHeap c E ps assign body (pre s) .ready none)):
  ∀(asg:List α) (s:σ),I s asg->Rounds c.P (n+1) (asg.map ev) (rHeap c E ps assign body (pre s) .ready none)
   (rHeap c E ps assign body (pre (rfold upd s asg).1) (if(rfold upd s asg).2.isNone then .ready else .done) (rfold upd s asg).2) (rfold upd s asg).2.isNone
 | [],s,_=>.nil _
 |a::asg,s,hI=>by
  obtain⟨h1,h2⟩:=step s a asg hI;have hy:=Aee k (hlen s) (hlen _) (hps a) hpl (hy a) (hlive _) h2;rw[Asa,rfold];generalize hu:upd s a=u at h1 hy;obtain⟨s',j⟩:=u;cases j with
  |none=>exact .go ⟨_,I5 (hlen s),trivial⟩ hy (Sk k pre upd ev I hlen hlive hps hpl ‹_› step asg s' (h1 rfl))
  |some j=>exact .stop ⟨_,I5 (hlen s),trivial⟩ hy
theorem U1 {c:Cx}{f:Operand}{ps:Array Tmp}{assign body:Code}{k:List Item}{E:Env}{T:Heap}{g:FuncId}{first cap:List V}{σ α:Type}(n:Nat)(L:Nat)(pre:σ->Heap)(upd:σ->α->σ×Option Code)(ev:α->List V)(I:σ->List α->Prop)(s0:σ)(asg:List α)
  (hro:c.ro=none) (hf:opd E f=.fn (.func g) first cap) (hca:V.pureL (first++cap)=true) (hit:Iter c.P g first cap (asg.map ev)) (hpre:pre s0=T) (hlen: ∀s,(pre s).length=L) (hlive: ∀s,allLive (pre s)=true)
  (hps: ∀a,ps.size=(ev a).length) (hpl:ps.toList.all (Nat.blt · c.nt)=true) (hy: ∀a,V.pureL (ev a)=true) (hD: ∀s,∀k∈c.D,(pre s)[k]?=some (some .dfr)) (hI:I s0 asg)
  (step: ∀s a asg,I s (a::asg)->((upd s a).2=none->I (upd s a).1 asg)∧ ∀(imps:List Nat) (B:Base) (r l:Nat),imps.length=L+2->imps[L+1]?=some r->
   evp (roundX c E ps assign body imps B r l L (pre (upd s a).1) (upd s a).2) n [.code assign,.beginRound,.code body] (psEnv ps.toList (ev a) E) (rHeap c E ps assign body (pre s) .ready none))
  (K:evp {c with D:=L::c.D} n ((match(rfold upd s0 asg).2 with|some j=>[.code j]|none=>[])++k) E (rHeap c E ps assign body (pre (rfold upd s0 asg).1) .exhausted (rfold upd s0 asg).2)):
  Goes c (.code (.rangeFunc f ps assign body)::k) E T:=by
 have hTL:T.length=L:=by rw[←hpre];exact hlen s0
 refine Xm n hro hf ?_;rw[hTL];have hR:=Sk (c:=c) (E:=E) (assign:=assign) (body:=body) n pre upd ev I hlen hlive hps hpl hy step asg s0 hI;have hT:T++ [some HObj.dfr]++ [some (.loop .ready none c.fn E c.nt ps assign body)]=rHeap c E ps assign body (pre s0) .ready none:=by rw[hpre];rfl
 rw[hT];refine Aed (c:= {c with D:=L::c.D}) (Of (hlive s0)) (by rw[G0,hlen];omega) hca (λm r hr=>hit m r (L+1) _ _ _ hR hr) ?_;rintro x T' rfl _ _;refine⟨λq hq=> ?_,?_⟩
 ·rcases Arl.1 hq with rfl|hq
  ·exact Aiq (hlen _)
  ·have h1:=hD (rfold upd s0 asg).1 q hq;rw[Air (Ab h1)];exact h1
 ·unfold loopEnd;rw[Af,I5 (hlen _)];simp only;refine⟨by split<;>first|trivial| (rename_i h;split at h<;>cases h),?_⟩;rw[Bz,Km (hlen _)];exact K
theorem Yt {σ α:Type}(upd:σ->α->σ): ∀(asg:List α) (s:σ),rfold (λs a=>(upd s a,none)) s asg=(asg.foldl upd s,none)
 | [],s=>rfl
 |a::asg,s=>by rw[rfold];exact Yt upd asg (upd s a)
theorem Xn {c:Cx}{f:Operand}{ps:Array Tmp}{assign body:Code}{k:List Item}{E:Env}{T:Heap}{g:FuncId}{first cap:List V}{σ α:Type}(n:Nat)(L:Nat)(pre:σ->Heap)(upd:σ->α->σ)(ev:α->List V)(I:σ->List α->Prop)(s0:σ)(asg:List α)
  (hro:c.ro=none) (hf:opd E f=.fn (.func g) first cap) (hca:V.pureL (first++cap)=true) (hit:Iter c.P g first cap (asg.map ev)) (hpre:pre s0=T) (hlen: ∀s,(pre s).length=L) (hlive: ∀s,allLive (pre s)=true)
  (hps: ∀a,ps.size=(ev a).length) (hpl:ps.toList.all (Nat.blt · c.nt)=true) (hy: ∀a,V.pureL (ev a)=true) (hD: ∀s,∀k∈c.D,(pre s)[k]?=some (some .dfr)) (hI:I s0 asg)
  (step: ∀s a asg,I s (a::asg)->I (upd s a) asg∧ ∀(imps:List Nat) (B:Base) (r l:Nat),imps.length=L+2->imps[L+1]?=some r->
   evp (roundX c E ps assign body imps B r l L (pre (upd s a)) none) n [.code assign,.beginRound,.code body] (psEnv ps.toList (ev a) E) (rHeap c E ps assign body (pre s) .ready none))
  (K: ∀s,s=asg.foldl upd s0->evp {c with D:=L::c.D} n k E (rHeap c E ps assign body (pre s) .exhausted none)):
  Goes c (.code (.rangeFunc f ps assign body)::k) E T:=by
 refine U1 n L pre (λs a=>(upd s a,none)) ev I s0 asg hro hf hca hit hpre hlen hlive hps hpl hy hD hI (λs a asg h=>⟨λ_=>(step s a asg h).1,(step s a asg h).2⟩) ?_;rw[Yt];exact K _ rfl
def Wk (v v':V):Prop:= ∀(w:World) (β:Nat->Loc) (H:Heap) (u:Value),Rep w β H v u->Rep w β H v' u
theorem Wk.refl (v:V):Wk v v:=λ_ _ _ _ h=>h
theorem Wk.of_eq {v v':V}(h:v=v'):Wk v v':=h▸Wk.refl v
theorem Wk.nil (sz:Nat):Wk .nilsl (.sl sz []):=λw β H u h=>by
 cases h;exact .sl sz [] none 0 (λ_=>Go.undef) (Ara _) (Aq4 _) (by simp) (λhne=>absurd rfl hne) (λi x j c hi=>by simp at hi)
theorem Wk.ff:Wk .ff (.bool false):=λw β H u h=>by cases h;exact .bool false
theorem Wk.tt:Wk .tt (.bool true):=λw β H u h=>by cases h;exact .bool true
def WkL:List V->List V->Prop
 | [],[]=>True
 |x::xs,y::ys=>Wk x y∧WkL xs ys
 |_,_=>False
theorem WkL.len: ∀ {xs ys:List V},WkL xs ys->ys.length=xs.length
 | [],[],_=>rfl
 |_::xs,_::ys,h=>by simp[WkL.len h.2]
 | [],_::_,h=>h.elim
 |_::_,[],h=>h.elim
theorem WkL.get: ∀ {xs ys:List V},WkL xs ys-> ∀(j:Nat) (y:V),ys[j]?=some y-> ∃x,xs[j]?=some x∧Wk x y
 |x::xs,y::ys,h,0,z,hz=>by simp at hz;subst hz;exact⟨x,rfl,h.1⟩
 |x::xs,y::ys,h,j+1,z,hz=>by simpa using WkL.get h.2 j z (by simpa using hz)
 | [],[],_,j,z,hz=>by simp at hz
 | [],_::_,h,_,_,_=>h.elim
 |_::_,[],h,_,_,_=>h.elim
theorem Wk.agg {xs ys:List V}(h:WkL xs ys):Wk (.agg xs) (.agg ys):=λw β H u r=>by
 cases r with
 |agg _ vs hl hc=>
  refine .agg ys vs (h.len.trans hl) λj c v hj hv=> ?_;obtain⟨x,hx,hw⟩:=h.get j c hj;exact hw w β H v (hc j x v hx hv)
theorem Wk.tup {xs ys:List V}(h:WkL xs ys):Wk (.tup xs) (.tup ys):=λw β H u r=>by
 cases r with
 |tup _ vs hl hc=>
  refine .tup ys vs (h.len.trans hl) λj c v hj hv=> ?_;obtain⟨x,hx,hw⟩:=h.get j c hj;exact hw w β H v (hc j x v hx hv)
def WkE (sz:Nat):List V->List V->Prop
 | [],[]=>True
 |x::xs,y::ys=>(WkL x.cells y.cells∧okE sz y)∧WkE sz xs ys
 |_,_=>False
theorem WkE.len {sz:Nat}: ∀ {xs ys:List V},WkE sz xs ys->ys.length=xs.length
 | [],[],_=>rfl
 |_::xs,_::ys,h=>by simp[WkE.len h.2]
 | [],_::_,h=>h.elim
 |_::_,[],h=>h.elim
theorem WkE.get {sz:Nat}: ∀ {xs ys:List V},WkE sz xs ys-> ∀(j:Nat) (y:V),ys[j]?=some y-> ∃x,xs[j]?=some x∧WkL x.cells y.cells∧okE sz y
 |x::xs,y::ys,h,0,z,hz=>by simp at hz;subst hz;exact⟨x,rfl,h.1⟩
 |x::xs,y::ys,h,j+1,z,hz=>by simpa using WkE.get h.2 j z (by simpa using hz)
 | [],[],_,j,z,hz=>by simp at hz
 | [],_::_,h,_,_,_=>h.elim
 |_::_,[],h,_,_,_=>h.elim
theorem Wk.sl {sz:Nat}{xs ys:List V}(h:WkE sz xs ys):Wk (.sl sz xs) (.sl sz ys):=λw β H u r=>by
 generalize hn:V.sl sz xs=q at r;cases r with
 |sl sz' xs' a cap vals hcap hmax hsz ha hr=>
  injection hn with h1 h2
  subst h1 h2;have e:=h.len;rw[←e] at hcap ha ⊢;refine .sl sz ys a cap vals hcap hmax (λy hy=> ?_) (λhne=>ha (λhx=>hne (by rw[hx] at e;exact Ard.1 e))) (λi y j c hi hj=> ?_)
  ·obtain⟨j,hj,rfl⟩:=Ata.1 hy;obtain⟨x,_,_,h3⟩:=h.get j _ (Aq3 hj);exact h3
  ·obtain⟨x,hx,h2,_⟩:=h.get i y hi;obtain⟨z,hz,hw⟩:=h2.get j c hj;exact hw w β H _ (hr i x j z hx hz)
 |_=>cases hn
theorem Aj {P:Program}{f:FuncId}{args:List V}{Q:V->Prop}(h:Pure P f args λx=> ∃y,Wk x y∧y.pureB=true∧Q y):Pure P f args Q:=by
 unfold Pure Fun at*;refine⟨h.1,λw β H m B vals cs hs hl hr=> ?_⟩;obtain⟨x,T',v,w',β',H',m',fr,⟨h1,h2,y,h3,h4,h5⟩,k1,k2,k3,k4⟩:=h.2 w β H m B vals cs hs hl hr;rw[Ao _ _ h2] at k3;exact⟨y,T',v,w',β',H',m',fr,⟨h1,h4,h5⟩,k1,k2,by rw[Ao _ _ h4];exact h3 _ _ _ _ k3,k4⟩
theorem Pure.mono {P:Program}{f:FuncId}{args:List V}{Q Q':V->Prop}(h:Pure P f args Q)(hq: ∀x,Q x->Q' x):Pure P f args Q':=by
 unfold Pure at*;exact h.mono λx T ⟨h1,h2,h3⟩=>⟨h1,h2,hq x h3⟩
theorem Fx {P:Program}{f:FuncId}{args args':List V}{Q:V->Prop}(h:Pure P f args' Q)(hw:WkL args args')(hp:V.pureL args=true)(hp':V.pureL args'=true):Pure P f args Q:=by
 unfold Pure Fun at*;refine⟨h.1,λw β H m B vals cs hs hl hr=>h.2 w β H m B vals cs hs (hw.len.trans hl) λj x v hj hv=> ?_⟩;obtain⟨y,hy,hyx⟩:=hw.get j x hj;have h1:=hr j y v hy hv;rw[Ao _ _ (C3 _ hp y (Aq7 hy))] at h1;rw[Ao _ _ (C3 _ hp' x (Aq7 hj))];exact hyx _ _ _ _ h1
theorem C0 {c:Cx}{g:FuncId}{args:List V}{E:Env}{T:Heap}{K:V->St->Prop}(h:frzAll args T False λargs' T'=> ∃Q,Pure c.P g args' Q∧V.pureL args'=true∧ ∀x,Q x->K x ⟨E,T',c.B,c.D⟩):CallThen c g args E T K:=by
 rcases Dq (F:=False) _ _ _ h with h| ⟨args',T',⟨Q,hf,ha,hk⟩,hz⟩
 ·exact h.elim
 have hen:Enterable c.P g:=by
  unfold Pure Fun at hf;exact hf.1
 unfold CallThen;refine⟨hen,λw β H m a vals cs hs hl hr=> ?_⟩;obtain⟨H1,h1,h2,h3⟩:=hz.2 _ _ _ _ _ _ _ _ _ _ hs;obtain⟨x,v,w',β',H',fr,hq,hp,k1,k2,k3,k4⟩:=Ki hf ha h1 cs (by rw[hz.1];exact hl) (λj x v hj hv=>by
  have hjl:j<args.length:=by have:=Ab hj;rw[hz.1] at this;exact this
  have e:=Aq3 hjl;rw[Ao _ _ (C3 _ ha x (Aq7 hj))];exact h3 j _ x v e hj (hr j _ v e hv))
 exact⟨x,_,v,w',β',H',m,fr,hk x hq,k1,h2.trans k2,by rw[Ao _ _ hp];exact k3,k4.1,k4.2.1,k4.2.2,Ar6 _⟩
theorem Yu {c:Cx}{todo:List Item}{E:Env}{T:Heap}(s:List Nat)(h:Goes {c with stop:=s} todo E T):Goes c todo E T:=by
 unfold Goes at*;exact h
theorem Hd {c:Cx}{body:Code}{id:Nat}{k:List Item}{E:Env}{T:Heap}{ι κ:Type}(Inv:ι->Prop)(μ:ι->Nat)(Eo:ι->Env)(To:ι->Heap)(i0:ι)(Post:κ->Prop)(Ex:κ->Env)(Tx:κ->Heap)(n:Nat)(hD: ∀i,c.D.all (Nat.blt · (To i).length)=true)(hi: ∀i,Nat.ble c.imps.length (To i).length=true)
  (hDx: ∀i,c.D.all (Nat.blt · (Tx i).length)=true) (hix: ∀i,Nat.ble c.imps.length (Tx i).length=true)
  (h0:Inv i0∧envIs (To i0).length E (Eo i0)∧heapIs (To i0).length T (To i0)) (fin: ∀x,Post x->evp c n k (Ex x) (Tx x))
  (step: ∀i,Inv i->(∀j E T,Inv j∧μ j<μ i∧envIs (To j).length E (Eo j)∧heapIs (To j).length T (To j)->Goes {c with stop:=[id]} (.inLoop body::.inBlock id::k) E T)->
   (∀x kk E T,exitTo id kk=some k->Post x∧envIs (Tx x).length E (Ex x)∧heapIs (Tx x).length T (Tx x)->Goes {c with stop:=[id]} (.code (.exit id)::kk) E T)->
   evp {c with stop:=[id]} n (.code body::.inLoop body::.inBlock id::k) (Eo i) (To i)):Goes c (.code (.loop body)::.inBlock id::k) E T:=by
 refine Yu [id] (Ak (c:= {c with stop:=[id]}) Inv μ Eo To i0 n hD hi h0 λi hinv next=>step i hinv next λx kk E T hk ⟨hp,hE,hT⟩=> ?_);refine Bp (λb a cs w=>stepR_exit hk) ?_;refine Ft (c:= {c with stop:=[id]}) (Ex x) (Tx x) (hDx x) (Arp (hix x)) hE hT ?_;exact Yu (c:= {c with stop:=[id]}) c.stop (Av n _ _ _ _ (fin x hp))
section
variable {c:Cx} {E:Env} {T:Heap} {ops:Array Oper} {i:Nat} {rest:List Nat} {k:List Item} {o:Oper}
theorem Dr {op:Op}{u:V}{T':Heap}(n:Nat)(ho:lget ops.toList i=some o)(hg:o.guard=none)(hop:o.op=op)(hto:OpTo c op E T u T')(hnd: ∀cl,op≠ .defer cl)
  (h:putE c.nt o.dst u E False λE'=>evp c n (.inRegion ops rest::k) E' T'):Goes c (.inRegion ops (i::rest)::k) E T:=by
 rw[Af,Asm] at ho;subst hop;obtain⟨E',h,hd⟩:=(D8 h).resolve_left id;exact Ls ho (λ_ _ _ _ _ _=>J7 hg _) hto hnd hd (Av _ _ _ _ _ h)
theorem Lg {t t' e:TypeId}{x:Operand}{sz:Nat}{xs:List V}{y:Operand}(n:Nat)(ho:lget ops.toList i=some o)(hg:o.guard=none)(hop:o.op=.binOp .eql t x y t')(hx:opd E x=.sl sz xs)(hy:y=.const (.slice none 0 0))
  (ht:tyU c.P t=some (.slice e)) (h: ∀b:Bool,(b=true->xs=[])->putE c.nt o.dst (.bool b) E False λE'=>evp c n (.inRegion ops rest::k) E' T):Goes c (.inRegion ops (i::rest)::k) E T:=by
 have step: ∀(w:World) (β:Nat->Loc) (H:Heap) (m:List Nat) (a:Act),SRel c.imps c.nt w β H m ⟨E,T,c.B,c.D⟩ a-> ∃b:Bool,(b=true->xs=[])∧(execOp a.eval o).run c.P w=.ok (.value (.bool b)) w:=by
  intro w β H m a hs;have hr:=Ae hs x;simp only[hx,V.conv] at hr;generalize hq:a.eval x=q at hr;generalize hyy:V.sl sz xs=yy at hr;cases hr with
  |sl sz' xs' ad cap vals hcap hmax hok ha hc=>
   injection hyy with y1 y2
   subst y1 y2;subst hy;refine⟨ad.isNone,λhn=> ?_,?_⟩
   ·refine Classical.byContradiction λhne=> ?_;obtain⟨ad',rfl,_⟩:=ha hne;cases hn
   ·have e2:a.eval (.const (.slice none 0 0))=.slice none 0 0:=rfl;simp only[execOp,hop,hq,e2];have heq:(Op.equal t (.slice ad xs.length cap) (.slice none 0 0)).run c.P w=.ok ad.isNone w:=by
     unfold Op.equal Op.maxDepth Op.equalIn;cases ad<;>simp[Sem.run_bind,run_underlying (Al ht)]
    have hbin:(binOp .eql t (.slice ad xs.length cap) (.slice none 0 0)).run c.P w=.ok (.bool ad.isNone) w:=by
     unfold binOp;simp only[Sem.run_bind,heq];simp
    have hgd:(eqGuard .eql t x (.const (.slice none 0 0)) (.slice ad xs.length cap) (.slice none 0 0)).run c.P w=.ok () w:=by
     simp[eqGuard]
    simp only[Sem.run_bind,hgd,Result.andThen_ok,hbin];rfl
  |_=>cases hyy
 refine Bw λw β H m a b cs hs h1 h2 h3=> ?_;obtain⟨bb,hb1,hb2⟩:=step w β H m a hs;obtain⟨E',h,hd⟩:=(D8 (h bb hb1)).resolve_left id;rw[Af,Asm] at ho;have hfin:(b.atR a (.inRegion ops (i::rest)::k)).finish (.bool bb)=b.atR (a.put o.dst (.bool bb)) (.inRegion ops rest::k):=by
  rw[Frame.finish_atR];simp[ho]
 refine⟨w,β,H,m,a.put o.dst (.bool bb),.inRegion ops rest::k,⟨E',T,c.B,c.D⟩,.one ?_,hs.putTo (.bool bb) hd,Fr.refl _ _ _,Av _ _ _ _ _ h⟩;refine step_lone_go ?_;rw[stepGR_op ho (J7 hg _),Oper.semAt_eq _ _ _ (by intro cl;rw[hop];exact λh=>by cases h)];simp[stepG.apply,hb2,Sem.runT_eq,hfin]
end
section
variable {w:World} {β:Nat->Loc} {H:Heap}
theorem Fr.swap {r:Nat}{o o':HObj}(ho:H[r]?=some (some o))(he:Evo o o')(hns: ¬isSeal o:=by exact λh=>h):Fr w β H w β (H.set r (some o')):=by
 refine⟨⟨rfl,rfl,rfl,Ara _,by simp,?_,λ_ _ _=>rfl,?_,λ_ _=>rfl,λq s hs=>⟨?_,rfl⟩⟩,λ_ _ h=>h⟩
 ·intro q p _ hp
  rcases Ai hp with⟨h1,h2,_⟩| ⟨_,h2⟩
  ·injection h2 with h2
   subst h1 h2;exact⟨o,ho,he,λ_ _=>rfl⟩
  ·exact⟨p,h2,Evo.refl _,λ_ _=>rfl⟩
 ·rintro k ⟨q,M,⟨p,hl,hpn⟩,hb⟩
  rcases Ai hl with⟨h1,_,_⟩| ⟨_,h2⟩
  ·subst h1;exact .inr ⟨q,M,⟨o,ho,hns⟩,hb⟩
  ·exact .inr ⟨q,M,⟨p,h2,hpn⟩,hb⟩
 ·rcases Ai hs with⟨_,h2,_⟩| ⟨_,h2⟩
  ·injection h2 with h2
   subst h2;exact(hns (by cases o<;>first|exact he.elim|trivial)).elim
  ·exact h2
theorem HRel.swap (h:HRel w β H){r:Nat}{o o':HObj}(ho:H[r]?=some (some o))(he:Evo o o')(hn:ORel w β (H.set r (some o')) (β r) o')(hns: ¬isSeal o:=by exact λh=>h):HRel w β (H.set r (some o')):=by
 have go: ∀ {q:Nat},live (H.set r (some o')) q->live H q:=λ {q} hq=>by
  obtain⟨p,hp⟩:=hq
  rcases Ai hp with⟨h1,_,_⟩| ⟨_,h2⟩
  ·subst h1;exact⟨o,ho⟩
  ·exact⟨p,h2⟩
 refine h.step (Fr.swap ho he hns) ?_ (λq q' b M M' hl hl' hb hb'=>h.inj q q' b M M' (go hl) (go hl') hb hb');intro q p hp
 rcases Ai hp with⟨h1,h2,_⟩| ⟨_,h2⟩
 ·injection h2 with h2
  subst h1 h2;exact .inr hn
 ·exact .inl ⟨h2,rfl,λ_ _ _=>rfl⟩
end
def β0:Nat->Loc:=λ_=>.none
def tilesB (P:Program):List Field->Nat->Nat->Bool
 | [],o,N=>Nat.beq o N
 |f::fs,o,N=>Nat.beq f.offset o&&tilesB P fs (o+P.cellsOf f.type) N
def fieldsIn (G:List TypeId):List Field->Bool
 | []=>true
 |f::fs=>memN G f.type&&fieldsIn G fs
def goodT (P:Program)(G:List TypeId)(t:TypeId):Bool:=
 match tyU P t with
 |some .bool=>true
 |some (.int _)=>true
 |some .string=>true
 |some (.slice e)=>memN G e&&Nat.ble 1 (P.cellsOf e)
 |some (.struct fs)=>fieldsIn G fs.toList&&tilesB P fs.toList 0 (P.cellsOf t)
 |_=>false
def goodL (P:Program)(G:List TypeId):List TypeId->Bool
 | []=>true
 |t::ts=>goodT P G t&&goodL P G ts
def mkX (P:Program)(e:TypeId)(vs:List V):V:=
 match tyU P e with
 |some (.struct _)=>.agg vs
 |_=>match vs with
  | [c]=>c
  |vs=>.agg vs
def VTs (P:Program)(R:TypeId->List V->Prop):List Field->List V->Prop
 | [],vs=>vs=[]
 |f::fs,vs=>R f.type (vs.take (P.cellsOf f.type))∧VTs P R fs (vs.drop (P.cellsOf f.type))
def VT (P:Program):Nat->TypeId->List V->Prop
 |0,_,_=>False
 |n+1,t,vs=>match tyU P t with
  |some .bool=> ∃b,vs=[.bool b]
  |some (.int k)=> ∃i,vs=[.int k i]∧(Lit.int k i).wf=true
  |some .string=> ∃s:List UInt8,vs=[.str s]∧s.length≤maxLen
  |some (.slice e)=> ∃xs:List (List V),vs=[.sl (P.cellsOf e) (xs.map (mkX P e))]∧xs.length≤maxLen∧ ∀x∈xs,VT P n e x
  |some (.struct fs)=>VTs P (VT P n) fs.toList vs
  |_=>False
section
variable {H:Type} {enc:TypeId×Value->H} {P:Program} {w:World} {base:Nat} {spare:Nat->Bool} {held:Bool}
theorem notOwn0 (b:Nat){sz:Nat}:freeB β0 [] b sz:=Aik (λr o h=>by simp at h) b sz
theorem Yv {G:List TypeId}: ∀(ts:List TypeId),goodL P G ts=true-> ∀t∈ts,goodT P G t=true
 | [],_,t,h=>by cases h
 |x::ts,hg,t,h=>by
  simp only[goodL,Aq6] at hg
  rcases Arl.1 h with rfl|h
  ·exact hg.1
  ·exact Yv ts hg.2 t h
theorem Qa {e:TypeId}{vs:List V}(h1:onesB vs=true):(mkX P e vs).cells=vs:=by
 unfold mkX;split
 ·rfl
 ·split
  ·rename_i c;have:=(Ez _).1 h1 c (by simp);cases c<;>first|rfl|cases this
  ·rfl
theorem Yw {G:List TypeId}(hG:goodL P G G=true): ∀(fuel:Nat) (t:TypeId) (cs:List Value) (x:DataW H×List MemPlace),memN G t=true->DataW.trod enc P w base spare held fuel t cs=some x->
  ∃vs,RowRep w β0 [] vs cs∧onesB vs=true∧VT P fuel t vs:=by
 intro fuel
 induction fuel with
 |zero=>intro t cs x _ h;simp[DataW.trod] at h
 |succ n ih=>
  intro t cs x hm h;have hg:=Yv G hG t ((L4 _ _).1 hm);have one: ∀(c:V) (v:Value),c.one=true->cs=[v]->Rep w β0 [] c v->RowRep w β0 [] [c] cs∧onesB [c]=true:=λc v h1 h2 h3=>by
   subst h2;refine⟨⟨rfl,λk c' u hc hu=> ?_⟩,by simp[onesB,h1]⟩;cases k with
   |zero=>simp at hc hu;subst hc hu;exact h3
   |succ k=>simp at hc
  unfold goodT at hg;split at hg
  ·rename_i ht;obtain⟨b,rfl,_⟩:=DataW.trod_bool (Al ht) h;obtain⟨h1,h2⟩:=one (.bool b) _ rfl rfl (.bool b);exact⟨_,h1,h2,by rw[VT,ht];exact⟨b,rfl⟩⟩
  ·rename_i k ht;obtain⟨i,rfl,_,hw⟩:=DataW.trod_int (Al ht) h;obtain⟨h1,h2⟩:=one (.int k i) _ rfl rfl (.int k i);exact⟨_,h1,h2,by rw[VT,ht];exact⟨i,rfl,hw⟩⟩
  ·rename_i ht;obtain⟨s,rfl,_,hs⟩:=DataW.trod_string (Al ht) h;have hsl:s.data.toList.length≤maxLen:=by
    have e:s.size=s.data.toList.length:=by simp only[ByteArray.size,As4]
    rw[←e];exact hs
   have hr:Rep w β0 [] (.str s.data.toList) (.string s):=by
    have:=Rep.str (w:=w) (β:=β0) (H:=[]) s.data.toList hsl;simpa using this
   obtain⟨h1,h2⟩:=one (.str s.data.toList) _ rfl rfl hr;exact⟨_,h1,h2,by rw[VT,ht];exact⟨_,rfl,hsl⟩⟩
  ·rename_i e ht;simp only[Aq6] at hg;obtain⟨hme,hse⟩:=hg;have hse:1≤P.cellsOf e:=Arp hse
   rcases DataW.trod_slice (Al ht) h with⟨rfl,_⟩| ⟨a,len,cap,elems,rest,n',hn,rfl,_,_,hlc,hcm,hel,hget,_⟩
   ·have hr:Rep w β0 [] (.sl (P.cellsOf e) []) (.slice none 0 0):=.sl _ [] none 0 (λ_=>Go.undef) (Ara _) (Aq4 _) (by simp) (λhne=>absurd rfl hne) (λi x j c hi=>by simp at hi);obtain⟨h1,h2⟩:=one (.sl (P.cellsOf e) []) _ rfl rfl hr;exact⟨_,h1,h2,by rw[VT,ht];exact⟨[],rfl,Aq4 _,by simp⟩⟩
   ·injection hn with hn
    subst hn;have each: ∀i,i<len-> ∃ci vs,w.cells? base (a.add (i*P.cellsOf e)) (P.cellsOf e)=some ci∧RowRep w β0 [] vs ci∧onesB vs=true∧VT P n e vs:=λi hi=>by
     have hb:=hget i hi;rw[Aq3 (by omega),Option.bind_eq_some_iff] at hb;obtain⟨ci,hci,hti⟩:=hb;obtain⟨vs,q1,q2,q3⟩:=ih e ci _ hme hti;exact⟨ci,vs,hci,q1,q2,q3⟩
    obtain⟨ff,hff⟩: ∃ff:Nat->List Value×List V,∀i,i<len->w.cells? base (a.add (i*P.cellsOf e)) (P.cellsOf e)=some (ff i).1∧RowRep w β0 [] (ff i).2 (ff i).1∧onesB (ff i).2=true∧VT P n e (ff i).2:=by
     refine⟨λi=>if h:i<len then(Classical.choose (each i h),Classical.choose (Classical.choose_spec (each i h))) else([],[]),λi hi=> ?_⟩;simp only[hi,dif_pos];exact Classical.choose_spec (Classical.choose_spec (each i hi))
    obtain⟨xs,hxs⟩: ∃xs,xs=(List.range len).map λi=>(ff i).2:=⟨_,rfl⟩;have hxl:xs.length=len:=by rw[hxs];simp
    have hxg: ∀i x,(xs.map (mkX P e))[i]?=some x->i<len∧x=mkX P e (ff i).2:=λi x hx=>by
     have hi:i<len:=by have:=Ab hx;simpa[hxl] using this
     refine⟨hi,?_⟩;rw[hxs] at hx;simp[hi] at hx;exact hx.symm
    have hcell: ∀i j,i<len->j<P.cellsOf e->w.cell? (a.add (i*P.cellsOf e+j))=(ff i).1[j]?∧(ff i).1.length=P.cellsOf e:=λi j hi hj=>by
     obtain⟨q1,_⟩:=hff i hi;obtain⟨_,q3,q4⟩:=World.cells?_some q1;exact⟨by rw[←Js];exact q4 j hj,q3⟩
    have hok: ∀i,i<len->okE (P.cellsOf e) (mkX P e (ff i).2):=λi hi=>by
     obtain⟨q1,q2,q3,_⟩:=hff i hi;obtain⟨_,q4,_⟩:=World.cells?_some q1;refine⟨?_,?_⟩
     ·rw[Qa q3,q2.1,q4]
     ·rw[Qa q3];exact q3
    have hr:Rep w β0 [] (.sl (P.cellsOf e) (xs.map (mkX P e))) (.slice (some a) len cap):=by
     have hl:(xs.map (mkX P e)).length=len:=by simp[hxl]
     rw[←hl] at hlc ⊢;refine .sl _ _ _ cap (λj=>(w.cell? (a.add j)).getD Go.undef) hlc hcm (λx hx=> ?_) (λhne=> ?_) (λi x j c hi hj=> ?_)
     ·obtain⟨i,hi,rfl⟩:=Ata.1 hx;obtain⟨h1,h2⟩:=hxg i _ (Aq3 hi);rw[h2];exact hok i h1
     ·have h0:0<len:=by rw[←hl];exact Arw.2 hne
      obtain⟨q1,_⟩:=hff 0 h0;have hblk:=World.cells?_block q1 hse;refine⟨a,rfl,notOwn0 _,?_,λj hj=> ?_⟩
      ·have:(a.add (0*P.cellsOf e)).block=a.block:=by unfold Addr.add;split<;>rfl
       rwa [this] at hblk
      ·rw[hl] at hj;have hi:j / P.cellsOf e<len:=Nat.div_lt_of_lt_mul (by rw[Awg];exact hj);have hjm:j % P.cellsOf e<P.cellsOf e:=Nat.mod_lt _ hse;obtain⟨q2,q3⟩:=hcell (j / P.cellsOf e) (j % P.cellsOf e) hi hjm;have hj':j / P.cellsOf e*P.cellsOf e+j % P.cellsOf e=j:=by rw[Awg];exact Nat.div_add_mod _ _
       rw[hj'] at q2;rw[q2,Aq3 (by omega)];rfl
     ·obtain⟨hil,rfl⟩:=hxg i x hi;obtain⟨q1,q2,q3,_⟩:=hff i hil;rw[Qa q3] at hj;have hjl:j<P.cellsOf e:=by have:=Ab hj;rw[q2.1] at this;obtain⟨_,q4,_⟩:=World.cells?_some q1;omega
      obtain⟨q5,q6⟩:=hcell i j hil hjl;have q7:(ff i).1[j]?=some (ff i).1[j]:=Aq3 (by omega);simp only[q5,q7,Ath];exact q2.2 j c _ hj q7
    obtain⟨h1,h2⟩:=one _ _ rfl rfl hr;refine⟨_,h1,h2,?_⟩;rw[VT,ht];refine⟨xs,rfl,by rw[hxl];omega,λx hx=> ?_⟩;rw[hxs] at hx;obtain⟨i,hi,rfl⟩:=Ato.1 hx;exact(hff i (Avl.1 hi)).2.2.2
  ·rename_i fs ht;simp only[Aq6] at hg;obtain⟨hfi,htl⟩:=hg;obtain⟨xs,n',hn,_,hlen,hxl,hget⟩:=DataW.trod_struct (Al ht) h;injection hn with hn
   subst hn;have key: ∀(fs':List Field) (o:Nat),(∀f∈fs',∃y,DataW.trod enc P w base spare held n f.type ((cs.drop f.offset).take (P.cellsOf f.type))=some y)->fieldsIn G fs'=true->tilesB P fs' o (P.cellsOf t)=true->o≤cs.length->
     ∃vs,RowRep w β0 [] vs (cs.drop o)∧onesB vs=true∧VTs P (VT P n) fs' vs:=by
    intro fs'
    induction fs' with
    |nil=>
     intro o _ _ ht _;have ho:=Arn ht;refine⟨[],?_,rfl,rfl⟩;rw[Aro (by omega)];exact⟨rfl,λk c u h=>by simp at h⟩
    |cons f fs' ih2=>
     intro o hy hin htl ho;simp only[tilesB,Aq6] at htl;simp only[fieldsIn,Aq6] at hin;have hfo:=Arn htl.1;obtain⟨y,hy1⟩:=hy f Ari;obtain⟨v1,a1,a2,a3⟩:=ih f.type _ y hin.1 hy1;have hle:o+P.cellsOf f.type≤cs.length:=by
      have: ∀(l:List Field) (o:Nat),tilesB P l o (P.cellsOf t)=true->o≤P.cellsOf t:=by
       intro l
       induction l with
       |nil=>intro o h;have:=Arn h;omega
       |cons g l ih3=>
        intro o h;simp only[tilesB,Aq6] at h;have:=ih3 _ h.2;omega
      have:=this _ _ htl.2;omega
     obtain⟨v2,b1,b2,b3⟩:=ih2 (o+P.cellsOf f.type) (λg hg=>hy g (Are _ hg)) hin.2 htl.2 hle;rw[hfo] at a1;have hv1:v1.length=P.cellsOf f.type:=by rw[a1.1];simp;omega
     refine⟨v1++v2,?_,?_,?_⟩
     ·have:=a1.append b1;rwa [←Aud,Ar4] at this
     ·rw[Ez] at a2 b2 ⊢;intro c hc
      rcases Asi.1 hc with hc|hc
      ·exact a2 c hc
      ·exact b2 c hc
     ·rw[VTs];rw[←hv1];simp only[List.take_left',Av6];exact⟨a3,b3⟩
   obtain⟨vs,k1,k2,k3⟩:=key fs.toList 0 (λf hf=>by
    obtain⟨i,hi⟩:=Ar7 hf;have hil:=Ab hi;have:=hget i f (by simpa using hi);exact⟨_,by rw[this];exact Aq3 (by rw[hxl];simpa using hil)⟩) hfi htl (Aq4 _)
   refine⟨vs,by simpa using k1,k2,?_⟩;rw[VT,ht];exact k3
  ·cases hg
theorem Aat {f:FuncId}{args:List V}{vals:Array Value}{b:Bool}(h:Pure P f args λx=>x=.bool b)(hp:V.pureL args=true)(hl:args.length=vals.size)
  (hr: ∀(j:Nat) (x:V) (v:Value),args[j]?=some x->vals[j]?=some v->Rep w β0 [] x v):Calls P f vals w λe w'=>e=.returned (.bool b)∧RowKit.Below w.heap.size w w':=by
 intro cs;have hrel:HRel w β0 []:=⟨λr o h=>by simp at h,λr r' b N N' hl=>by obtain⟨o,h⟩:=hl;simp at h⟩;have hs:SRel [] 0 w β0 [] [] ⟨[],[],λ_=>none,[]⟩ bare:=by
  refine⟨hrel,rfl,λk=>by simp[lk,V.conv];exact .undef _,rfl,At5,by simp,rfl,λr h _=>by simp at h,λr _=>rfl,by simp,by simp,by simp,rfl,by simp⟩
 obtain⟨x,v,w',β',H',fr,hq,_,_,k2,k3,k4,k5,k6⟩:=Ki h hp hs cs hl (λj x v hj hv=>by
  rw[Ao _ _ (C3 _ hp x (Aq7 hj))];exact hr j x v hj hv)
 subst hq;have hv:v=.bool b:=Fi (m:=[]) k3;subst hv;exact⟨.returned (.bool b),w',fr,⟨rfl,k2.os,k2.tape,k2.output,k2.size,λq hq=>k2.keep q hq (notOwn0 q (sz:=0)).1⟩,k4,k5,k6⟩
end
def Ref.ren (ρ:List Nat):Ref->Ref
 | .loc k=>match ρ[k]? with
  |some j=>.loc j
  |none=>.bad
 | .abs n=>.abs n
 | .bad=>.bad
mutual
def V.ren (ρ:List Nat):V->V
 | .osl r g o l=>.osl (r.ren ρ) g o l
 | .ptr r o=>.ptr (r.ren ρ) o
 | .eptr r g i o=>.eptr (r.ren ρ) g i o
 | .agg cs=>.agg (V.renL ρ cs)
 | .tup vs=>.tup (V.renL ρ vs)
 | .fn f a c=>.fn f (V.renL ρ a) (V.renL ρ c)
 | .yld r=>.yld (r.ren ρ)
 | .iface t v=>.iface t (v.ren ρ)
 | .int k n=>.int k n
 | .bool b=>.bool b
 | .tt=>.tt
 | .ff=>.ff
 | .str s=>.str s
 | .sl s xs=>.sl s xs
 | .nilsl=>.nilsl
 | .iptr cs o=>.iptr cs o
 | .nilp=>.nilp
 | .nilf=>.nilf
 | .nili=>.nili
 | .nilmap=>.nilmap
 | .undef=>.undef
def V.renL (ρ:List Nat):List V->List V
 | []=>[]
 |v::vs=>v.ren ρ::V.renL ρ vs
end
theorem V.renL_eq (ρ:List Nat): ∀vs,V.renL ρ vs=vs.map (V.ren ρ)
 | []=>rfl
 |v::vs=>by rw[V.renL,V.renL_eq ρ vs];rfl
def HObj.ren (ρ:List Nat):HObj->HObj
 | .box cs=>.box (V.renL ρ cs)
 | .vec g sz xs=>.vec g sz xs
 | .loop st pe fn E nt ps asg bo=>.loop st pe fn (E.map λp=>(p.1,p.2.ren ρ)) nt ps asg bo
 | .dfr=>.dfr
 | .held s=>.held s
def Sub (ρ m m1:List Nat):Prop:=m1.length=ρ.length∧ ∀i k:Nat,ρ[i]?=some k-> ∃r:Nat,m[k]?=some r∧m1[i]?=some r
theorem Ref.ren_conv {ρ m m1:List Nat}(h:Sub ρ m m1): ∀r:Ref,r.sc ρ.length->(r.ren ρ).conv m=r.conv m1
 | .loc i,hi=>by
  have hi:i<ρ.length:=hi;have e:=Aq3 hi;obtain⟨r,h1,h2⟩:=h.2 i _ e;simp only[Ref.ren,e,Ref.conv,h1,h2]
 | .abs _,_=>rfl
 | .bad,_=>rfl
theorem Ref.ren_sc {ρ m m1:List Nat}(h:Sub ρ m m1): ∀r:Ref,r.sc ρ.length->(r.ren ρ).sc m.length
 | .loc i,hi=>by
  have hi:i<ρ.length:=hi;have e:=Aq3 hi;obtain⟨r,h1,h2⟩:=h.2 i _ e;simp only[Ref.ren,e];exact Ab h1
 | .abs _,_=>trivial
 | .bad,_=>trivial
mutual
theorem V.ren_conv {ρ m m1:List Nat}(h:Sub ρ m m1): ∀v:V,v.sc ρ.length->(v.ren ρ).conv m=v.conv m1
 | .osl r _ _ _,hs=>by simp only[V.ren,V.conv,r.ren_conv h hs]
 | .ptr r _,hs=>by simp only[V.ren,V.conv,r.ren_conv h hs]
 | .eptr r _ _ _,hs=>by simp only[V.ren,V.conv,r.ren_conv h hs]
 | .yld r,hs=>by simp only[V.ren,V.conv,r.ren_conv h hs]
 | .agg cs,hs=>by simp only[V.ren,V.conv,V.renL_conv h cs hs]
 | .tup cs,hs=>by simp only[V.ren,V.conv,V.renL_conv h cs hs]
 | .fn _ a c,hs=>by simp only[V.ren,V.conv,V.renL_conv h a hs.1,V.renL_conv h c hs.2]
 | .iface _ v,hs=>by simp only[V.ren,V.conv,v.ren_conv h hs]
 | .int ..,_| .bool _,_| .tt,_| .ff,_| .str _,_| .sl ..,_| .nilsl,_| .iptr ..,_| .nilp,_| .nilf,_| .nili,_| .nilmap,_| .undef,_=>rfl
theorem V.renL_conv {ρ m m1:List Nat}(h:Sub ρ m m1): ∀vs:List V,V.scL ρ.length vs->V.convL m (V.renL ρ vs)=V.convL m1 vs
 | [],_=>rfl
 |v::vs,hs=>by simp only[V.renL,V.convL,v.ren_conv h hs.1,V.renL_conv h vs hs.2]
end
mutual
theorem V.ren_sc {ρ m m1:List Nat}(h:Sub ρ m m1): ∀v:V,v.sc ρ.length->(v.ren ρ).sc m.length
 | .osl r _ _ _,hs| .ptr r _,hs| .eptr r _ _ _,hs| .yld r,hs=>r.ren_sc h hs
 | .agg cs,hs| .tup cs,hs=>V.renL_sc h cs hs
 | .fn _ a c,hs=>⟨V.renL_sc h a hs.1,V.renL_sc h c hs.2⟩
 | .iface _ v,hs=>v.ren_sc h hs
 | .int ..,_| .bool _,_| .tt,_| .ff,_| .str _,_| .sl ..,_| .nilsl,_| .iptr ..,_| .nilp,_| .nilf,_| .nili,_| .nilmap,_| .undef,_=>trivial
theorem V.renL_sc {ρ m m1:List Nat}(h:Sub ρ m m1): ∀vs:List V,V.scL ρ.length vs->V.scL m.length (V.renL ρ vs)
 | [],_=>trivial
 |v::vs,hs=>⟨v.ren_sc h hs.1,V.renL_sc h vs hs.2⟩
end
theorem HObj.ren_conv {ρ m m1:List Nat}(h:Sub ρ m m1): ∀o:HObj,o.sc ρ.length->(o.ren ρ).conv m=o.conv m1
 | .box cs,hs=>by simp only[HObj.ren,HObj.conv,V.renL_conv h cs hs]
 | .vec ..,_=>rfl
 | .dfr,_=>rfl
 | .held _,_=>rfl
 | .loop _ _ _ E _ _ _ _,hs=>by
  simp only[HObj.ren,HObj.conv,Env.conv,Avf,HObj.loop.injEq,true_and,and_true];exact Atj λp hp=>by simp only[Function.comp_apply];rw[V.ren_conv h p.2 (hs p hp)]
theorem HObj.ren_sc {ρ m m1:List Nat}(h:Sub ρ m m1): ∀o:HObj,o.sc ρ.length->(o.ren ρ).sc m.length
 | .box cs,hs=>V.renL_sc h cs hs
 | .vec ..,_=>trivial
 | .dfr,_=>trivial
 | .held _,_=>trivial
 | .loop _ _ _ E _ _ _ _,hs=>λp hp=>by
  obtain⟨q,hq,rfl⟩:=Ato.1 hp;exact V.ren_sc h q.2 (hs q hq)
def omap (ρ:List Nat)(o:Option HObj):Option HObj:=
 match o with
 |none=>none
 |some o=>some (o.ren ρ)
def setAll (ρ:List Nat):List Nat->Heap->Heap->Heap
 |k::ks,o::os,T=>setAll ρ ks os (T.set k (omap ρ o))
 |_,os,T=>T++os.map (omap ρ)
def setAllK (ρ:List Nat):List Nat->Heap->Heap->(Heap->Prop)->Prop
 |k::ks,o::os,T,K=>lset T k (omap ρ o) λT'=>setAllK ρ ks os T' K
 |_,os,T,K=>K (T++lmap (omap ρ) os)
theorem I6 (ρ:List Nat): ∀(ks:List Nat) (os T:Heap) (K:Heap->Prop),setAllK ρ ks os T K=K (setAll ρ ks os T)
 |k::ks,o::os,T,K=>by rw[setAllK,Bz,I6 ρ ks os];rfl
 | [],os,T,K=>by simp only[setAllK,setAll,Rt]
 |k::ks,[],T,K=>by simp only[setAllK,setAll,Rt]
theorem U2 (ρ:List Nat): ∀(ks:List Nat) (os T:Heap),ks.length≤os.length->(setAll ρ ks os T).length=T.length+ (os.length-ks.length)
 |k::ks,o::os,T,h=>by
  rw[setAll,U2 ρ ks os _ (by simpa using h)];simp
 | [],os,T,_=>by simp[setAll]
 |k::ks,[],T,h=>by simp at h
theorem I7 (ρ:List Nat){j:Nat}: ∀(ks:List Nat) (os T:Heap),j∉ks->j<T.length->(setAll ρ ks os T)[j]?=T[j]?
 |k::ks,o::os,T,h,hj=>by
  rw[setAll,I7 ρ ks os _ (λhm=>h (Are _ hm)) (by simpa using hj),Arj (λe:k=j=>by subst e;exact h Ari)]
 | [],os,T,_,hj=>by simp only[setAll];rw[Aq9 hj]
 |k::ks,[],T,_,hj=>by simp only[setAll];rw[Aq9 hj]
theorem Yx (ρ:List Nat): ∀(ks:List Nat) (os T:Heap),ks.Nodup->(∀k∈ks,k<T.length)->ks.length≤os.length-> ∀(i k:Nat),ks[i]?=some k->(setAll ρ ks os T)[k]?=os[i]?.map (omap ρ)
 |k0::ks,o::os,T,hn,hl,hle,i,k,hk=>by
  obtain⟨h1,h2⟩:=Atd.1 hn;have hk0:=hl k0 Ari;rw[setAll];cases i with
  |zero=>
   simp only[Ar2,Option.some.injEq] at hk;subst hk;rw[I7 ρ ks os _ h1 (by simpa using hk0)];simp[hk0]
  |succ i=>
   simp only[Asx] at hk ⊢;exact Yx ρ ks os _ h2 (λk hk=>by simpa using hl k (Are _ hk)) (by simpa using hle) i k hk
 | [],os,T,_,_,_,i,k,hk=>by simp at hk
 |k0::ks,[],T,_,_,hle,i,k,hk=>by simp at hle
theorem U3 (ρ:List Nat): ∀(ks:List Nat) (os T:Heap),ks.length≤os.length-> ∀j,(setAll ρ ks os T)[T.length+j]?=os[ks.length+j]?.map (omap ρ)
 |k0::ks,o::os,T,hle,j=>by
  rw[setAll];have:=U3 ρ ks os (T.set k0 (omap ρ o)) (by simpa using hle) j;simp only[Atp] at this;rw[this,Aq8,show ks.length+1+j=(ks.length+j)+1 by omega,Asx]
 | [],os,T,_,j=>by
  simp only[setAll];rw[Arh (by omega)];simp
 |k0::ks,[],T,hle,j=>by simp at hle
def subB:List Nat->Nat->Bool
 | [],_=>true
 |k::ks,n=>Nat.blt k n&&subB ks n
theorem Abg: ∀(ks:List Nat) (n:Nat),subB ks n=true-> ∀k∈ks,k<n
 | [],_,_,k,h=>by cases h
 |x::ks,n,hs,k,h=>by
  simp only[subB,Aq6] at hs
  rcases Arl.1 h with rfl|h
  ·exact Arp hs.1
  ·exact Abg ks n hs.2 k h
def objsAre (ks:List Nat)(T:Heap):List Nat->Heap->Prop
 | [],[]=>True
 |k::l,some o::os=>(lget T k=some (some (o.ren ks))∧o.scB ks.length=true)∧objsAre ks T l os
 |_,_=>False
theorem Sl {ks0:List Nat}{T:Heap}: ∀ {l:List Nat} {os:Heap},objsAre ks0 T l os->l.length=os.length∧ ∀(i k:Nat),l[i]?=some k-> ∃o,os[i]?=some (some o)∧T[k]?=some (some (o.ren ks0))∧o.sc ks0.length
 | [],[],_=>⟨rfl,λi k h=>by simp at h⟩
 |k0::l,some o::os,h=>by
  obtain⟨h1,h2⟩:=Sl h.2;refine⟨by simp[h1],λi k hk=> ?_⟩;cases i with
  |zero=>
   simp only[Ar2,Option.some.injEq] at hk;subst hk;exact⟨o,rfl,by rw[←Af];exact h.1.1,HObj.scB_sc o h.1.2⟩
  |succ i=>simpa using h2 i k (by simpa using hk)
 | [],_::_,h=>h.elim
 |_::_,[],h=>h.elim
 |_::_,none::_,h=>h.elim
def rangeFrom:Nat->Nat->List Nat
 |_,0=>[]
 |n,k+1=>n::rangeFrom (n+1) k
theorem Es: ∀(k n:Nat),(rangeFrom n k).length=k
 |0,_=>rfl
 |k+1,n=>by simp[rangeFrom,Es k]
theorem Ia: ∀(k n i:Nat),i<k->(rangeFrom n k)[i]?=some (n+i)
 |k+1,n,0,_=>rfl
 |k+1,n,i+1,h=>by
  rw[rangeFrom,Asx,Ia k (n+1) i (by omega)]
  congr 1
  omega
def subρ (ks:List Nat)(n:Nat)(T1:Heap):List Nat:=ks++rangeFrom n (lcount T1 0-lcount ks 0)
theorem Ag {c:Cx}{g:FuncId}{args args':List V}{E:Env}{T T1:Heap}{K:V->St->Prop}{Q:V->Heap->Prop}(ks:List Nat)(hf:Fun c.P g T1 args' Q)(hnd:nodupB ks=true)(hlt:subB ks T.length=true)(ho:objsAre ks T ks T1)(ha:args=V.renL ks args')(hsc:V.scBL ks.length args'=true)
  (hD:c.D.all (λk=> !memN ks k)=true)
  (h: ∀x T1',Q x T1'->allLive (ldrop T1' ks.length)=true∧setAllK (subρ ks T.length T1') ks T1' T λT2=>K (x.ren (subρ ks T.length T1')) ⟨E,T2,c.B,c.D⟩):CallThen c g args E T K:=by
 have hen:Enterable c.P g:=by unfold Fun at hf;exact hf.1
 unfold CallThen;unfold Fun at hf;refine⟨hen,λw β H m a vals cs hs hl hr=> ?_⟩;have hml:m.length=T.length:=hs.mlen;have hnd':=N9 _ hnd;have hlt':=Abg _ _ hlt;obtain⟨hol,hoo⟩:=Sl ho;obtain⟨m1,hm1⟩: ∃m1,m1=ks.map λk=>(m[k]?).getD 0:=⟨_,rfl⟩;have hsub:Sub ks m m1:=by
  refine⟨by rw[hm1];simp,λi k hk=> ?_⟩;have hkm:k<m.length:=by rw[hml];exact hlt' k (Aq7 hk)
  have e:=Aq3 hkm;exact⟨m[k],e,by rw[hm1,Arv,hk];simp[e]⟩
 have hm1l:m1.length=T1.length:=by rw[hsub.1];exact hol
 have hm1nd:m1.Nodup:=by
  rw[hm1];refine List.Pairwise.map _ (λx y h=> ?_) (List.Pairwise.and_mem.1 hnd');obtain⟨hx,hy,hne⟩:=h;have hxm:x<m.length:=by rw[hml];exact hlt' x hx
  have hym:y<m.length:=by rw[hml];exact hlt' y hy
  intro e;simp only[Aq3 hxm,Aq3 hym,Ath] at e;exact hne (hs.inj (Aq3 hxm) (by rw[e];exact Aq3 hym))
 have hmem: ∀r,r∈m1-> ∃i k,ks[i]?=some k∧m[k]?=some r∧m1[i]?=some r:=λr hr=>by
  obtain⟨i,hi⟩:=Ar7 hr;have hil:i<ks.length:=by have:=Ab hi;rw[hsub.1] at this;exact this
  obtain⟨r',h1,h2⟩:=hsub.2 i _ (Aq3 hil);rw[hi] at h2;injection h2 with h2
  subst h2;exact⟨i,_,Aq3 hil,h1,hi⟩
 have hargsc:=(V.scL_iff _ _).1 (V.scBL_sc _ hsc);have hs1:SRel m1 0 w β H m1 ⟨[],T1,λr=>(H[r]?).getD none,[]⟩ bare:=by
  refine⟨hs.hrel,rfl,λk=>by simp[lk,V.conv];exact .undef _,hm1l,hm1nd,λi r o hi hoi=> ?_,by simp,λr hr hn=>by simp[hr],λr hr=>by simp[Asq hr],λk r hk hm=>by have:=Ab hm;omega,by simp,λi o hoi=> ?_,rfl,by simp⟩
  ·have hil:i<ks.length:=by have:=Ab hi;rw[hsub.1] at this;exact this
   have hk:=Aq3 hil;obtain⟨r',h1,h2⟩:=hsub.2 i _ hk;rw[hi] at h2;injection h2 with h2
   subst h2;obtain⟨o',e1,e2,e3⟩:=hoo i _ hk;simp only at hoi;rw[e1] at hoi;injection hoi with hoi
   subst hoi;rw[hs.loc _ r _ h1 e2];simp only[Atq];rw[HObj.ren_conv hsub o' e3]
  ·have hil:i<ks.length:=by have:=Ab hoi;simp only at this;omega
   obtain⟨o',e1,e2,e3⟩:=hoo i _ (Aq3 hil);simp only at hoi ⊢;rw[e1] at hoi;injection hoi with hoi
   injection hoi with hoi
   subst hoi;rw[←hol];exact e3
 obtain⟨x,T1',v,w',β',H',m1',fr,hq,k1,k2,k3,k4,k5,k6⟩:=hf.2 w β H m1 _ vals cs hs1 (by rw[←hl,ha,V.renL_eq];simp) (λj y u hj hu=>by
  have:=hr j (y.ren ks) u (by rw[ha,V.renL_eq,Arv,hj];rfl) hu;rwa [V.ren_conv hsub y (hargsc y (Aq7 hj))] at this)
 obtain⟨hlive,h⟩:=h x T1' hq;rw[I6] at h;rw[Og] at hlive;obtain⟨ρ,hρ⟩: ∃ρ,ρ=subρ ks T.length T1':=⟨_,rfl⟩;rw[←hρ] at h;have hpre:m1=m1'.take m1.length:=by have:=k1.imp;rw[this]
 obtain⟨new,hnew⟩: ∃new,m1'=m1++new:=⟨m1'.drop m1.length,by conv=>lhs;rw[←Ar4 m1.length m1',←hpre]⟩;have hm1'l:m1'.length=T1'.length:=k1.mlen;have hks':ks.length≤T1'.length:=by rw[hnew] at hm1'l;simp at hm1'l;have:=hsub.1;omega
 have hnl:new.length=T1'.length-ks.length:=by rw[hnew] at hm1'l;simp at hm1'l;have:=hsub.1;omega
 have hnget: ∀j r,new[j]?=some r->m1'[ks.length+j]?=some r:=λj r hj=>by
  rw[hnew,Arh (by rw[hsub.1];omega),hsub.1,Auj];exact hj
 have hlen:H.length≤H'.length:=k2.len;have hfresh: ∀r,r∈new->H.length≤r:=λr hr=>by
  obtain⟨j,hj⟩:=Ar7 hr;have hm:=hnget j r hj;have hjl:ks.length+j<T1'.length:=by have:=Ab hm;omega
  have hT:=Aq3 hjl;obtain⟨o,ho⟩:=J9 hlive j _ (by rw[As8];exact hT);rw[ho] at hT;have hH':=k1.loc _ r _ hm hT;have hz:=k1.own (ks.length+j) r (by rw[hsub.1];omega) hm;simp only at hz
  rcases Ar3 r H.length with h1|h1
  ·obtain⟨o1,e1,_⟩:=k2.evo r _ h1 hH';rw[e1] at hz;cases hz
  ·exact h1
 have hρe:ρ=ks++rangeFrom T.length new.length:=by rw[hρ];unfold subρ;rw[C5,C5,hnl];simp
 have hρl:ρ.length=T1'.length:=by rw[hρe];simp[Es];omega
 obtain⟨m',hm'⟩: ∃m',m'=m++new:=⟨_,rfl⟩;have hm'l:m'.length=T.length+new.length:=by rw[hm'];simp[hml]
 have hsub':Sub ρ m' m1':=by
  refine⟨by rw[hm1'l,hρl],λi k hk=> ?_⟩;rw[hρe] at hk
  rcases Ar3 i ks.length with h1|h1
  ·rw[Aq9 h1] at hk;obtain⟨r,e1,e2⟩:=hsub.2 i k hk;exact⟨r,by rw[hm',Aq9 (Ab e1)];exact e1,by rw[hnew,Aq9 (Ab e2)];exact e2⟩
  ·rw[Arh h1] at hk;have hi:=Ab hk;rw[Es] at hi;rw[Ia _ _ _ hi] at hk;injection hk with hk
   subst hk;refine⟨new[i-ks.length],by rw[hm',Arh (by omega),hml,Auj];exact Aq3 hi,?_⟩;rw[hnew,Arh (by rw[hsub.1];exact h1),hsub.1];exact Aq3 hi
 have hext: ∀u:V,u.sc m.length->u.conv m'=u.conv m:=λu hu=>by rw[hm'];exact V.conv_ext (Ara _) u hu
 have hin: ∀r,r∈m1'->r∈m1∨r∈new:=λr hr=>by rw[hnew] at hr;exact Asi.1 hr
 have hold: ∀r,r<H.length->r∉m1->H'[r]?=H[r]?:=λr hr hn=>by
  have hn':r∉m1':=λhm=>by
   rcases hin r hm with h1|h1
   ·exact hn h1
   ·have:=hfresh r h1;omega
  rw[k1.base r (Asl hr hlen) hn'];simp[hr]
 have hscT1: ∀(i:Nat) (o:HObj),T1'[i]?=some (some o)->o.sc ρ.length:=λi o ho=>by rw[hρl];exact k1.scT i o ho
 have hT2l:(setAll ρ ks T1' T).length=T.length+new.length:=by rw[U2 _ _ _ _ hks',hnl]
 have hobj: ∀(i k r:Nat) (o:Option HObj),ρ[i]?=some k->m'[k]?=some r->T1'[i]?=some o->H'[r]?=some ((omap ρ o).map (HObj.conv m')):=λi k r o hi hk ho=>by
  obtain⟨r',e1,e2⟩:=hsub'.2 i k hi;rw[hk] at e1;injection e1 with e1
  subst e1;rw[k1.loc i r o e2 ho];cases o with
  |none=>rfl
  |some o=>simp only[omap,Atq];rw[HObj.ren_conv hsub' o (hscT1 i o ho)]
 have hcase: ∀k,k<T.length+new.length->(∃i,ρ[i]?=some k∧(setAll ρ ks T1' T)[k]?=T1'[i]?.map (omap ρ))∨(k<T.length∧k∉ks∧(setAll ρ ks T1' T)[k]?=T[k]?):=λk hk=>by
  rcases Ar3 k T.length with h1|h1
  ·by_cases hm:k∈ks
   ·obtain⟨i,hi⟩:=Ar7 hm;exact .inl ⟨i,by rw[hρe,Aq9 (Ab hi)];exact hi,Yx ρ ks T1' T hnd' hlt' hks' i k hi⟩
   ·exact .inr ⟨h1,hm,I7 ρ ks T1' T hm h1⟩
  ·refine .inl ⟨ks.length+ (k-T.length),?_,?_⟩
   ·rw[hρe,Arh (by omega),Auj,Ia _ _ _ (by omega)]
    congr 1
    omega
   ·have:=U3 ρ ks T1' T hks' (k-T.length);rwa [At4 h1] at this
 refine⟨_,_,v,w',β',H',m',fr,h,?_,k2,by rw[V.ren_conv hsub' x (by rw[hρl,←hm1'l];exact De x k3)];exact k3,k4,k5,k6,by rw[hm'];exact Atl _ _⟩;refine⟨k1.hrel,hs.size,λk=> ?_,by rw[hm'l,hT2l],?_,λk r o hk ho'=> ?_,?_,λr hr hn=> ?_,λr hr=>hs.fut r (Ark hlen hr),λk r hk hm=> ?_,λp hp=> ?_,λk o ho'=> ?_,hs.defs,?_⟩
 ·simp only;rw[hext _ (by have:=U4 E k hs.scE;rwa [hml])];exact(hs.env k).mono k2
 ·rw[hm'];refine As7.2 ⟨hs.nodup,?_,λa ha b hb e=> ?_⟩
  ·have:=k1.nodup;rw[hnew] at this;exact(As7.1 this).2.1
  ·subst e;obtain⟨j,hj⟩:=Ar7 ha;have:=hs.lt hj;have:=hfresh _ hb;omega
 ·have hkl:k<T.length+new.length:=by have:=Ab hk;omega
  simp only at ho'
  rcases hcase k hkl with⟨i,e1,e2⟩| ⟨e1,e2,e3⟩
  ·rw[e2] at ho';rw[Asu] at ho';obtain⟨o1,e4,e5⟩:=ho';subst e5;exact hobj i k r o1 e1 hk e4
  ·rw[e3] at ho';have hkm:m[k]?=some r:=by rw[hm',Aq9 (by omega)] at hk;exact hk
   have hrn:r∉m1:=λhm=>by
    obtain⟨i,k2',q1,q2,_⟩:=hmem r hm;have:=hs.inj q2 hkm;subst this;exact e2 (Aq7 q1)
   rw[hold r (hs.lt hkm) hrn,hs.loc k r o hkm ho'];cases o with
   |none=>rfl
   |some o=>
    simp only[Atq,Option.some.injEq];have:=hs.scT k o ho';rw[hm'];exact(HObj.conv_ext (Ara _) o (by rw[hml];exact this)).symm
 ·have:=hs.imp;rw[hm',As9]
  ·exact this
  ·have:=congrArg List.length this;simp at this;omega
 ·simp only;have hrm:r∉m:=λhm=>hn (by rw[hm'];exact Ar0 _ hm);have hrnew:r∉new:=λhm=>hn (by rw[hm'];exact Art _ hm);have hr1:r∉m1:=λhm=>by
   obtain⟨i,k2',q1,q2,_⟩:=hmem r hm;exact hrm (Aq7 q2)
  have hr1':r∉m1':=λhm=>by rcases hin r hm with h1|h1;exact hr1 h1;exact hrnew h1
  rw[k1.base r hr hr1'];simp only
  rcases Ar3 r H.length with h1|h1
  ·rw[hs.base r h1 hrm];rfl
  ·have e0:c.B r=none:=hs.fut r h1;rw[e0,Asq h1];rfl
 ·rcases Ar3 k m.length with h1|h1
  ·rw[hm',Aq9 h1] at hm;exact hs.own k r hk hm
  ·rw[hm',Arh h1] at hm;exact hs.fut r (hfresh r (Aq7 hm))
 ·simp only;rw[hT2l];exact V.sc_mono (Nat.le_add_right _ _) _ (hs.scE p hp)
 ·have hkl:k<T.length+new.length:=by have:=Ab ho';simp only at this;omega
  simp only at ho' ⊢;rw[hT2l]
  rcases hcase k hkl with⟨i,e1,e2⟩| ⟨e1,e2,e3⟩
  ·rw[e2,Asu] at ho';obtain⟨o1,e4,e5⟩:=ho';cases o1 with
   |none=>cases e5
   |some o1=>
    simp only[omap,Option.some.injEq] at e5;subst e5;rw[←hm'l];exact HObj.ren_sc hsub' o1 (hscT1 i o1 e4)
  ·rw[e3] at ho';exact HObj.sc_mono (Nat.le_add_right _ _) _ (hs.scT k o ho')
 ·intro j k hj;obtain⟨r',b,N,e1,e2,e3,e4⟩:=hs.marks j k hj;have hkm:k<T.length:=by have:=Ab e1;omega
  have hkn:k∉ks:=λhm=>by
   have:=Ati.1 hD k (Aq7 hj);rw[(L4 _ _).2 hm] at this;cases this
  have hr1:r'∉m1:=λhm=>by
   obtain⟨i,k2',q1,q2,_⟩:=hmem r' hm;have:=hs.inj q2 e1;subst this;exact hkn (Aq7 q1)
  have hH0:=hs.loc k r' _ e1 e2;refine⟨r',b,N,by rw[hm',Aq9 (Ab e1)];exact e1,by simp only;rw[I7 ρ ks T1' T hkn hkm];exact e2,?_,e4⟩;exact P9 k2 (by simpa[HObj.conv] using hH0) e3 (by rw[hold r' (hs.lt e1) hr1,hH0];rfl)
theorem Ay {P : Program} {f : FuncId} {fn : Func} {body : Code} {T : Heap} {args : List V} {Q : V → Heap → Prop} (n : Nat) (hf : P.funcs[f]? = some fn) (hn : (fn.name == "runtime.NumGoroutine") = false) (hb : fn.body = some body) (hnt : Nat.ble args.length fn.ntmps = true)
  (h: ∀(imps:List Nat) (B:Base),imps.length=T.length->evp {P:=P,nt:=fn.ntmps,fn:=f,ro:=none,imps:=imps,X:=XR P imps fn.results B Q,B:=B,D:=[]} n [.code body] (env0 0 args) T):Fun P f T args Q:=
 M2 hf hn hb hnt λimps B hi=>Av _ _ _ _ _ (h imps B hi)
def keepK (n:Nat)(x:V)(T:Heap)(Q:V->Heap->Prop):Prop:= ∃T1,T1.length=n∧x.scB n=true∧heapIs n T T1∧Q x T1
theorem A9 {P:Program}{f:FuncId}{T:Heap}{args:List V}{Q:V->Heap->Prop}(n:Nat)(hn:Nat.ble T.length n=true)(h:Fun P f T args λx T'=>keepK n x T' Q):Fun P f T args Q:=by
 unfold Fun at*;refine⟨h.1,λw β H m B vals cs hs hl hr=> ?_⟩;obtain⟨x,T',v,w',β',H',m',fr,⟨T1,q1,q2,q3,q4⟩,k1,k2,k3,k4⟩:=h.2 w β H m B vals cs hs hl hr;subst q1;obtain⟨T'',rfl,hsc⟩:=Kh q3;have hml:m.length=T.length:=hs.mlen;obtain⟨m2,H2,e1,e2,e3⟩:=SRel.dropTo T'' k1 (by rw[hml];exact Arp hn) (by simp) hsc (by simp);refine⟨x,T1,v,w',β',H2,m2,fr,q4,e1,k2.trans e2,?_,k4⟩;have hx:=V.scB_sc x q2;have:x.conv m2=x.conv m':=by
  rw[e3];have hle:T1.length≤(m'.take T1.length).length:=by
   have:=k1.mlen;simp at this ⊢;omega
  conv=>rhs;rw[←Ar4 T1.length m']
  exact(V.conv_ext hle x hx).symm
 rw[this];exact k3.mono e2
theorem Tq {P:Program}{w:World}{t t' e:TypeId}{i:TypeInfo}{z:Value}{kd kk:IntKind}(n:Nat)(ht:P.underlying t=some (.slice e))(ht':P.underlying t'=some (.int kd))(hi:P.info? e=some i)(hz:i.zero=some z)(ty:TypeId)
  (_hzs:z.cells.size=i.size) (hsz:0<i.size) (h1:1≤n) (h63:n≤9223372036854775807) (hb:n*i.bytes≤281474976710656) (hfit:Builtin.nextslicecap n 0*i.bytes≤281474976710656):
  (Builtin.append_ #[t,t'] ty #[.slice none 0 0,.int kk n]).run P w=
   .ok (.slice (some ⟨w.heap.size,0,none⟩) n (grownCap w n 0 e)) (w.drew.alloc (.cells (Builtin.zeroCells z.cells n++Builtin.zeroCells z.cells (grownCap w n 0 e-n)) e)):=by
 have hn: ¬ (n≤0):=by omega
 have hn0: ¬n=0:=by omega
 have hs0: ¬i.size=0:=by omega
 have e1:IntKind.i64.max=9223372036854775807:=by decide
 have hw:IntKind.i64.wrap (n:Int)=n:=by
  rw[IntKind.wrap_i64];omega
 have h48: ¬ (281474976710656<Builtin.nextslicecap n 0*i.bytes):=by omega
 have hb': ¬ (281474976710656< (n:Int)* (i.bytes:Int)):=by
  have h:((n*i.bytes:Nat):Int)≤281474976710656:=by omega
  rw[Int.natCast_mul] at h;omega
 have h63': ¬ ((9223372036854775807:Int)< (n:Int)):=by omega
 have hneg: ¬ ((n:Int)<0):=by omega
 simp[Builtin.append_,run_underlying ht,run_underlying ht',A5 hi,typeInfo,zeroValue,hi,hz,hn0,h63',h48,hb',hneg,hw,Question.forced,newRow,grownCap,e1,asInt,asIntOf,Builtin.firstCells];intro h;exact absurd h (Nat.ne_of_gt (Nat.mul_pos h1 hsz))
section
variable {c:Cx} {E:Env} {T:Heap} {ops:Array Oper} {i:Nat} {rest:List Nat} {k:List Item} {o:Oper}
theorem Ip {t e:TypeId}{x:Operand}(n:Nat)(ho:lget ops.toList i=some o)(hg:o.guard=none)(hop:o.op=.call {callee:=.builtin .cap,args:= #[x],argTypes:= #[t]})(hx:opd E x=.nilsl)(ht:tyU c.P t=some (.slice e))
  (h:putE c.nt o.dst (.int .i64 0) E False λE'=>evp c n (.inRegion ops rest::k) E' T):Goes c (.inRegion ops (i::rest)::k) E T:=by
 refine Dr n ho hg hop (OpTo.still λo hop w β H m a hs=>⟨.int .i64 0,?_,.int _ _⟩) (λcl h=>by cases h) h;have hr:=Ae hs x;simp only[hx,V.conv] at hr;generalize hq:a.eval x=q at hr;cases hr;simp[execOp,hop,resolve,invoke,builtin,Builtin.cap_,hq,run_underlying (Al ht),goInt]
theorem M4 {t e:TypeId}{x hi:Operand}{kk:IntKind}{ti:TypeInfo}(n:Nat)(ho:lget ops.toList i=some o)(hg:o.guard=none)(hop:o.op=.slice t x none (some hi) none)(hx:opd E x=.nilsl)(hh:opd E hi=.int kk 0)(ht:tyU c.P t=some (.slice e))(hi':tyI c.P e=some ti)
  (h:putE c.nt o.dst .nilsl E False λE'=>evp c n (.inRegion ops rest::k) E' T):Goes c (.inRegion ops (i::rest)::k) E T:=by
 refine Dr n ho hg hop (OpTo.still λo hop w β H m a hs=>⟨.slice none 0 0,?_,.nilsl⟩) (λcl h=>by cases h) h;have hr:=Ae hs x;simp only[hx,V.conv] at hr;have hr2:=A8 (m:=m) (by have:=Ae hs hi;rwa [hh] at this);generalize hq:a.eval x=q at hr;cases hr;simp[execOp,hop,hq,hr2,Instr.sliceAt,Instr.slice,Instr.sliceBounds,Instr.sliceBound,asIntOf,run_underlying (Al ht),A5 (A4 hi')]
theorem M5 {t t' e:TypeId}{x y:Operand}{kd:IntKind}{ti:TypeInfo}{z:Value}(n N:Nat)(ho:lget ops.toList i=some o)(hg:o.guard=none)(hop:o.op=.call {callee:=.builtin .append,args:= #[x,y],argTypes:= #[t,t']})(hx:opd E x=.nilsl)(hy:opd E y=.int .i64 N)(h1:1≤N)
  (ht:tyU c.P t=some (.slice e)) (ht':tyU c.P t'=some (.int kd)) (hi:tyI c.P e=some ti) (hz:ti.zero=some z) (hsz:(Nat.beq z.cells.size ti.size&&Nat.ble 1 ti.size&&Nat.ble 1 ti.bytes&&onesB (ofVal z).cells&&Nat.beq (lcount (ofVal z).cells 0) ti.size)=true) (hb:room N ti.bytes)
  (h:putE c.nt o.dst (.osl (.loc T.length) 0 0 N) E False λE'=>lsnoc T (some (.vec 0 ti.size (List.replicate N (ofVal z)))) λT'=>evp c n (.inRegion ops rest::k) E' T'):Goes c (.inRegion ops (i::rest)::k) E T:=by
 simp only[Jn] at h;simp only[Aq6,C5,As1] at hsz;obtain⟨⟨⟨⟨s1,s2⟩,s3⟩,s4⟩,s5⟩:=hsz;have s1:=Arn s1;have s2:1≤ti.size:=Arp s2;have s3:1≤ti.bytes:=Arp s3;have s5:=Arn s5;unfold room at hb;have hN:N≤70368744177664:=Ark (Au7 N s3) hb;refine Dr n ho hg hop (λo hop w β H m a hs=> ?_) (λcl h=>by cases h) h;have hr:=Ae hs x;simp only[hx,V.conv] at hr;have e2:=A8 (m:=m) (by have:=Ae hs y;rwa [hy] at this);generalize hq:a.eval x=q at hr;cases hr;have hrun:=Tq (P:=c.P) (w:=w) (kk:=.i64) N (Al ht) (Al ht') (A4 hi) hz o.type s1 (by omega) h1 (by omega) (by omega) (growslice_fits (by omega) (by omega));have hge:=grownCap_ge w N 0 e;have hcm:=grownCap_le_maxLen w N 0 e (by unfold maxLen;omega);obtain⟨cap,hcap⟩: ∃cap,cap=grownCap w N 0 e:=⟨_,rfl⟩;rw[←hcap] at hge hcm hrun;have hzr:RowRep w β H (V.convL m (ofVal z).cells) z.cells.toList:=Mm m z;have hzp:V.convL m (ofVal z).cells=(ofVal z).cells:=by
  refine E5 m _ ?_;have key1: ∀v,(ofVal1 v).pureB=true:=λv=>by
   unfold ofVal1;split<;>first|rfl|skip;cases(Nat.ble _ 1000000)<;>rfl
  have key: ∀l:List Value,V.pureL (lmap ofVal1 l)=true:=λl=>by
   induction l with
   |nil=>rfl
   |cons x l ih=>simp only[lmap,V.pureL,key1,ih,Ast]
  unfold ofVal;split
  ·exact key _
  ·rw[L2];simp[V.pureL,key1]
 rw[hzp] at hzr;have hsame:SRel c.imps c.nt w.drew β H m ⟨E,T,c.B,c.D⟩ a:=hs.same (Fr.of_heap rfl rfl rfl rfl) (hs.hrel.of_heap rfl rfl rfl rfl);obtain⟨cells,hcells⟩: ∃cells,cells=Builtin.zeroCells z.cells N++Builtin.zeroCells z.cells (cap-N):=⟨_,rfl⟩;rw[←hcells] at hrun;have hcs:cells.size=cap*ti.size:=by
  rw[hcells];simp only[Auo,E2,s1,←Asn]
  congr 1
  omega
 obtain⟨β',H',k1,k2,k3⟩:=hsame.newVec 0 ti.size (List.replicate N (ofVal z)) cells e N cap (Tj _) s2 (λx hx=>by rw[Aug hx];exact⟨s5,s4⟩) (by simp) hge hcm hcs.symm
  (λix x j cc v hx hj hv=>by
   have hxl:=Ab hx;rw[Awa] at hxl;have hxe:=Aug (Aq7 hx);subst hxe;have hjl:=Ab hj;have hlt:ix*ti.size+j<N*ti.size:=by
    have:(ix+1)*ti.size≤N*ti.size:=Arg _ hxl;rw[Asn] at this;omega
   rw[hcells,Ass (by rw[E2,s1];exact hlt)] at hv;have hget:(Builtin.zeroCells z.cells N)[ix*ti.size+j]?=some z.cells[(ix*ti.size+j) % z.cells.size]! :=by
    simp[Builtin.zeroCells,s1,hlt]
   rw[hget] at hv;injection hv with hv
   have hmod:(ix*ti.size+j) % z.cells.size=j:=by rw[s1,Auf,Avr,Av2 (by omega)]
   rw[hmod] at hv;refine(hzr.2 j cc v hj ?_).mono (Fr.of_heap rfl rfl rfl rfl);rw[←hv];have:j<z.cells.size:=by omega
   simp[this])
 refine⟨_,_,_,β',H',_,?_,.inl rfl,k1,(show Fr w β H w.drew β H from Fr.of_heap rfl rfl rfl rfl).trans k2,k3,Atl _ _⟩;rw[←hq,←e2] at hrun;simp[execOp,hop,resolve,invoke,builtin,hrun]
theorem L6 {t e:TypeId}{x hi:Operand}{kk:IntKind}{ti:TypeInfo}{kn g l sz h:Nat}{xs:List V}(n:Nat)(ho:lget ops.toList i=some o)(hg:o.guard=none)(hop:o.op=.slice t x none (some hi) none)(hx:opd E x=.osl (.loc kn) g 0 l)(hh:opd E hi=.int kk h)(ht:tyU c.P t=some (.slice e))(hi':tyI c.P e=some ti)
  (hk:lget T kn=some (some (.vec g sz xs))) (hle:h≤l)
  (hn:putE c.nt o.dst (.osl (.loc kn) (bump g) 0 h) E False λE'=>lset T kn (some (.vec (bump g) sz (xs.take h))) λT'=>evp c n (.inRegion ops rest::k) E' T'):Goes c (.inRegion ops (i::rest)::k) E T:=by
 simp only[Bz] at hn;rw[Af] at hk;refine Dr n ho hg hop (λo hop w β H m a hs=> ?_) (λcl h=>by cases h) hn;have hv:=Ae hs x;obtain⟨r,hr,hH⟩:=hs.at hk;simp only[hx,V.conv,Ref.conv,hr] at hv;simp only[HObj.conv] at hH;have hob:=hs.hrel.obj r _ hH;have hrl:=hs.lt hr;have e2:=A8 (m:=m) (by have:=Ae hs hi;rwa [hh] at this);have hvec2: ∀sz2 xs2,H[r]?=some (some (.vec g sz2 xs2))->sz2=sz∧xs2=xs:=λsz2 xs2 h2=>by
  rw[hH] at h2;injection h2 with h2
  injection h2 with h2
  injection h2 with _ e1 e2
  exact⟨e1.symm,e2.symm⟩
 generalize hq:a.eval x=q at hv;have hrun: ∀(ad:Option Addr) (cap:Nat),q=.slice ad l cap->l≤cap->(execOp a.eval o).run c.P w=.ok (.value (.slice (if cap=0 then ad else Option.map (λx=>x.add 0) ad) h cap)) w:=by
  intro ad cap hqe hlc;subst hqe;have hhc:h≤cap:=by omega
  simp[execOp,hop,hq,e2,Instr.sliceAt,Instr.slice,Instr.sliceBounds,Instr.sliceBound,asIntOf,run_underlying (Al ht),A5 (A4 hi'),hhc]
 cases hv with
 |oslNil _ _ sz2 xs2 ad hH' hβ=>
  rw[hβ] at hob;have hxs:xs=[]:=hob;subst hxs;obtain rfl:h=0:=by omega
  have hfr:Fr w β H w (upd β r .nil) (H.set r (some (.vec (bump g) sz ([]:List V)))):=Fr.regen (Eh g) (by rw[hβ];simp) hH rfl rfl rfl (Ara _) (λ_ _ _=>rfl) (λb N hb=>by cases hb);have hrel:HRel w (upd β r .nil) (H.set r (some (.vec (bump g) sz ([]:List V)))):=hs.hrel.regen (Eh g) (by rw[hβ];simp) hH rfl rfl rfl (Ara _) (λ_ _ _=>rfl) (λb N hb=>by cases hb) rfl;refine⟨_,_,w,_,_,m,hrun ad 0 rfl (Ara _),.inl rfl,by simpa using hs.regen hk hr hfr hrel,hfr,?_,Ar6 _⟩;simp only[V.conv,Ref.conv,hr];exact .oslNil r _ sz [] _ (by simp[hrl]) (Aq _ _ _)
 |oslBlk _ _ _ _ sz2 xs2 b N ad cap hH' hβ hl hN hcap ha hlen=>
  obtain⟨rfl,rfl⟩:=hvec2 _ _ hH';rw[hβ] at hob;obtain⟨vs,et,_,h1,h2,h3,h4,h5,h6⟩:=hob;have hl': ∀b' N',Loc.blk b N=Loc.blk b' N'->w.heap.size≤b'∨ ∃N2,β r=.blk b' N2:=λb' N' hb'=>by injection hb' with e1 e2;subst e1;exact .inr ⟨N,hβ⟩
  have hfr:Fr w β H w (upd β r (.blk b N)) (H.set r (some (.vec (bump g) sz2 (xs2.take h)))):=Fr.regen (Eh g) (by rw[hβ];simp) hH rfl rfl rfl (Ara _) (λ_ _ _=>rfl) hl';have hrel:HRel w (upd β r (.blk b N)) (H.set r (some (.vec (bump g) sz2 (xs2.take h)))):=
   hs.hrel.regen (Eh g) (by rw[hβ];simp) hH rfl rfl rfl (Ara _) (λ_ _ _=>rfl) hl'
    ⟨vs,et,L1 _ _,h1,h2,Ark (Arg _ (by simp;omega)) h3,h4,λx hx=>h5 x (As0 hx),λp x j c v hi hj hv=>by
     rw[Asv] at hi;split at hi
     ·exact(h6 p x j c v hi hj hv).mono hfr
     ·cases hi⟩
  refine⟨_,_,w,_,_,m,hrun ad cap rfl hl,.inl rfl,hs.regen hk hr hfr hrel,hfr,?_,Ar6 _⟩;simp only[V.conv,Ref.conv,hr];exact .oslBlk r _ 0 _ sz2 (xs2.take h) b N _ _ (by simp[hrl]) (Aq _ _ _) (by omega) hN hcap (λhc=>by
   rw[if_neg (by omega),ha hc];simp[Ek]) (by simp;omega)
 |oslStale _ _ _ _ g' sz' xs' _ hH' hg=>
  rw[hH] at hH';injection hH' with hH'
  injection hH' with hH'
  injection hH' with e0 _ _
  omega
 |oslDead _ _ _ _ _ hd=>rw[hH] at hd;cases hd
end
theorem Dx {c:Cx}{todo:List Item}{E:Env}{T:Heap}(t sz:Nat)(hx:lk E t=.nilsl)(h:Goes c todo ((t,.osl (.loc T.length) 0 0 0)::E) (T++ [some (.vec 0 sz [])])):Goes c todo E T:=by
 refine Bw λw β H m a b cs hs _ _ _=> ?_;obtain⟨β',H',k1,k2,k3⟩:=hs.newNil 0 sz none;have hr:=hs.env t;simp only[hx,V.conv] at hr;generalize hq:a.tmps.getD t Go.undef=q at hr;cases hr;refine⟨w,β',H',m++ [H.length],a,todo,⟨(t,.osl (.loc T.length) 0 0 0)::E,T++ [some (.vec 0 sz [])],c.B,c.D⟩,.refl _ _,?_,k2,h⟩;refine {k1 with env:=λj=> ?_,scE:=λp hp=> ?_}
 ·simp only[lk];cases hb:Nat.beq t j with
  |false=>exact k1.env j
  |true=>
   obtain rfl:=Arn hb;simp only[cond_true,hq];exact k3
 ·simp only[Arl] at hp
  rcases hp with rfl|hp
  ·show T.length< (T++_).length;simp
  ·exact k1.scE p hp
end Bow
namespace Bow
open Go
end Bow
namespace Bow
open Go
theorem Px {P:Program}{f:FuncId}{args:List V}{Q:V->Prop}(he:Enterable P f)(hp:V.pureL args=true)
  (h: ∀(w:World) (β:Nat->Loc) (H:Heap) (vals:Array Value),args.length=vals.size->(∀(j:Nat) (x:V) (v:Value),args[j]?=some x->vals[j]?=some v->Rep w β H x v)->
   Calls P f vals w λe w'=>RowKit.Below w.heap.size w w'∧ ∃(x:V) (v:Value),e=.returned v∧Q x∧x.pureB=true∧Rep w' β H x v):Pure P f args Q:=by
 unfold Pure Fun;refine⟨he,λw β H m B vals cs hs hl hr=> ?_⟩;obtain⟨e,w',fr,⟨hb,x,v,rfl,hq,hx,hv⟩,k1,k2,k3⟩:=h w β H vals hl (λj x v hj hv=>by
  have:=hr j x v hj hv;rwa [Ao _ _ (C3 _ hp x (Aq7 hj))] at this) cs
 refine⟨x,[],v,w',β,H,m,fr,⟨rfl,hx,hq⟩,hs.same (Fr.of_below hb) (hs.hrel.of_below hb),Fr.of_below hb,?_,k1,k2,k3⟩;rwa [Ao _ _ hx]
def flatL:List V->Bool
 | []=>true
 |v::vs=>flatB v&&flatL vs
theorem Yy: ∀ {vs:List V},flatL vs=true-> ∀v∈vs,flatB v=true
 | [],_,v,h=>by cases h
 |x::vs,hg,v,h=>by
  simp only[flatL,Aq6] at hg
  rcases Arl.1 h with rfl|h
  ·exact hg.1
  ·exact Yy hg.2 v h
section
variable {P:Program} {w w':World} {β β':Nat->Loc} {H H':Heap}
theorem Rep.flat_sl {sz:Nat}{xs:List V}{v:Value}(hx: ∀x∈xs,flatL x.cells=true)(h:Rep w β H (.sl sz xs) v):Rep w β0 [] (.sl sz xs) v:=by
 cases h with
 |sl _ _ a cap vals hcap hmax hsz ha hr=>
  refine .sl sz xs a cap vals hcap hmax hsz (λhne=> ?_) (λi x j c hi hj=> ?_)
  ·obtain⟨ad,h1,_,h3⟩:=ha hne;exact⟨ad,h1,notOwn0 _,h3⟩
  ·exact(hr i x j c hi hj).flat (Yy (hx x (Aq7 hi)) c (Aq7 hj))
theorem Abh {sz:Nat}{xs:List V}{v:Value}(h:Rep w β H (.sl sz xs) v): ∃(a:Option Addr) (cap:Nat),v=.slice a xs.length cap∧xs.length≤cap∧cap≤maxLen∧
  (xs≠[]-> ∃ad,a=some ad∧ad.block<w.heap.size∧ ∀(i:Nat) (x:V) (j:Nat) (c:V),xs[i]?=some x->x.cells[j]?=some c-> ∃u,w.cell? (ad.add (i*sz+j))=some u∧Rep w β H c u):=by
 cases h with
 |sl _ _ a cap vals hcap hmax hsz ha hr=>
  refine⟨a,cap,rfl,hcap,hmax,λhne=> ?_⟩;obtain⟨ad,h1,_,h3,h4⟩:=ha hne;refine⟨ad,h1,h3,λi x j c hi hj=>⟨_,h4 _ ?_,hr i x j c hi hj⟩⟩;have h5:i<xs.length:=Ab hi;have h6:j<sz:=by rw[←(hsz x (Aq7 hi)).1];exact Ab hj
  have:(i+1)*sz≤xs.length*sz:=Arg sz h5;rw[Nat.succ_mul] at this;omega
theorem Nq {f:FuncId}{args:List V}{vals:Array Value}{Q:V->Prop}{c:Value}(h:Pure P f args Q)(hc: ∀(x:V) (v:Value) (w':World) (β':Nat->Loc) (H':Heap),Q x->Rep w' β' H' x v->v=c)(hp:V.pureL args=true)(hl:args.length=vals.size)
  (hr: ∀(j:Nat) (x:V) (v:Value),args[j]?=some x->vals[j]?=some v->Rep w β H x v):Calls P f vals w λe w'=>e=.returned c∧RowKit.Below w.heap.size w w':=by
 intro cs;obtain⟨x,v,w',β',H',fr,hq,_,k3,hb,k4,k5,k6⟩:=Ux h hp cs hl hr;have hv:=hc x v _ _ _ hq k3;subst hv;exact⟨.returned v,w',fr,⟨rfl,hb⟩,k4,k5,k6⟩
end
section
variable {c:Cx} {E:Env} {T:Heap} {ops:Array Oper} {i:Nat} {rest:List Nat} {k:List Item} {o:Oper}
theorem Al0 {t t':TypeId}{x y:Operand}{ik yk:IntKind}{a b:Int}(n:Nat)(ho:lget ops.toList i=some o)(hg:o.guard=none)(hop:o.op=.binOp .shr t x y t')(hx:opd E x=.int ik a)(hy:opd E y=.int yk b)(hb:0≤b)
  (h:putE c.nt o.dst (.int ik (a / 2^min b.toNat ik.bits)) E False λE'=>evp c n (.inRegion ops rest::k) E' T):Goes c (.inRegion ops (i::rest)::k) E T:=by
 refine Dr n ho hg hop (λo hop w β H m a hs=> ?_) (λcl h=>by cases h) h;have e1:=A8 (by have:=Ae hs x;rwa [hx] at this);have e2:=A8 (by have:=Ae hs y;rwa [hy] at this);refine⟨_,_,w,β,H,m,?_,.inl rfl,hs,Fr.refl w β H,.int _ _,Ar6 m⟩;simp only[execOp,hop,e1,e2,eqGuard,binOp,shift_shr_any _ _ _ _ hb];rfl
theorem Aef {todo:List Item}(kb sz:Nat)(hk:lget T kb=some (some (.box [.nilsl])))(h:Goes c todo E (List.set (T++ [some (HObj.vec 0 sz [])]) kb (some (HObj.box [.osl (.loc T.length) 0 0 0])))):Goes c todo E T:=by
 rw[Af] at hk;refine Bw λw β H m a b cs0 hs _ _ _=> ?_;obtain⟨β',H',k1,k2,k3⟩:=hs.newNil 0 sz none;have hk2:(T++ [some (HObj.vec 0 sz [])])[kb]?=some (some (.box [.nilsl])):=by rw[Aq9 (Ab hk)];exact hk
 obtain⟨r,hr,hH⟩:=k1.at hk2;have hob:=k1.hrel.obj r _ hH;have hfr:Fr w β' H' w β' (H'.set r (some ((HObj.box [.osl (.loc T.length) 0 0 0]).conv (m++ [H.length])))):=Fr.swap hH trivial;have hrel:HRel w β' (H'.set r (some ((HObj.box [.osl (.loc T.length) 0 0 0]).conv (m++ [H.length])))):=by
  refine k1.hrel.swap hH trivial ?_;simp only[HObj.conv];cases hβ:β' r with
  |none=>trivial
  |nil=>rw[hβ] at hob;exact hob
  |blk bb N=>
   rw[hβ] at hob;obtain⟨vs,e,q1,q2,q3,q4⟩:=hob;refine⟨vs,e,q1,q2,q3,λi x v hi hv=> ?_⟩;cases i with
   |succ i=>simp[V.convL] at hi
   |zero=>
    have h0:=q4 0 .nilsl v rfl hv;cases h0;simp only[V.convL] at hi;injection hi with hi
    subst hi;exact k3.mono (by rw[←HObj.conv];exact hfr)
 have hset:=k1.setAt (o':=some (.box [.osl (.loc T.length) 0 0 0])) (w':=w) hr (λo1 e1=>by
   injection e1 with e1
   subst e1;have hm:=hs.mlen;exact⟨by show T.length< (m++ [H.length]).length;simp only[Arb,Aut];have:m.length=T.length:=hm;omega,trivial⟩)
  (λhm=>absurd hm (k1.notD hk2 (by simp))) hfr hrel
 exact⟨w,β',_,m++ [H.length],a,todo,⟨E,_,c.B,c.D⟩,.refl _ _,hset,k2.trans hfr,h⟩
theorem Hy {todo:List Item}(t:Nat){v v':V}(hx:lk E t=v)(hp:v.pureB=true)(hp':v'.pureB=true)(hw:Wk v v')(h:Goes c todo ((t,v')::E) T):Goes c todo E T:=by
 refine Bw λw β H m a b cs hs _ _ _=> ?_;have hr:=hs.env t;rw[hx,Ao _ _ hp] at hr;have hr':=hw w β H _ hr;exact⟨w,β,H,m,a,todo,⟨_,_,c.B,c.D⟩,.refl _ _,hs.know (x:=v') (by rw[Ao _ _ hp'];exact hr'),Fr.refl w β H,h⟩
theorem Aeg {todo:List Item}(t kn:Nat){g l sz:Nat}{xs:List V}(hx:lk E t=.osl (.loc kn) g 0 l)(hk:lget T kn=some (some (.vec g sz xs)))(hl:l=xs.length)(h:lset T kn none λT'=>Goes c todo ((t,.sl sz xs)::E) T'):Goes c todo E T:=by
 rw[Bz] at h;have hfz:frzAll [lk E t] T False λvs T'=>vs=[.sl sz xs]∧T'=T.set kn none:=by
  rw[hx];simp only[frzAll,Bq,frz,frz1,hk,Bz];exact⟨trivial,hl,trivial,trivial⟩
 rcases Dq (F:=False) _ _ _ hfz with h'| ⟨vs',T',⟨rfl,rfl⟩,hto⟩
 ·exact h'.elim
 refine Bw λw β H m a b cs hs _ _ _=> ?_;obtain⟨H1,q1,q2,q3⟩:=hto.2 _ _ _ _ _ _ _ _ _ _ hs;have hr:=q3 0 _ _ _ rfl rfl (hs.env t);exact⟨w,β,H1,m,a,todo,⟨_,_,c.B,c.D⟩,.refl _ _,q1.know (x:=.sl sz xs) (show Rep w β H1 ((V.sl sz xs).conv m) _ from hr),q2,h⟩
end
section
variable {c:Cx} {E:Env} {T:Heap} {ops:Array Oper} {i:Nat} {rest:List Nat} {k:List Item} {o:Oper}
theorem Kn (m:List Nat)(cs:List V)(j:Nat):(V.convL m cs)[j]?=cs[j]?.map (V.conv m):=by
 rw[V.convL_eq,Arv]
theorem Fy (m:List Nat)(cs:List V)(j:Nat)(x:V):V.convL m (cs.set j x)=(V.convL m cs).set j (x.conv m):=by
 rw[V.convL_eq,V.convL_eq,Au5]
theorem C9 {todo:List Item}{cs:List V}(kb j sz:Nat)(hk:lget T kb=some (some (.box cs)))(hj:cs[j]?=some .nilsl)(h:Goes c todo E (List.set (T++ [some (HObj.vec 0 sz [])]) kb (some (HObj.box (cs.set j (.osl (.loc T.length) 0 0 0)))))):Goes c todo E T:=by
 rw[Af] at hk;refine Bw λw β H m a b cs0 hs _ _ _=> ?_;obtain⟨β',H',k1,k2,k3⟩:=hs.newNil 0 sz none;have hk2:(T++ [some (HObj.vec 0 sz [])])[kb]?=some (some (.box cs)):=by rw[Aq9 (Ab hk)];exact hk
 obtain⟨r,hr,hH⟩:=k1.at hk2;have hob:=k1.hrel.obj r _ hH;have hfr:Fr w β' H' w β' (H'.set r (some ((HObj.box (cs.set j (.osl (.loc T.length) 0 0 0))).conv (m++ [H.length])))):=Fr.swap hH trivial;have hrel:HRel w β' (H'.set r (some ((HObj.box (cs.set j (.osl (.loc T.length) 0 0 0))).conv (m++ [H.length])))):=by
  refine k1.hrel.swap hH trivial ?_;simp only[HObj.conv];cases hβ:β' r with
  |none=>trivial
  |nil=>rw[hβ] at hob;exact hob
  |blk bb N=>
   rw[hβ] at hob;obtain⟨vs,e,q1,q2,q3,q4⟩:=hob;refine⟨vs,e,q1,q2,by rw[Fy,Atp];exact q3,λi x v hi hv=> ?_⟩;rw[Fy,As3] at hi;split at hi
   ·rename_i hji;subst hji;split at hi
    ·injection hi with hi
     subst hi;have h0:=q4 j .nilsl v (by rw[Kn,hj];rfl) hv;cases h0;exact k3.mono hfr
    ·cases hi
   ·exact(q4 i x v hi hv).mono hfr
 have hset:=k1.setAt (o':=some (.box (cs.set j (.osl (.loc T.length) 0 0 0)))) (w':=w) hr (λo1 e1=>by
   injection e1 with e1
   subst e1;have hm:m.length=T.length:=hs.mlen;have hsc:=hs.scT kb _ hk;show V.scL _ _;rw[V.scL_iff];have hsc':=(V.scL_iff _ _).1 hsc;intro v hv
   rcases Atw hv with hv|hv
   ·exact V.sc_mono (by simp;omega) v (hsc' v hv)
   ·subst hv;show T.length< (m++ [H.length]).length;simp only[Arb,Aut];omega)
  (λhm=>absurd hm (k1.notD hk2 (by simp))) hfr hrel
 exact⟨w,β',_,m++ [H.length],a,todo,⟨E,_,c.B,c.D⟩,.refl _ _,hset,k2.trans hfr,h⟩
theorem Ago {t e:TypeId}{x lo:Operand}{kk:IntKind}{ti:TypeInfo}{kn g off l sz h:Nat}{xs:List V}(n:Nat)(ho:lget ops.toList i=some o)(hg:o.guard=none)(hop:o.op=.slice t x (some lo) none none)(hx:opd E x=.osl (.loc kn) g off l)(hh:opd E lo=.int kk h)(ht:tyU c.P t=some (.slice e))(hi':tyI c.P e=some ti)(hsz:ti.size=sz)
  (hk:lget T kn=some (some (.vec g sz xs))) (hle:h≤l)
  (hn:putE c.nt o.dst (.osl (.loc kn) g (off+h) (l-h)) E False λE'=>evp c n (.inRegion ops rest::k) E' T):Goes c (.inRegion ops (i::rest)::k) E T:=by
 rw[Af] at hk;refine Dr n ho hg hop (λo hop w β H m a hs=> ?_) (λcl h=>by cases h) hn;have hv:=Ae hs x;obtain⟨r,hr,hH⟩:=hs.at hk;simp only[hx,V.conv,Ref.conv,hr] at hv;simp only[HObj.conv] at hH;have e2:=A8 (m:=m) (by have:=Ae hs lo;rwa [hh] at this);have hvec2: ∀sz2 xs2,H[r]?=some (some (.vec g sz2 xs2))->sz2=sz∧xs2=xs:=λsz2 xs2 h2=>by
  rw[hH] at h2;injection h2 with h2
  injection h2 with h2
  injection h2 with _ e1 e2
  exact⟨e1.symm,e2.symm⟩
 generalize hq:a.eval x=q at hv;have hrun: ∀(ad:Option Addr) (cap:Nat),q=.slice ad l cap->l≤cap->(execOp a.eval o).run c.P w=.ok (.value (.slice (if cap-h=0 then ad else Option.map (λx=>x.add (h*sz)) ad) (l-h) (cap-h))) w:=by
  intro ad cap hqe hlc;subst hqe;have hhc:h≤cap:=by omega
  simp[execOp,hop,hq,e2,Instr.sliceAt,Instr.slice,Instr.sliceBounds,Instr.sliceBound,asIntOf,run_underlying (Al ht),A5 (A4 hi'),hsz,hle]
  by_cases hch:cap=h
  ·simp[hch]
  ·rw[if_neg hch,if_neg (by omega)]
 cases hv with
 |oslNil _ _ sz2 xs2 ad hH' hβ=>
  obtain⟨rfl,rfl⟩:=hvec2 _ _ hH';obtain rfl:h=0:=by omega
  refine⟨_,_,w,β,H,m,hrun ad 0 rfl (Ara _),.inl rfl,hs,Fr.refl w β H,?_,Ar6 _⟩;simp only[V.conv,Ref.conv,hr];exact .oslNil r g sz2 xs2 _ hH hβ
 |oslBlk _ _ _ _ sz2 xs2 b N ad cap hH' hβ hl hN hcap ha hlen=>
  obtain⟨rfl,rfl⟩:=hvec2 _ _ hH';refine⟨_,_,w,β,H,m,hrun ad cap rfl hl,.inl rfl,hs,Fr.refl w β H,?_,Ar6 _⟩;simp only[V.conv,Ref.conv,hr];refine .oslBlk r g (off+h) (l-h) sz2 xs2 b N _ _ hH hβ (by omega) (by rw[show off+h+ (cap-h)=off+cap by omega];exact hN) (by omega) (λhc=> ?_) (by omega);rw[if_neg (by omega),ha (by omega)];simp[Addr.add,Asn]
 |oslStale _ _ _ _ g' sz' xs' _ hH' hg=>
  rw[hH] at hH';injection hH' with hH'
  injection hH' with hH'
  injection hH' with e0 _ _
  omega
 |oslDead _ _ _ _ _ hd=>rw[hH] at hd;cases hd
theorem E4 {x:Operand}{kn g sz ix off:Nat}{xs:List V}(n:Nat)(ho:lget ops.toList i=some o)(hg:o.guard=none)(hop:o.op=.nilCheck x)(hx:opd E x=.eptr (.loc kn) g ix off)(hk:lget T kn=some (some (.vec g sz xs)))
  (hn:putE c.nt o.dst (.eptr (.loc kn) g ix off) E False λE'=>evp c n (.inRegion ops rest::k) E' T):Goes c (.inRegion ops (i::rest)::k) E T:=by
 rw[Af] at hk;refine Dr n ho hg hop (λo hop w β H m a hs=> ?_) (λcl h=>by cases h) hn;have hv:=Ae hs x;obtain⟨r,hr,hH⟩:=hs.at hk;simp only[hx,V.conv,Ref.conv,hr] at hv;simp only[HObj.conv] at hH;generalize hq:a.eval x=q at hv;cases hv with
 |eptrLive _ _ _ _ sz2 xs2 b N hH' hβ hi=>
  refine⟨_,_,w,β,H,m,by simp[execOp,hop,hq];rfl,.inl rfl,hs,Fr.refl w β H,?_,Ar6 _⟩;simp only[V.conv,Ref.conv,hr];exact .eptrLive r g ix off sz2 xs2 b N hH' hβ hi
 |eptrStale _ _ _ _ g' sz' xs' _ hH' hg=>
  rw[hH] at hH';injection hH' with hH'
  injection hH' with hH'
  injection hH' with e0 _ _
  omega
 |eptrDead _ _ _ _ _ hd=>rw[hH] at hd;cases hd
end
theorem L7 {P:Program}{f:FuncId}{T:Heap}{args:List V}{Q:V->Heap->Prop}(h:Fun P f T args λx T'=> ∃y,Wk x y∧x.pureB=true∧y.pureB=true∧Q y T'):Fun P f T args Q:=by
 unfold Fun at*;refine⟨h.1,λw β H m B vals cs hs hl hr=> ?_⟩;obtain⟨x,T',v,w',β',H',m',fr,⟨y,q1,q2,q3,q4⟩,k1,k2,k3,k4⟩:=h.2 w β H m B vals cs hs hl hr;rw[Ao _ _ q2] at k3;exact⟨y,T',v,w',β',H',m',fr,q4,k1,k2,by rw[Ao _ _ q3];exact q1 _ _ _ _ k3,k4⟩
theorem Agq {c:Cx}{todo:List Item}{E:Env}{T:Heap}(k:Nat){g sz:Nat}{xs:List V}(xs':List V)(hk:lget T k=some (some (.vec g sz xs)))(hw:WkE sz xs xs')
  (h:lset T k (some (.vec g sz xs')) λT'=>Goes c todo E T'):Goes c todo E T:=by
 rw[Bz] at h;rw[Af] at hk;refine Bw λw β H m a b cs0 hs _ _ _=> ?_;obtain⟨r,hr,hH⟩:=hs.at hk;simp only[HObj.conv] at hH;have hob:=hs.hrel.obj r _ hH;have hlen:=hw.len;have hev:Evo (.vec g sz xs) (.vec g sz xs'):=⟨Ara _,λ_=>⟨rfl,hlen.symm⟩⟩;have hfr:Fr w β H w β (H.set r (some ((HObj.vec g sz xs').conv m))):=Fr.swap hH hev;have hrel:HRel w β (H.set r (some ((HObj.vec g sz xs').conv m))):=by
  refine hs.hrel.swap hH hev ?_;simp only[HObj.conv];cases hβ:β r with
  |none=>rw[hβ] at hob;exact hob
  |nil=>
   rw[hβ] at hob;have hob:xs=[]:=hob;subst hob;exact Ard.1 hlen
  |blk bb N=>
   rw[hβ] at hob;obtain⟨vs,e,q0,q1,q2,q3,q4,q5,q6⟩:=hob;refine⟨vs,e,q0,q1,q2,by rw[hlen];exact q3,q4,λy hy=> ?_,λi y j c v hi hj hv=> ?_⟩
   ·obtain⟨j,hj,rfl⟩:=Ata.1 hy;obtain⟨x,_,_,h3⟩:=hw.get j _ (Aq3 hj);exact h3
   ·obtain⟨x,hx,h2,_⟩:=hw.get i y hi;obtain⟨z,hz,hwz⟩:=h2.get j c hj;exact(hwz w β H v (q6 i x j z v hx hz hv)).mono hfr
 have hset:=hs.setAt (o':=some (.vec g sz xs')) (w':=w) hr (λo1 e1=>by
   injection e1 with e1
   subst e1;trivial)
  (λhm=>absurd hm (hs.notD hk (by simp))) hfr hrel
 exact⟨w,β,_,m,a,todo,⟨E,_,c.B,c.D⟩,.refl _ _,hset,hfr,h⟩
section
variable {c:Cx} {E:Env} {T:Heap} {ops:Array Oper} {i:Nat} {rest:List Nat} {k:List Item} {o:Oper}
theorem Ko {P:Program}{t e:TypeId}(ht:P.underlying t=some (.pointer e))(a:Option Addr)(w:World):(binOp .eql t (.pointer a) (.pointer none)).run P w=.ok (.bool a.isNone) w∧(binOp .neq t (.pointer a) (.pointer none)).run P w=.ok (.bool (!a.isNone)) w:=by
 have heq:(Op.equal t (.pointer a) (.pointer none)).run P w=.ok a.isNone w:=by
  unfold Op.equal Op.maxDepth Op.equalIn;cases a<;>simp[Sem.run_bind,run_underlying ht]
 constructor
 ·unfold binOp;simp only[Sem.run_bind,heq];simp
 ·unfold binOp;simp only[Sem.run_bind,heq];simp
theorem Aeh {t t' e:TypeId}{x:Operand}(n:Nat)(ho:lget ops.toList i=some o)(hg:o.guard=none)(hop:o.op=.binOp .eql t x (.const (.pointer none)) t')(hx:opd E x=.nilp)(ht:tyU c.P t=some (.pointer e))
  (h:putE c.nt o.dst .tt E False λE'=>evp c n (.inRegion ops rest::k) E' T):Goes c (.inRegion ops (i::rest)::k) E T:=by
 refine Dr n ho hg hop (OpTo.still λo hop w β H m a hs=>⟨.bool true,?_,.tt⟩) (λcl h=>by cases h) h;have hr:=Ae hs x;simp only[hx,V.conv] at hr;generalize hq:a.eval x=q at hr;cases hr;have e2:a.eval (.const (.pointer none))=.pointer none:=rfl;have hgd:(eqGuard .eql t x (.const (.pointer none)) (.pointer none) (.pointer none)).run c.P w=.ok () w:=by simp[eqGuard]
 simp only[execOp,hop,hq,e2,Sem.run_bind,hgd,Result.andThen_ok,(Ko (Al ht) none w).1];rfl
theorem C4 {t t' e:TypeId}{x:Operand}{kb off:Nat}{cs:List V}(n:Nat)(ho:lget ops.toList i=some o)(hg:o.guard=none)(hop:o.op=.binOp .eql t x (.const (.pointer none)) t')(hx:opd E x=.ptr (.loc kb) off)(hk:lget T kb=some (some (.box cs)))(ht:tyU c.P t=some (.pointer e))
  (h:putE c.nt o.dst .ff E False λE'=>evp c n (.inRegion ops rest::k) E' T):Goes c (.inRegion ops (i::rest)::k) E T:=by
 rw[Af] at hk;refine Dr n ho hg hop (OpTo.still λo hop w β H m a hs=>⟨.bool false,?_,.ff⟩) (λcl h=>by cases h) h;have hr:=Ae hs x;obtain⟨r,hrm,hH⟩:=hs.at hk;simp only[hx,V.conv,Ref.conv,hrm] at hr;generalize hq:a.eval x=q at hr;cases hr with
 |ptrLive _ _ b N cs' hH' hβ=>
  have e2:a.eval (.const (.pointer none))=.pointer none:=rfl;have hgd:(eqGuard .eql t x (.const (.pointer none)) (.pointer (some ⟨b,off,none⟩)) (.pointer none)).run c.P w=.ok () w:=by simp[eqGuard]
  simp only[execOp,hop,hq,e2,Sem.run_bind,hgd,Result.andThen_ok,(Ko (Al ht) (some ⟨b,off,none⟩) w).1];rfl
 |ptrDead _ _ _ hd=>rw[hH] at hd;cases hd
end
end Bow
namespace Bow
open Go
end Bow
namespace Bow
open Go
section
variable {w w':World} {β β':Nat->Loc} {H H':Heap}
end
section
variable {c:Cx} {E:Env} {T:Heap} {ops:Array Oper} {i:Nat} {rest:List Nat} {k:List Item} {o:Oper}
end
section
variable {c:Cx} {E:Env} {T:Heap}
end
end Bow
namespace Bow
open Go
end Bow
namespace Bow
open Go
mutual
def V.apart (ss:List Nat):V->Bool
 | .int .. | .bool _| .tt| .ff| .str _| .nilsl| .nilp| .nilf| .nili| .nilmap| .undef=>true
 | .sl sz xs=> !ss.contains sz&&V.apartL ss xs
 | .agg cs=>V.apartL ss cs
 | .tup cs=>V.apartL ss cs
 | .iface _ v=>v.apart ss
 |_=>false
def V.apartL (ss:List Nat):List V->Bool
 | []=>true
 |v::vs=>v.apart ss&&V.apartL ss vs
end
theorem Cd {ss:List Nat}: ∀ {vs:List V},V.apartL ss vs=true-> ∀v∈vs,v.apart ss=true
 | [],_,v,h=>by cases h
 |x::vs,hg,v,h=>by
  simp only[V.apartL,Aq6] at hg
  rcases Arl.1 h with rfl|h
  ·exact hg.1
  ·exact Cd hg.2 v h
theorem Gm {ss:List Nat}{x:V}(h:x.apart ss=true): ∀c∈x.cells,c.apart ss=true:=by
 cases x with
 |agg cs=>
  simp only[V.apart] at h;exact Cd (vs:=cs) h
 |_=>
  intro c hc;simp only[V.cells,Ar5] at hc;subst hc;exact h
def sealO (s:Nat):HObj->HObj
 | .held t=>.held t
 |_=>.held s
def sealH (L:Nat->Nat)(H:Heap):Heap:=H.mapIdx λr o=>o.map (sealO (L r))
theorem Jp {L:Nat->Nat}{H:Heap}{r:Nat}:(sealH L H)[r]?=(H[r]?).map λo=>o.map (sealO (L r)):=by simp[sealH]
theorem L8 {L:Nat->Nat}{H:Heap}:(sealH L H).length=H.length:=by simp[sealH]
theorem Al1 (s:Nat)(o:HObj):isSeal (sealO s o):=by cases o<;>trivial
theorem Oh (s:Nat)(o:HObj): ∃t,sealO s o=.held t:=by cases o<;>exact⟨_,rfl⟩
theorem U5 {s:Nat}{o:HObj}(h: ¬isSeal o):sealO s o=.held s:=by cases o<;>first|rfl|exact absurd trivial h
theorem He {L:Nat->Nat}{H:Heap}{r:Nat}{o:HObj}(h:(sealH L H)[r]?=some (some o)): ∃o',H[r]?=some (some o')∧o=sealO (L r) o':=by
 rw[Jp] at h
 rcases e:H[r]? with- | - |o'
 ·rw[e] at h;cases h
 ·rw[e] at h;cases h
 ·rw[e] at h;injection h with h
  injection h with h
  exact⟨o',rfl,h.symm⟩
theorem Jq {L:Nat->Nat}{β:Nat->Loc}{H:Heap}(b:Nat): ¬ownB β (sealH L H) b:=by
 rintro⟨r,N,⟨o,h,hn⟩,_⟩;obtain⟨o',_,rfl⟩:=He h;exact hn (Al1 _ _)
theorem Yz {L:Nat->Nat}{β:Nat->Loc}{H:Heap}{b sz:Nat}(h:freeB β H b sz):freeB β (sealH L H) b sz:=by
 refine⟨Jq b,λr s N hr hb=> ?_⟩;obtain⟨o,ho,e⟩:=He hr
 by_cases hs:isSeal o
 ·cases o<;>first|exact hs.elim|skip;injection e with e
  subst e;exact h.2 r _ N ho hb
 ·exact(h.1 ⟨r,N,⟨o,ho,hs⟩,hb⟩).elim
theorem HRel.sealed {w:World}{β:Nat->Loc}{H:Heap}(h:HRel w β H)(L:Nat->Nat):HRel w β (sealH L H):=by
 refine⟨λr o ho=> ?_,λr r' b N N' hl hl' hb hb'=> ?_⟩
 ·obtain⟨o',ho',rfl⟩:=He ho;obtain⟨t,e⟩:=Oh (L r) o';rw[e];cases e2:β r with
  |none=>trivial
  |nil=>trivial
  |blk b N=>exact h.lt ⟨o',ho'⟩ e2
 ·obtain⟨o,ho⟩:=hl;obtain⟨o',ho'⟩:=hl';obtain⟨z,hz,_⟩:=He ho;obtain⟨z',hz',_⟩:=He ho';exact h.inj r r' b N N' ⟨z,hz⟩ ⟨z',hz'⟩ hb hb'
theorem Rep.sealed {w:World}{β:Nat->Loc}{H:Heap}{v:V}{u:Value}(h:Rep w β H v u)(L:Nat->Nat):v.apart []=true->Rep w β (sealH L H) v u:=by
 induction h with
 |int k n=>exact λ_=>.int k n
 |bool b=>exact λ_=>.bool b
 |tt=>exact λ_=>.tt
 |ff=>exact λ_=>.ff
 |str s h=>exact λ_=>.str s h
 |nilsl=>exact λ_=>.nilsl
 |nilp=>exact λ_=>.nilp
 |nilf=>exact λ_=>.nilf
 |nili=>exact λ_=>.nili
 |nilmap=>exact λ_=>.nilmap
 |undef v=>exact λ_=>.undef v
 |sl sz xs a cap vals hcap hmax hsz ha hr ih=>
  intro hp;simp only[V.apart,Aq6] at hp;refine .sl sz xs a cap vals hcap hmax hsz (λhne=> ?_) (λi x j c h1 h2=>ih i x j c h1 h2 (Gm (Cd hp.2 x (Aq7 h1)) c (Aq7 h2)));obtain⟨ad,e,h1,h2⟩:=ha hne;exact⟨ad,e,Yz h1,h2⟩
 |agg cs vs hl h ih=>
  intro hp;simp only[V.apart] at hp;exact .agg cs vs hl λj c v hj hv=>ih j c v hj hv (Cd hp c (Aq7 hj))
 |tup cs vs hl h ih=>
  intro hp;simp only[V.apart] at hp;exact .tup cs vs hl λj c v hj hv=>ih j c v hj hv (Cd hp c (Aq7 hj))
 |iface t x v h ih=>
  intro hp;simp only[V.apart] at hp;exact .iface t x v (ih hp)
 |_=>intro hp;simp[V.apart] at hp
theorem Rep.unsealed {w:World}{β β':Nat->Loc}{H H':Heap}{L:Nat->Nat}{ss:List Nat}(hL: ∀r,L r∈ss)(hH: ∀r o,(sealH L H)[r]?=some (some o)->H'[r]?=some (some o)∧β' r=β r){v:V}{u:Value}(h:Rep w β' H' v u):v.apart ss=true->Rep w β H v u:=by
 induction h with
 |int k n=>exact λ_=>.int k n
 |bool b=>exact λ_=>.bool b
 |tt=>exact λ_=>.tt
 |ff=>exact λ_=>.ff
 |str s h=>exact λ_=>.str s h
 |nilsl=>exact λ_=>.nilsl
 |nilp=>exact λ_=>.nilp
 |nilf=>exact λ_=>.nilf
 |nili=>exact λ_=>.nili
 |nilmap=>exact λ_=>.nilmap
 |undef v=>exact λ_=>.undef v
 |sl sz xs a cap vals hcap hmax hsz ha hr ih=>
  intro hp;simp only[V.apart,Aq6,Atn] at hp;refine .sl sz xs a cap vals hcap hmax hsz (λhne=> ?_) (λi x j c h1 h2=>ih i x j c h1 h2 (Gm (Cd hp.2 x (Aq7 h1)) c (Aq7 h2)));obtain⟨ad,e,h1,h2⟩:=ha hne;refine⟨ad,e,⟨?_,λr s N hr hb=> ?_⟩,h2⟩
  ·rintro⟨r,N,⟨o,ho,hs⟩,hb⟩;obtain⟨k1,k2⟩:=hH r (.held (L r)) (by rw[Jp,ho];simp[U5 hs]);have:=h1.2 r _ N k1 (k2.trans hb);have h3:=hL r;rw[this] at h3;have h4:=hp.1;rw[List.contains_iff_mem.2 h3] at h4;cases h4
  ·obtain⟨k1,k2⟩:=hH r (.held s) (by rw[Jp,hr];rfl);exact h1.2 r s N k1 (k2.trans hb)
 |agg cs vs hl h ih=>
  intro hp;simp only[V.apart] at hp;exact .agg cs vs hl λj c v hj hv=>ih j c v hj hv (Cd hp c (Aq7 hj))
 |tup cs vs hl h ih=>
  intro hp;simp only[V.apart] at hp;exact .tup cs vs hl λj c v hj hv=>ih j c v hj hv (Cd hp c (Aq7 hj))
 |iface t x v h ih=>
  intro hp;simp only[V.apart] at hp;exact .iface t x v (ih hp)
 |_=>intro hp;simp[V.apart] at hp
inductive Lz (B:Base)(L:Nat->Nat):V->V->Prop
 |wk {x y:V} (h:Wk x y) (hy:y.apart []=true):Lz B L x y
 |row (r g sz:Nat) (xs:List V) (h:B r=some (.vec g sz xs)) (hL:L r=sz) (hx:V.apartL [] xs=true):Lz B L (.osl (.abs r) g 0 xs.length) (.sl sz xs)
 |agg (cs ds:List V) (hl:cs.length=ds.length) (h: ∀(j:Nat) (c d:V),cs[j]?=some c->ds[j]?=some d->Lz B L c d):Lz B L (.agg cs) (.agg ds)
 |sl (sz:Nat) (xs ys:List V) (hl:xs.length=ys.length) (hy: ∀y∈ys,okE sz y) (h: ∀(i:Nat) (x y:V) (j:Nat) (c d:V),xs[i]?=some x->ys[i]?=some y->x.cells[j]?=some c->y.cells[j]?=some d->Lz B L c d):Lz B L (.sl sz xs) (.sl sz ys)
theorem Lz.rep {B:Base}{L:Nat->Nat}{w:World}{β:Nat->Loc}{H:Heap}(hrel:HRel w β H)(hB: ∀q o,B q=some o->H[q]?=some (some o)){x y:V}(h:Lz B L x y): ∀ {v:Value},Rep w β H x v->Rep w β (sealH L H) y v:=by
 induction h with
 |wk h hy=>exact λ {v} hv=>(h w β H v hv).sealed L hy
 |row r g sz xs h hL hx=>
  intro v hv;have hH:=hB r _ h;have hob:=hrel.obj r _ hH;have hvec: ∀sz2 xs2,H[r]?=some (some (.vec g sz2 xs2))->sz2=sz∧xs2=xs:=λsz2 xs2 h2=>by
   rw[hH] at h2;injection h2 with h2
   injection h2 with h2
   injection h2 with _ e1 e2
   exact⟨e1.symm,e2.symm⟩
  generalize hn:xs.length=n at hv;cases hv with
  |oslNil _ _ sz2 xs2 ad hH' hβ=>
   rw[hβ] at hob;have:xs=[]:=hob;subst this;exact .sl sz [] ad 0 (λ_=>Go.undef) (Ara _) (Aq4 _) (by simp) (λhne=>absurd rfl hne) (λi x j c hi=>by simp at hi)
  |oslBlk _ _ _ _ sz2 xs2 b N ad cap hH' hβ hl hN hcap ha hlen=>
   obtain⟨rfl,rfl⟩:=hvec _ _ hH';rw[hβ] at hob;obtain⟨vs,e,_,h1,h2,h3,h4,h5,h6⟩:=hob;subst hn;refine .sl sz2 xs2 ad cap (λj=>vs.getD j Go.undef) hl (by omega) h5 (λhne=> ?_) (λi x j c hi hj=> ?_)
   ·have h0:0<xs2.length:=Arw.2 hne;have:=ha (by omega);subst this;refine⟨_,rfl,⟨Jq _,λq s N' hq hb=> ?_⟩,(Asz.1 h1).1,λj hj=> ?_⟩
    ·obtain⟨o,ho,e⟩:=He hq;have:q=r:=hrel.inj q r b N' N ⟨o,ho⟩ ⟨_,hH⟩ hb hβ;subst this;rw[hH] at ho;injection ho with ho
     injection ho with ho
     subst ho;injection e with e
     exact e.trans hL
    ·have hjv:j<vs.size:=by omega
     rw[Aua,Ek,cell_of_row w b j vs e (0,0) h1];simp[hjv]
   ·have hlt:i*sz2+j<vs.size:=by
     have e1:=Ab hi;have e2:=Ab hj;have e3:=(h5 x (Aq7 hi)).1;have:(i+1)*sz2≤xs2.length*sz2:=Arg _ e1;rw[Asn] at this;omega
    exact(h6 i x j c (vs.getD (i*sz2+j) Go.undef) hi hj (by simp[hlt])).sealed L (Gm (Cd hx x (Aq7 hi)) c (Aq7 hj))
  |oslStale _ _ _ _ g' sz' xs' _ hH' hg=>
   rw[hH] at hH';injection hH' with hH'
   injection hH' with hH'
   injection hH' with e0 _ _
   omega
  |oslDead _ _ _ _ _ hd=>rw[hH] at hd;cases hd
 |agg cs ds hl h ih=>
  intro v hv;cases hv with
  |agg _ vs hl' h'=>
   refine .agg ds vs (hl.symm.trans hl') λj d u hj hu=> ?_;have hjc:j<cs.length:=by have:=Ab hj;omega
   exact ih j _ d (Aq3 hjc) hj (h' j _ u (Aq3 hjc) hu)
 |sl sz xs ys hl hy h ih=>
  intro v hv;generalize hn:xs.length=n at hl;generalize hq:V.sl sz xs=q at hv;cases hv with
  |sl sz' xs' a cap vals hcap hmax hsz ha hr=>
   injection hq with e1 e2
   subst e1 e2;rw[hn,hl];refine .sl sz ys a cap vals (by omega) hmax hy (λhne=> ?_) (λi y j d hi hj=> ?_)
   ·obtain⟨ad,k1,k2,k3,k4⟩:=ha (λe=>hne (by rw[e] at hn;exact Ard.1 (by simp at hn;omega)));exact⟨ad,k1,Yz k2,k3,λj hj=>k4 j (by rw[hn,hl];exact hj)⟩
   ·have hix:i<xs.length:=by have:=Ab hi;omega
    have hx:=Aq3 hix;have hc1:=(hsz _ (Aq7 hx)).1;have hc2:=(hy _ (Aq7 hi)).1;have hjx:j< (xs[i]).cells.length:=by have:=Ab hj;omega
    exact ih i _ y j _ d hx hi (Aq3 hjx) hj (hr i _ j _ hx (Aq3 hjx))
  |_=>cases hq
inductive Lp (B:Base)(s:Nat):V->V->Prop
 |lz {x y:V} (h:Lz B (λ_=>s) x y):Lp B s x y
 |part (r g off len:Nat) (xs:List V) (h:B r=some (.vec g s xs)) (hlen:off+len≤xs.length) (hx:V.apartL [] xs=true):Lp B s (.osl (.abs r) g off len) (.sl s ((xs.drop off).take len))
 |box (r:Nat) (cs ds:List V) (h:B r=some (.box cs)) (hl:cs.length=ds.length) (hd: ∀(j:Nat) (c d:V),cs[j]?=some c->ds[j]?=some d->Lp B s c d):Lp B s (.ptr (.abs r) 0) (.iptr ds 0)
theorem Lp.rep {B:Base}{s:Nat}{w:World}{β:Nat->Loc}{H:Heap}(hrel:HRel w β H)(hB: ∀q o,B q=some o->H[q]?=some (some o)){x y:V}(h:Lp B s x y): ∀ {v:Value},Rep w β H x v->Rep w β (sealH (λ_=>s) H) y v:=by
 induction h with
 |lz h=>exact λ {v} hv=>h.rep hrel hB hv
 |part r g off len xs h hlen hx=>
  intro v hv;have hH:=hB r _ h;have hob:=hrel.obj r _ hH;have hvec: ∀sz2 xs2,H[r]?=some (some (.vec g sz2 xs2))->sz2=s∧xs2=xs:=λsz2 xs2 h2=>by
   rw[hH] at h2;injection h2 with h2
   injection h2 with h2
   injection h2 with _ e1 e2
   exact⟨e1.symm,e2.symm⟩
  have hlen':((xs.drop off).take len).length=len:=by rw[Ar1,Asf];omega
  have hget: ∀(i:Nat) (x:V),((xs.drop off).take len)[i]?=some x->xs[off+i]?=some x:=λi x hi=>by
   rw[Asv] at hi;split at hi
   ·rw[As8] at hi;exact hi
   ·cases hi
  generalize hys:(xs.drop off).take len=ys at hlen' hget;have hmem: ∀x∈ys,x∈xs:=λx hx=>by
   obtain⟨i,hi⟩:=Ar7 hx;exact Aq7 (hget i x hi)
  cases hv with
  |oslNil _ _ sz2 xs2 ad hH' hβ=>
   have:ys=[]:=Ard.1 hlen';subst this;exact .sl s [] ad 0 (λ_=>Go.undef) (Ara _) (Aq4 _) (by simp) (λhne=>absurd rfl hne) (λi x j c hi=>by simp at hi)
  |oslBlk _ _ _ _ sz2 xs2 b N ad cap hH' hβ hl hN hcap ha hlen2=>
   obtain⟨rfl,rfl⟩:=hvec _ _ hH';rw[hβ] at hob;obtain⟨vs,e,_,h1,h2,h3,h4,h5,h6⟩:=hob;have hcell: ∀j,j<ys.length*sz2->off*sz2+j<vs.size:=λj hj=>by
    have:(off+len)*sz2≤xs2.length*sz2:=Arg _ hlen;rw[Asn] at this;rw[hlen'] at hj;omega
   have key:=Rep.sl (w:=w) (β:=β) (H:=sealH (λ_=>sz2) H) sz2 ys ad cap (λj=>vs.getD (off*sz2+j) Go.undef) (by omega) (by omega) (λx hx=>h5 x (hmem x hx)) (λhne=> ?_) (λi x j c hi hj=> ?_)
   ·rw[hlen'] at key;exact key
   ·have h0:0<ys.length:=Arw.2 hne;have:=ha (by omega);subst this;refine⟨_,rfl,⟨Jq _,λq s' N' hq hb=> ?_⟩,(Asz.1 h1).1,λj hj=> ?_⟩
    ·obtain⟨o,ho,e⟩:=He hq;have:q=r:=hrel.inj q r b N' N ⟨o,ho⟩ ⟨_,hH⟩ hb hβ;subst this;rw[hH] at ho;injection ho with ho
     injection ho with ho
     subst ho;injection e with e
    ·have hjv:=hcell j hj;rw[Ib,cell_of_row w b (off*sz2+j) vs e (0,0) h1];simp[hjv]
   ·have hgx:=hget i x hi;have hlt:off*sz2+ (i*sz2+j)<vs.size:=by
     refine hcell _ ?_;have e1:=Ab hi;have e2:=Ab hj;have e3:=(h5 x (hmem x (Aq7 hi))).1;have:(i+1)*sz2≤ys.length*sz2:=Arg _ e1;rw[Asn] at this;omega
    have hlt2:(off+i)*sz2+j<vs.size:=by rw[Asn];omega
    have:=(h6 (off+i) x j c (vs.getD ((off+i)*sz2+j) Go.undef) hgx hj (by simp[hlt2])).sealed (λ_=>sz2) (Gm (Cd hx x (hmem x (Aq7 hi))) c (Aq7 hj));rw[show off*sz2+ (i*sz2+j)=(off+i)*sz2+j by rw[Asn,Avq]];exact this
  |oslStale _ _ _ _ g' sz' xs' _ hH' hg=>
   rw[hH] at hH';injection hH' with hH'
   injection hH' with hH'
   injection hH' with e0 _ _
   omega
  |oslDead _ _ _ _ _ hd=>rw[hH] at hd;cases hd
 |box r cs ds h hl hd ih=>
  intro v hv;have hH:=hB r _ h;have hob:=hrel.obj r _ hH;cases hv with
  |ptrLive _ _ b N cs' hH' hβ=>
   rw[hβ] at hob;obtain⟨vs,e,h1,h2,h3,h4⟩:=hob;have key:Rep w β (sealH (λ_=>s) H) (.iptr ds 0) (.pointer (some ((⟨b,0,none⟩:Addr).add 0))):=by
    refine .iptr ds 0 ⟨b,0,none⟩ (λj=>vs.getD j Go.undef) (Jq b) (Asz.1 h1).1 (λj hj=> ?_) (λj d hj=> ?_)
    ·have hjv:j<vs.size:=by omega
     rw[Ek,cell_of_row w b j vs e (0,0) h1];simp[hjv]
    ·have hjd:=Ab hj;have hjc:j<cs.length:=by omega
     have hjv:j<vs.size:=by omega
     exact ih j _ d (Aq3 hjc) hj (h4 j _ _ (Aq3 hjc) (by simp[hjv]))
   rw[Ek] at key;exact key
  |ptrDead _ _ _ hd=>rw[hH] at hd;cases hd
inductive Lt (T:Heap)(s:Nat):V->V->Prop
 |wk {x y:V} (hx:x.pureB=true) (h:Wk x y) (hy:y.apart []=true):Lt T s x y
 |row (k g:Nat) (xs:List V) (h:T[k]?=some (some (.vec g s xs))) (hx:V.apartL [] xs=true):Lt T s (.osl (.loc k) g 0 xs.length) (.sl s xs)
 |part (k g off len:Nat) (xs:List V) (h:T[k]?=some (some (.vec g s xs))) (hlen:off+len≤xs.length) (hx:V.apartL [] xs=true):Lt T s (.osl (.loc k) g off len) (.sl s ((xs.drop off).take len))
 |box (k:Nat) (cs ds:List V) (h:T[k]?=some (some (.box cs))) (hl:cs.length=ds.length) (hd: ∀(j:Nat) (c d:V),cs[j]?=some c->ds[j]?=some d->Lt T s c d):Lt T s (.ptr (.loc k) 0) (.iptr ds 0)
theorem Ts {m:List Nat}{k r:Nat}(h:m[k]?=some r):(Ref.loc k).conv m=.abs r:=by
 simp only[Ref.conv];rw[h]
theorem Lt.conv {T H:Heap}{m:List Nat}{s:Nat}(hlen:m.length=T.length)(hloc: ∀(k r:Nat) (o:Option HObj),m[k]?=some r->T[k]?=some o->H[r]?=some (o.map (HObj.conv m))){x y:V}(h:Lt T s x y):Lp (λr=>(H[r]?).join) s (x.conv m) y:=by
 induction h with
 |wk hx h hy=>
  rw[Ao _ _ hx];exact .lz (.wk h hy)
 |row k g xs h hx=>
  have hk:=Ab h;obtain⟨r,hr⟩: ∃r,m[k]?=some r:=⟨_,Aq3 (by omega)⟩;have e:(V.osl (.loc k) g 0 xs.length).conv m=.osl (.abs r) g 0 xs.length:=by rw[V.conv,Ts hr]
  rw[e];refine .lz (.row r g s xs ?_ rfl hx);show(H[r]?).join=_;rw[hloc k r _ hr h];rfl
 |part k g off len xs h hlen hx=>
  have hk:=Ab h;obtain⟨r,hr⟩: ∃r,m[k]?=some r:=⟨_,Aq3 (by omega)⟩;have e:(V.osl (.loc k) g off len).conv m=.osl (.abs r) g off len:=by rw[V.conv,Ts hr]
  rw[e];refine .part r g off len xs ?_ hlen hx;show(H[r]?).join=_;rw[hloc k r _ hr h];rfl
 |box k cs ds h hl hd ih=>
  have hk:=Ab h;obtain⟨r,hr⟩: ∃r,m[k]?=some r:=⟨_,Aq3 (by omega)⟩;have e:(V.ptr (.loc k) 0).conv m=.ptr (.abs r) 0:=by rw[V.conv,Ts hr]
  rw[e];refine .box r (V.convL m cs) ds ?_ (by rw[V.convL_eq,Arf];exact hl) λj c d hj hdj=> ?_
  ·show(H[r]?).join=_;rw[hloc k r _ hr h];rfl
  ·rw[V.convL_eq,Arv,Asu] at hj;obtain⟨c',hc',rfl⟩:=hj;exact ih j c' d hc' hdj
def LtL (T:Heap)(s:Nat):List V->List V->Prop
 | [],[]=>True
 |x::xs,y::ys=>Lt T s x y∧LtL T s xs ys
 |_,_=>False
theorem LtL.get {T:Heap}{s:Nat}: ∀ {xs ys:List V},LtL T s xs ys->xs.length=ys.length∧ ∀(j:Nat) (y:V),ys[j]?=some y-> ∃x,xs[j]?=some x∧Lt T s x y
 | [],[],_=>⟨rfl,λj y h=>by simp at h⟩
 |x::xs,y::ys,h=>by
  obtain⟨h1,h2⟩:=LtL.get h.2;refine⟨by simp[h1],λj z hz=> ?_⟩;cases j with
  |zero=>simp at hz;subst hz;exact⟨x,rfl,h.1⟩
  |succ j=>simpa using h2 j z (by simpa using hz)
 | [],_::_,h=>h.elim
 |_::_,[],h=>h.elim
theorem Hf {c:Cx}{g:FuncId}{args args':List V}{E:Env}{T:Heap}{K:V->St->Prop}{Q:V->Prop}(s:Nat)(hf:Pure c.P g args' Q)(hz:LtL T s args args')(ha':V.pureL args'=true)
  (hx: ∀x,Q x->x.apart [s]=true) (h: ∀x,Q x->K x ⟨E,T,c.B,c.D⟩):CallThen c g args E T K:=by
 unfold Pure Fun at hf;unfold CallThen;refine⟨hf.1,λw β H m a vals cs hs hl hr=> ?_⟩;obtain⟨hzl,hzg⟩:=hz.get;have hs0:SRel [] 0 w β (sealH (λ_=>s) H) [] ⟨[],[],λr=>((sealH (λ_=>s) H)[r]?).getD none,[]⟩ bare:=by
  refine⟨hs.hrel.sealed (λ_=>s),rfl,λk=>by simp[lk,V.conv];exact .undef _,rfl,At5,by simp,rfl,λr h _=> ?_,λr h1=> ?_,by simp,by simp,by simp,rfl,by simp⟩
  ·simp only;rw[Aq3 h];rfl
  ·simp only;rw[Asq h1];rfl
 obtain⟨x,T',v,w',β',H',m',fr,⟨rfl,hp,hq⟩,k1,k2,k3,k4⟩:=hf.2 w β (sealH (λ_=>s) H) [] _ vals cs hs0 (hzl.symm.trans hl) (λj y v hj hv=>by
  obtain⟨x0,h1,h2⟩:=hzg j y hj;have h3:=hr j x0 v h1 hv;rw[Ao _ _ (C3 _ ha' y (Aq7 hj))];refine(h2.conv hs.mlen hs.loc).rep hs.hrel (λq o hq=> ?_) h3;have hq:(H[q]?).join=some o:=hq;cases e:H[q]? with
  |none=>rw[e] at hq;cases hq
  |some z=>
   rw[e] at hq;have hq:z=some o:=hq;rw[hq])
 have hm':m'=[]:=Ard.1 k1.mlen;subst hm';have hb:RowKit.Below w.heap.size w w':=⟨k2.os,k2.tape,k2.output,k2.size,λq hq=>k2.keep q hq (Jq q)⟩;have g2:Fr w β H w' β H:=Fr.of_below hb;rw[Ao _ _ hp] at k3;refine⟨x,_,v,w',β,H,m,fr,h x hq,hs.same g2 (hs.hrel.of_below hb),g2,?_,k4.1,k4.2.1,k4.2.2,Ar6 _⟩;rw[Ao _ _ hp];refine k3.unsealed (L:=λ_=>s) (ss:=[s]) (λr=>by simp) (λr o ho=> ?_) (hx x hq);have hlt:r< (sealH (λ_=>s) H).length:=Ab ho;have hH':H'[r]?=some (some o):=by
  have:=k1.base r (Asl hlt k2.len) (by simp);simp only at this;rw[this,ho];rfl
 refine⟨hH',?_⟩;obtain⟨o',_,rfl⟩:=He ho;obtain⟨t,e⟩:=Oh s o';rw[e] at hH';exact(k2.seals r t hH').2
section
variable {imps:List Nat} {nt:Nat} {w:World} {β:Nat->Loc} {H:Heap} {m:List Nat} {E:Env} {T:Heap} {B:Base} {D:List Nat} {a:Act}
theorem Jr {H:Heap}{rk rj q:Nat}{o o':HObj}(h:((H.set rk (some o')).set rj none)[q]?=some (some o)):(q=rk∧o=o')∨(q≠rk∧q≠rj∧H[q]?=some (some o)):=by
 rcases Ai h with⟨_,h2,_⟩| ⟨h1,h2⟩
 ·cases h2
 ·rcases Ai h2 with⟨e1,e2,_⟩| ⟨e1,e2⟩
  ·injection e2 with e2
   exact .inl ⟨e1,e2⟩
  ·exact .inr ⟨e1,h1,e2⟩
theorem SRel.takeOver (h:SRel imps nt w β H m ⟨E,T,B,D⟩ a){k jn rk rj g g2 sz sz2 n:Nat}{xs ys:List V}(hk:T[k]?=some (some (.vec g2 sz2 ys)))(hs2:sz2≠0)(hj:T[jn]?=some (some (.vec g sz xs)))(hne:k≠jn)(hmk:m[k]?=some rk)(hmj:m[jn]?=some rj)(hn:n≤xs.length):
  SRel imps nt w (upd β rk (β rj)) ((H.set rk (some (.vec (bump g2) sz (xs.take n)))).set rj none) m ⟨E,(T.set k (some (.vec (bump g2) sz (xs.take n)))).set jn none,B,D⟩ a∧
   Fr w β H w (upd β rk (β rj)) ((H.set rk (some (.vec (bump g2) sz (xs.take n)))).set rj none):=by
 have hHk:H[rk]?=some (some (.vec g2 sz2 ys)):=h.loc k rk _ hmk hk;have hHj:H[rj]?=some (some (.vec g sz xs)):=h.loc jn rj _ hmj hj;have hrne:rk≠rj:=λe=>hne (h.inj hmk (by rw[e];exact hmj));have hβk:β rk≠ .none:=λe=>by
  have:=h.hrel.obj rk _ hHk;rw[e] at this;exact hs2 this
 have hlt:=Eh g2;have f:Fr w β H w (upd β rk (β rj)) ((H.set rk (some (.vec (bump g2) sz (xs.take n)))).set rj none):=by
  refine⟨⟨rfl,rfl,rfl,Ara _,by simp,λq o' _ ho'=> ?_,λ_ _ _=>rfl,?_,λq hq=> ?_,λq s hs=> ?_⟩,λq _ hq=> ?_⟩
  ·rcases Jr ho' with⟨rfl,rfl⟩| ⟨h1,_,h3⟩
   ·exact⟨_,hHk,⟨Aty hlt,λe=>by omega⟩,λ_ e=>by have e:g2=bump g2:=e;omega⟩
   ·exact⟨o',h3,Evo.refl _,λ_ _=>Am h1⟩
  ·rintro b ⟨q,M,⟨o,ho,hns⟩,hb⟩
   rcases Jr ho with⟨rfl,rfl⟩| ⟨h1,_,h3⟩
   ·rw[Aq] at hb;exact .inr ⟨rj,M,⟨_,hHj,λh=>h⟩,hb⟩
   ·rw[Am h1] at hb;exact .inr ⟨q,M,⟨o,h3,hns⟩,hb⟩
  ·exact Am (hq.ne hHk λh=>h)
  ·rcases Jr hs with⟨_,h2⟩| ⟨h1,_,h3⟩
   ·cases h2
   ·exact⟨h3,Am h1⟩
  ·have:q≠rk:=λe=>hβk (e▸hq);rw[Am this];exact hq
 have hrel:HRel w (upd β rk (β rj)) ((H.set rk (some (.vec (bump g2) sz (xs.take n)))).set rj none):=by
  refine h.hrel.step f (λq o ho=> ?_) ?_
  ·rcases Jr ho with⟨rfl,rfl⟩| ⟨h1,_,h3⟩
   ·right;rw[Aq];have hob:=h.hrel.obj rj _ hHj;cases hβ:β rj with
    |none=>rw[hβ] at hob;exact hob
    |nil=>
     rw[hβ] at hob;have:xs=[]:=hob;subst this;exact List.take_nil
    |blk b N=>
     rw[hβ] at hob;rw[hβ] at f;obtain⟨vs,et,_,h1,h2,h3,h4,h5,h6⟩:=hob;refine⟨vs,et,L1 _ _,h1,h2,Ark (Arg _ (by simp;omega)) h3,h4,λx hx=>h5 x (As0 hx),λp x j c v hi hj hv=> ?_⟩;rw[Asv] at hi;split at hi
     ·exact(h6 p x j c v hi hj hv).mono f
     ·cases hi
   ·exact .inl ⟨h3,Am h1,λ_ _ _=>rfl⟩
  ·rintro q q' b M M' ⟨o,ho⟩ ⟨o',ho'⟩ hb hb'
   rcases Jr ho with⟨rfl,_⟩| ⟨h1,h2,h3⟩<;>rcases Jr ho' with⟨rfl,_⟩| ⟨k1,k2,k3⟩
   ·rfl
   ·rw[Aq] at hb;rw[Am k1] at hb';exact absurd (h.hrel.inj q' rj b M' M ⟨_,k3⟩ ⟨_,hHj⟩ hb' hb) k2
   ·rw[Aq] at hb';rw[Am h1] at hb;exact absurd (h.hrel.inj q rj b M M' ⟨_,h3⟩ ⟨_,hHj⟩ hb hb') h2
   ·rw[Am h1] at hb;rw[Am k1] at hb';exact h.hrel.inj q q' b M M' ⟨_,h3⟩ ⟨_,k3⟩ hb hb'
 refine⟨?_,f⟩;have hml:m.length=T.length:=h.mlen;have hrkl:=h.lt hmk;have hrjl:=h.lt hmj;have hkT:=Ab hk;have hjT:=Ab hj;have hTget: ∀(q:Nat) (o:Option HObj),((T.set k (some (.vec (bump g2) sz (xs.take n)))).set jn none)[q]?=some o->(q=jn∧o=none)∨(q=k∧q≠jn∧o=some (.vec (bump g2) sz (xs.take n)))∨(q≠jn∧q≠k∧T[q]?=some o):=λq o hq=>by
  by_cases e1:q=jn
  ·subst e1;rw[As3] at hq;simp[hjT] at hq;exact .inl ⟨rfl,hq.symm⟩
  ·rw[Arj (λx=>e1 x.symm)] at hq
   by_cases e2:q=k
   ·subst e2;rw[As3] at hq;simp[hkT] at hq;exact .inr (.inl ⟨rfl,e1,hq.symm⟩)
   ·rw[Arj (λx=>e2 x.symm)] at hq;exact .inr (.inr ⟨e1,e2,hq⟩)
 refine⟨hrel,h.size,λj=>(h.env j).mono f,by simpa using hml,h.nodup,λj q o hjq ho=> ?_,h.imp,λq hq hqm=> ?_,λq hq=>h.fut q (by simpa using hq),h.own,λp hp=>by simpa using h.scE p hp,λj o ho=> ?_,h.defs,λj q hjq=> ?_⟩
 ·rcases hTget j o ho with⟨rfl,rfl⟩| ⟨rfl,h1,rfl⟩| ⟨h1,h2,h3⟩
  ·have:q=rj:=Option.some.inj (hjq.symm.trans hmj);subst this;simp[hrjl]
  ·have:q=rk:=Option.some.inj (hjq.symm.trans hmk);subst this;rw[Arj (λx=>hrne x.symm)];simp[hrkl,HObj.conv]
  ·have n1:q≠rj:=λe=>h1 (h.inj hjq (e▸hmj));have n2:q≠rk:=λe=>h2 (h.inj hjq (e▸hmk));rw[Arj (λx=>n1 x.symm),Arj (λx=>n2 x.symm)];exact h.loc j q o hjq h3
 ·have n1:q≠rj:=λe=>hqm (e▸Aq7 hmj);have n2:q≠rk:=λe=>hqm (e▸Aq7 hmk);rw[Arj (λx=>n1 x.symm),Arj (λx=>n2 x.symm)];exact h.base q (by simpa using hq) hqm
 ·simp only[Atp]
  rcases hTget j (some o) ho with⟨_,h2⟩| ⟨_,_,h2⟩| ⟨_,_,h3⟩
  ·cases h2
  ·injection h2 with h2
   subst h2;trivial
  ·exact h.scT j o h3
 ·obtain⟨r',b,N,h1,h2,h3,h4⟩:=h.marks j q hjq;have n1:q≠jn:=λe=>by simp only at h2;rw[e,hj] at h2;cases h2
  have n2:q≠k:=λe=>by simp only at h2;rw[e,hk] at h2;cases h2
  have n3:r'≠rk:=λe=>n2 (h.inj h1 (e▸hmk));refine⟨r',b,N,h1,?_,by rw[Am n3];exact h3,h4⟩;simp only;rw[Arj (λx=>n1 x.symm),Arj (λx=>n2 x.symm)];exact h2
end
section
variable {c:Cx} {E:Env} {T:Heap} {ops:Array Oper} {i:Nat} {rest:List Nat} {k:List Item} {o:Oper}
theorem Agr {t e:TypeId}{x hi:Operand}{kk:IntKind}{ti:TypeInfo}{kn g off l sz h:Nat}{xs:List V}(hx:opd E x=.osl (.loc kn) g off l)(hh:opd E hi=.int kk h)(ht:tyU c.P t=some (.slice e))(hi':tyI c.P e=some ti)
  (hk:T[kn]?=some (some (.vec g sz xs))) (hle:h≤l):OpTo c (.slice t x none (some hi) none) E T (.osl (.loc kn) g off h) T:=by
 intro o hop w β H m a hs;have hv:=Ae hs x;obtain⟨r,hr,hH⟩:=hs.at hk;simp only[hx,V.conv,Ref.conv,hr] at hv;simp only[HObj.conv] at hH;have e2:=A8 (m:=m) (by have:=Ae hs hi;rwa [hh] at this);have hvec2: ∀sz2 xs2,H[r]?=some (some (.vec g sz2 xs2))->sz2=sz∧xs2=xs:=λsz2 xs2 h2=>by
  rw[hH] at h2;injection h2 with h2
  injection h2 with h2
  injection h2 with _ e1 e2
  exact⟨e1.symm,e2.symm⟩
 generalize hq:a.eval x=q at hv;have hrun: ∀(ad:Option Addr) (cap:Nat),q=.slice ad l cap->l≤cap->(execOp a.eval o).run c.P w=.ok (.value (.slice (if cap=0 then ad else Option.map (λx=>x.add 0) ad) h cap)) w:=by
  intro ad cap hqe hlc;subst hqe;have hhc:h≤cap:=by omega
  simp[execOp,hop,hq,e2,Instr.sliceAt,Instr.slice,Instr.sliceBounds,Instr.sliceBound,asIntOf,run_underlying (Al ht),A5 (A4 hi'),hhc]
 cases hv with
 |oslNil _ _ sz2 xs2 ad hH' hβ=>
  obtain rfl:h=0:=by omega
  refine⟨_,_,w,β,H,m,hrun ad 0 rfl (Ara _),.inl rfl,hs,Fr.refl _ _ _,?_,Ar6 _⟩;simp only[V.conv,Ref.conv,hr];exact .oslNil r _ sz2 xs2 _ hH' hβ
 |oslBlk _ _ _ _ sz2 xs2 b N ad cap hH' hβ hl hN hcap ha hlen=>
  refine⟨_,_,w,β,H,m,hrun ad cap rfl hl,.inl rfl,hs,Fr.refl _ _ _,?_,Ar6 _⟩;simp only[V.conv,Ref.conv,hr];exact .oslBlk r g off h sz2 xs2 b N _ _ hH' hβ (by omega) hN hcap (λhc=>by
   rw[if_neg (by omega),ha hc];simp[Ib]) (by omega)
 |oslStale _ _ _ _ g' sz' xs' _ hH' hg=>
  rw[hH] at hH';injection hH' with hH'
  injection hH' with hH'
  injection hH' with e0 _ _
  omega
 |oslDead _ _ _ _ _ hd=>rw[hH] at hd;cases hd
theorem Ais {t e:TypeId}{x hi mx:Operand}{kk kk':IntKind}{ti:TypeInfo}{kn g off l sz h:Nat}{xs:List V}(hx:opd E x=.osl (.loc kn) g off l)(hh:opd E hi=.int kk h)(hmx:opd E mx=.int kk' h)(ht:tyU c.P t=some (.slice e))(hi':tyI c.P e=some ti)
  (hk:T[kn]?=some (some (.vec g sz xs))) (hle:h≤l):OpTo c (.slice t x none (some hi) (some mx)) E T (.osl (.loc kn) g off h) T:=by
 intro o hop w β H m a hs;have hv:=Ae hs x;obtain⟨r,hr,hH⟩:=hs.at hk;simp only[hx,V.conv,Ref.conv,hr] at hv;simp only[HObj.conv] at hH;have e2:=A8 (m:=m) (by have:=Ae hs hi;rwa [hh] at this);have e3:=A8 (m:=m) (by have:=Ae hs mx;rwa [hmx] at this);generalize hq:a.eval x=q at hv;have hrun: ∀(ad:Option Addr) (cap:Nat),q=.slice ad l cap->l≤cap->(execOp a.eval o).run c.P w=.ok (.value (.slice (if h=0 then ad else Option.map (λx=>x.add 0) ad) h h)) w:=by
  intro ad cap hqe hlc;subst hqe;have hhc:h≤cap:=by omega
  simp[execOp,hop,hq,e2,e3,Instr.sliceAt,Instr.slice,Instr.sliceBounds,Instr.sliceBound,asIntOf,run_underlying (Al ht),A5 (A4 hi'),hhc]
 cases hv with
 |oslNil _ _ sz2 xs2 ad hH' hβ=>
  obtain rfl:h=0:=by omega
  refine⟨_,_,w,β,H,m,hrun ad 0 rfl (Ara _),.inl rfl,hs,Fr.refl _ _ _,?_,Ar6 _⟩;simp only[V.conv,Ref.conv,hr];exact .oslNil r _ sz2 xs2 _ hH' hβ
 |oslBlk _ _ _ _ sz2 xs2 b N ad cap hH' hβ hl hN hcap ha hlen=>
  refine⟨_,_,w,β,H,m,hrun ad cap rfl hl,.inl rfl,hs,Fr.refl _ _ _,?_,Ar6 _⟩;simp only[V.conv,Ref.conv,hr];exact .oslBlk r g off h sz2 xs2 b N _ _ hH' hβ (Ara _) (Ark (Arg _ (by omega)) hN) (by omega) (λhc=>by
   rw[if_neg (by omega),ha (by omega)];simp[Ib]) (by omega)
 |oslStale _ _ _ _ g' sz' xs' _ hH' hg=>
  rw[hH] at hH';injection hH' with hH'
  injection hH' with hH'
  injection hH' with e0 _ _
  omega
 |oslDead _ _ _ _ _ hd=>rw[hH] at hd;cases hd
theorem Ags {t e:TypeId}{x lo:Operand}{kk:IntKind}{ti:TypeInfo}{kn g off l sz h:Nat}{xs:List V}(hx:opd E x=.osl (.loc kn) g off l)(hh:opd E lo=.int kk h)(ht:tyU c.P t=some (.slice e))(hi':tyI c.P e=some ti)(hsz:ti.size=sz)
  (hk:T[kn]?=some (some (.vec g sz xs))) (hle:h≤l):OpTo c (.slice t x (some lo) none none) E T (.osl (.loc kn) g (off+h) (l-h)) T:=by
 intro o hop w β H m a hs;have hv:=Ae hs x;obtain⟨r,hr,hH⟩:=hs.at hk;simp only[hx,V.conv,Ref.conv,hr] at hv;simp only[HObj.conv] at hH;have e2:=A8 (m:=m) (by have:=Ae hs lo;rwa [hh] at this);have hvec2: ∀sz2 xs2,H[r]?=some (some (.vec g sz2 xs2))->sz2=sz∧xs2=xs:=λsz2 xs2 h2=>by
  rw[hH] at h2;injection h2 with h2
  injection h2 with h2
  injection h2 with _ e1 e2
  exact⟨e1.symm,e2.symm⟩
 generalize hq:a.eval x=q at hv;have hrun: ∀(ad:Option Addr) (cap:Nat),q=.slice ad l cap->l≤cap->(execOp a.eval o).run c.P w=.ok (.value (.slice (if cap-h=0 then ad else Option.map (λx=>x.add (h*sz)) ad) (l-h) (cap-h))) w:=by
  intro ad cap hqe hlc;subst hqe;have hhc:h≤cap:=by omega
  simp[execOp,hop,hq,e2,Instr.sliceAt,Instr.slice,Instr.sliceBounds,Instr.sliceBound,asIntOf,run_underlying (Al ht),A5 (A4 hi'),hsz,hle]
  by_cases hch:cap=h
  ·simp[hch]
  ·rw[if_neg hch,if_neg (by omega)]
 cases hv with
 |oslNil _ _ sz2 xs2 ad hH' hβ=>
  obtain⟨rfl,rfl⟩:=hvec2 _ _ hH';obtain rfl:h=0:=by omega
  refine⟨_,_,w,β,H,m,hrun ad 0 rfl (Ara _),.inl rfl,hs,Fr.refl w β H,?_,Ar6 _⟩;simp only[V.conv,Ref.conv,hr];exact .oslNil r g sz2 xs2 _ hH hβ
 |oslBlk _ _ _ _ sz2 xs2 b N ad cap hH' hβ hl hN hcap ha hlen=>
  obtain⟨rfl,rfl⟩:=hvec2 _ _ hH';refine⟨_,_,w,β,H,m,hrun ad cap rfl hl,.inl rfl,hs,Fr.refl w β H,?_,Ar6 _⟩;simp only[V.conv,Ref.conv,hr];refine .oslBlk r g (off+h) (l-h) sz2 xs2 b N _ _ hH hβ (by omega) (by rw[show off+h+ (cap-h)=off+cap by omega];exact hN) (by omega) (λhc=> ?_) (by omega);rw[if_neg (by omega),ha (by omega)];simp[Addr.add,Asn]
 |oslStale _ _ _ _ g' sz' xs' _ hH' hg=>
  rw[hH] at hH';injection hH' with hH'
  injection hH' with hH'
  injection hH' with e0 _ _
  omega
 |oslDead _ _ _ _ _ hd=>rw[hH] at hd;cases hd
end
mutual
def V.retB (s:Nat):V->Bool
 | .osl (.loc _) _ _ _=>true
 | .tup vs=>V.retL s vs
 |v=>v.apart [s]
def V.retL (s:Nat):List V->Bool
 | []=>true
 |v::vs=>v.retB s&&V.retL s vs
end
def rowsB (s:Nat):Heap->Bool
 | []=>true
 |some (.vec _ _ xs)::T=>V.apartL [s] xs&&rowsB s T
 |_::_=>false
theorem Kr {s:Nat}: ∀ {T:Heap},rowsB s T=true-> ∀(k:Nat) (o:Option HObj),T[k]?=some o-> ∃g sz xs,o=some (.vec g sz xs)∧V.apartL [s] xs=true
 | [],_,k,o,h=>by simp at h
 |some (.vec g sz xs)::T,hb,k,o,h=>by
  simp only[rowsB,Aq6] at hb;cases k with
  |zero=>
   simp only[Ar2,Option.some.injEq] at h;exact⟨g,sz,xs,h.symm,hb.1⟩
  |succ k=>exact Kr hb.2 k o (by simpa using h)
 |none::T,hb,_,_,_=>by simp[rowsB] at hb
 |some (.box _)::T,hb,_,_,_=>by simp[rowsB] at hb
 |some (.loop ..)::T,hb,_,_,_=>by simp[rowsB] at hb
 |some .dfr::T,hb,_,_,_=>by simp[rowsB] at hb
 |some (.held _)::T,hb,_,_,_=>by simp[rowsB] at hb
mutual
theorem Oi {ss:List Nat}(m:List Nat): ∀v:V,v.apart ss=true->v.conv m=v
 | .agg cs,h=>by
  simp only[V.apart] at h;rw[V.conv,M7 m cs h]
 | .tup cs,h=>by
  simp only[V.apart] at h;rw[V.conv,M7 m cs h]
 | .iface t v,h=>by
  simp only[V.apart] at h;rw[V.conv,Oi m v h]
 | .int ..,_| .bool _,_| .tt,_| .ff,_| .str _,_| .sl ..,_| .nilsl,_| .nilp,_| .nilf,_| .nili,_| .nilmap,_| .undef,_=>rfl
 | .osl ..,h| .iptr ..,h| .ptr ..,h| .eptr ..,h| .fn ..,h| .yld _,h=>by simp[V.apart] at h
theorem M7 {ss:List Nat}(m:List Nat): ∀vs:List V,V.apartL ss vs=true->V.convL m vs=vs
 | [],_=>rfl
 |v::vs,h=>by
  simp only[V.apartL,Aq6] at h;rw[V.convL,Oi m v h.1,M7 m vs h.2]
end
theorem Rep.carried {w:World}{β1 β2:Nat->Loc}{H1 H2:Heap}{s:Nat}(hf: ∀b sz,sz≠s->freeB β1 H1 b sz->freeB β2 H2 b sz){v:V}{u:Value}(h:Rep w β1 H1 v u):v.apart [s]=true->Rep w β2 H2 v u:=by
 induction h with
 |int k n=>exact λ_=>.int k n
 |bool b=>exact λ_=>.bool b
 |tt=>exact λ_=>.tt
 |ff=>exact λ_=>.ff
 |str s h=>exact λ_=>.str s h
 |nilsl=>exact λ_=>.nilsl
 |nilp=>exact λ_=>.nilp
 |nilf=>exact λ_=>.nilf
 |nili=>exact λ_=>.nili
 |nilmap=>exact λ_=>.nilmap
 |undef v=>exact λ_=>.undef v
 |sl sz xs a cap vals hcap hmax hsz ha hr ih=>
  intro hp;simp only[V.apart,Aq6,Atn] at hp;refine .sl sz xs a cap vals hcap hmax hsz (λhne=> ?_) (λi x j c h1 h2=>ih i x j c h1 h2 (Gm (Cd hp.2 x (Aq7 h1)) c (Aq7 h2)));obtain⟨ad,e,h1,h2⟩:=ha hne;refine⟨ad,e,hf _ _ (λe=> ?_) h1,h2⟩;have:=hp.1;rw[e] at this;simp at this
 |agg cs vs hl h ih=>
  intro hp;simp only[V.apart] at hp;exact .agg cs vs hl λj c v hj hv=>ih j c v hj hv (Cd hp c (Aq7 hj))
 |tup cs vs hl h ih=>
  intro hp;simp only[V.apart] at hp;exact .tup cs vs hl λj c v hj hv=>ih j c v hj hv (Cd hp c (Aq7 hj))
 |iface t x v h ih=>
  intro hp;simp only[V.apart] at hp;exact .iface t x v (ih hp)
 |_=>intro hp;simp[V.apart] at hp
theorem Abi {s:Nat}: ∀ {vs:List V},V.retL s vs=true-> ∀v∈vs,v.retB s=true
 | [],_,v,h=>by cases h
 |x::vs,hg,v,h=>by
  simp only[V.retL,Aq6] at hg
  rcases Arl.1 h with rfl|h
  ·exact hg.1
  ·exact Abi hg.2 v h
theorem Rep.handed {w:World}{β1 β2:Nat->Loc}{H1 H2:Heap}{s n:Nat}{m1:List Nat}(hf: ∀b sz,sz≠s->freeB β1 H1 b sz->freeB β2 H2 b sz)(hn: ∀r,n≤r->H2[r]?=H1[r]?∧β2 r=β1 r)(hm: ∀r∈m1,n≤r):
  ∀(v:V) {u:Value},v.retB s=true->Rep w β1 H1 (v.conv m1) u->Rep w β2 H2 (v.conv m1) u:=by
 intro v
 induction v using V.rec (motive_2:=λvs=> ∀v∈vs,∀ {u:Value},v.retB s=true->Rep w β1 H1 (v.conv m1) u->Rep w β2 H2 (v.conv m1) u) with
 |osl r g off len=>
  intro u hb h;cases r with
  |loc k=>
   simp only[V.conv,Ref.conv] at h ⊢;cases e:m1[k]? with
   |none=>rw[e] at h;cases h
   |some r=>
    rw[e] at h;simp only at h ⊢;obtain⟨h1,h2⟩:=hn r (hm r (Aq7 e));cases h with
    |oslNil _ _ sz2 xs2 ad hH' hβ=>exact .oslNil _ _ _ _ _ (h1.trans hH') (h2.trans hβ)
    |oslBlk _ _ _ _ sz2 xs2 b N ad cap hH' hβ hl hN hcap ha hlen=>exact .oslBlk _ _ _ _ _ _ _ _ _ _ (h1.trans hH') (h2.trans hβ) hl hN hcap ha hlen
    |oslStale _ _ _ _ g' sz' xs' _ hH' hg hv=>exact .oslStale _ _ _ _ _ _ _ _ (h1.trans hH') hg hv
    |oslDead _ _ _ _ _ hd hv=>exact .oslDead _ _ _ _ _ (h1.trans hd) hv
  |abs _=>simp[V.retB,V.apart] at hb
  |bad=>simp[V.retB,V.apart] at hb
 |tup vs ih=>
  intro u hb h;simp only[V.retB] at hb;simp only[V.conv] at h ⊢;cases h with
  |tup _ us hl h=>
   refine .tup _ us hl λj c v hj hv=> ?_;have h1:=h j c v hj hv;rw[Kn,Asu] at hj;obtain⟨c0,hc0,rfl⟩:=hj;exact ih c0 (Aq7 hc0) (Abi hb c0 (Aq7 hc0)) h1
 |nil=>
  rename_i v hv u hb h;cases hv
 |cons v vs ih1 ih2=>
  rename_i x hx u hb h
  rcases Arl.1 hx with rfl|hx
  ·exact ih1 hb h
  ·exact ih2 x hx hb h
 |_=>
  intro u hb h;simp only[V.retB] at hb;rw[Oi m1 _ hb] at h ⊢;exact h.carried hf hb
theorem Dm {c:Cx}{g:FuncId}{args args':List V}{E:Env}{T:Heap}{K:V->St->Prop}{Q:V->Heap->Prop}(s:Nat)(hf:Fun c.P g [] args' Q)(hz:LtL T s args args')(ha':V.pureL args'=true)
  (hx: ∀x T',Q x T'->x.retB s=true∧rowsB s T'=true) (h: ∀x T',Q x T'->catC T T' λT2=>K (x.ren (rangeFrom T.length T'.length)) ⟨E,T2,c.B,c.D⟩):CallThen c g args E T K:=by
 unfold Fun at hf;unfold CallThen;refine⟨hf.1,λw β H m a vals cs hs hl hr=> ?_⟩;obtain⟨hzl,hzg⟩:=hz.get;have hs0:SRel [] 0 w β (sealH (λ_=>s) H) [] ⟨[],[],λr=>((sealH (λ_=>s) H)[r]?).getD none,[]⟩ bare:=by
  refine⟨hs.hrel.sealed (λ_=>s),rfl,λk=>by simp[lk,V.conv];exact .undef _,rfl,At5,by simp,rfl,λr h _=> ?_,λr h1=> ?_,by simp,by simp,by simp,rfl,by simp⟩
  ·simp only;rw[Aq3 h];rfl
  ·simp only;rw[Asq h1];rfl
 obtain⟨x,T',v,w',β1,H1,m1,fr,hq,k1,k2,k3,k4⟩:=hf.2 w β (sealH (λ_=>s) H) [] _ vals cs hs0 (hzl.symm.trans hl) (λj y v hj hv=>by
  obtain⟨x0,h1,h2⟩:=hzg j y hj;have h3:=hr j x0 v h1 hv;rw[Ao _ _ (C3 _ ha' y (Aq7 hj))];refine(h2.conv hs.mlen hs.loc).rep hs.hrel (λq o hq=> ?_) h3;have hq:(H[q]?).join=some o:=hq;cases e:H[q]? with
  |none=>rw[e] at hq;cases hq
  |some z=>
   rw[e] at hq;have hq:z=some o:=hq;rw[hq])
 obtain⟨hxr,hxT⟩:=hx x T' hq;have h:=h x T' hq;rw[Rs] at h;have hm1l:m1.length=T'.length:=k1.mlen;have hml:m.length=T.length:=hs.mlen;have hlen:H.length≤H1.length:=by have:=k2.len;rwa [L8] at this
 have hseal: ∀r o,(sealH (λ_=>s) H)[r]?=some (some o)->H1[r]?=some (some o)∧β1 r=β r:=λr o ho=>by
  obtain⟨o',_,rfl⟩:=He ho;have hlt:r< (sealH (λ_=>s) H).length:=Ab ho;have hlt1:r<H1.length:=Asl hlt k2.len;have hnm:r∉m1:=λhm=>by
   obtain⟨i,hi⟩:=Ar7 hm;have:=k1.own i r (Aq4 _) hi;simp only at this;rw[ho] at this;cases this
  have hH':H1[r]?=some (some (sealO s o')):=by
   have:=k1.base r hlt1 hnm;simp only at this;rw[this,ho];rfl
  refine⟨hH',?_⟩;obtain⟨t,e⟩:=Oh s o';rw[e] at hH';exact(k2.seals r t hH').2
 have hfresh: ∀r∈m1,H.length≤r:=λr hr=>by
  obtain⟨i,hi⟩:=Ar7 hr;have hiT:i<T'.length:=by have:=Ab hi;omega
  obtain⟨g0,sz0,xs0,ho,_⟩:=Kr hxT i _ (Aq3 hiT);have hH1:=k1.loc i r _ hi (Aq3 hiT);rw[ho] at hH1;have hz:=k1.own i r (Aq4 _) hi;simp only at hz
  rcases Ar3 r H.length with h1|h1
  ·obtain⟨o1,e1,_⟩:=k2.evo r _ (by rw[L8];exact h1) hH1;rw[e1] at hz;cases hz
  ·exact h1
 obtain⟨H',hH'⟩: ∃H',H'=H++H1.drop H.length:=⟨_,rfl⟩;obtain⟨β',hβ'⟩: ∃β':Nat->Loc,β'=λr=>if r<H.length then β r else β1 r:=⟨_,rfl⟩
 have hH'l:H'.length=H1.length:=by rw[hH',Arb,Asf];omega
 have hold: ∀r,r<H.length->H'[r]?=H[r]?∧β' r=β r:=λr hr=>⟨by rw[hH',Aq9 hr],by rw[hβ'];simp[hr]⟩;have hnew: ∀r,H.length≤r->H'[r]?=H1[r]?∧β' r=β1 r:=λr hr=>⟨by
  rw[hH',Arh hr,As8,At4 hr],by rw[hβ'];simp[Nat.not_lt.2 hr]⟩
 have hfree: ∀b sz,sz≠s->freeB β1 H1 b sz->freeB β' H' b sz:=λb sz hne hfb=>by
  refine⟨?_,λr t N hr hb=> ?_⟩
  ·rintro⟨r,N,⟨o,ho,hns⟩,hb⟩
   rcases Ar3 r H.length with h1|h1
   ·obtain⟨e1,e2⟩:=hold r h1;rw[e1] at ho;rw[e2] at hb;obtain⟨q1,q2⟩:=hseal r (.held s) (by rw[Jp,ho];simp[U5 hns]);exact hne (hfb.2 r s N q1 (q2.trans hb)).symm
   ·obtain⟨e1,e2⟩:=hnew r h1;exact hfb.1 ⟨r,N,⟨o,by rw[←e1];exact ho,hns⟩,by rw[←e2];exact hb⟩
  ·rcases Ar3 r H.length with h1|h1
   ·obtain⟨e1,e2⟩:=hold r h1;rw[e1] at hr;rw[e2] at hb;obtain⟨q1,q2⟩:=hseal r (.held t) (by rw[Jp,hr];rfl);exact hfb.2 r t N q1 (q2.trans hb)
   ·obtain⟨e1,e2⟩:=hnew r h1;exact hfb.2 r t N (by rw[←e1];exact hr) (by rw[←e2];exact hb)
 have hkeep: ∀b,b<w.heap.size->w'.heap[b]?=w.heap[b]?:=λb hb=>k2.keep b hb (Jq b);have f:Fr w β H w' β' H':=by
  refine⟨⟨k2.os,k2.tape,k2.output,k2.size,by omega,λr o' hr ho'=> ?_,λb hb _=>hkeep b hb,?_,λr hr=>(hold r hr.lt).2,λr t ht=> ?_⟩,λr hr hn=>by rw[(hold r hr).2];exact hn⟩
  ·rw[(hold r hr).1] at ho';exact⟨o',ho',Evo.refl _,λ_ _=>(hold r hr).2⟩
  ·rintro b ⟨r,N,⟨o,ho,hns⟩,hb⟩
   rcases Ar3 r H.length with h1|h1
   ·obtain⟨e1,e2⟩:=hold r h1;exact .inr ⟨r,N,⟨o,by rw[←e1];exact ho,hns⟩,by rw[←e2];exact hb⟩
   ·obtain⟨e1,e2⟩:=hnew r h1
    rcases k2.fresh b ⟨r,N,⟨o,by rw[←e1];exact ho,hns⟩,by rw[←e2];exact hb⟩ with q|q
    ·exact .inl q
    ·exact absurd q (Jq b)
  ·rcases Ar3 r H.length with h1|h1
   ·obtain⟨e1,e2⟩:=hold r h1;exact⟨by rw[←e1];exact ht,e2⟩
   ·obtain⟨e1,_⟩:=hnew r h1;have:=(k2.seals r t (by rw[←e1];exact ht)).1;have:=Ab this;rw[L8] at this;omega
 have hmk: ∀(r:Nat) (o:HObj),H.length≤r->H1[r]?=some (some o)-> ∃g0 sz0 xs0,o=.vec g0 sz0 xs0∧V.apartL [s] xs0=true:=λr o hr ho=>by
  by_cases hm:r∈m1
  ·obtain⟨i,hi⟩:=Ar7 hm;have hiT:i<T'.length:=by have:=Ab hi;omega
   obtain⟨g0,sz0,xs0,h1,h2⟩:=Kr hxT i _ (Aq3 hiT);have hH1:=k1.loc i r _ hi (Aq3 hiT);rw[h1,ho] at hH1;injection hH1 with hH1
   injection hH1 with hH1
   exact⟨g0,sz0,xs0,hH1,h2⟩
  ·have:=k1.base r (Ab ho) hm;simp only at this;rw[ho,Asq (by rw[L8];exact hr)] at this;cases this
 have hrel:HRel w' β' H':=by
  refine⟨λr o ho=> ?_,?_⟩
  ·rcases Ar3 r H.length with h1|h1
   ·obtain⟨e1,e2⟩:=hold r h1;rw[e1] at ho;rw[e2];have hob:=hs.hrel.obj r o ho;exact hob.mono f.toFr0 λb N hb=>hkeep b (hs.hrel.lt ⟨o,ho⟩ hb)
   ·obtain⟨e1,e2⟩:=hnew r h1;rw[e1] at ho;rw[e2];obtain⟨g0,sz0,xs0,rfl,hap⟩:=hmk r o h1 ho;have hob:=k1.hrel.obj r _ ho;cases hβ:β1 r with
    |none=>rw[hβ] at hob;exact hob
    |nil=>rw[hβ] at hob;exact hob
    |blk b N=>
     rw[hβ] at hob;obtain⟨vs,e,q0,q1,q2,q3,q4,q5,q6⟩:=hob;exact⟨vs,e,q0,q1,q2,q3,q4,q5,λi x j c v hi hj hv=>(q6 i x j c v hi hj hv).carried hfree (Gm (Cd hap x (Aq7 hi)) c (Aq7 hj))⟩
  ·have up: ∀r b N,live H' r->β' r=.blk b N->live H1 r∧β1 r=.blk b N:=λr b N hl hb=>by
    obtain⟨o,ho⟩:=hl
    rcases Ar3 r H.length with h1|h1
    ·obtain⟨e1,e2⟩:=hold r h1;rw[e1] at ho;rw[e2] at hb;obtain⟨q1,q2⟩:=hseal r (sealO s o) (by rw[Jp,ho];rfl);exact⟨⟨_,q1⟩,q2.trans hb⟩
    ·obtain⟨e1,e2⟩:=hnew r h1;exact⟨⟨o,by rw[←e1];exact ho⟩,by rw[←e2];exact hb⟩
   intro r r' b N N' hl hl' hb hb';obtain⟨p1,p2⟩:=up r b N hl hb;obtain⟨p3,p4⟩:=up r' b N' hl' hb';exact k1.hrel.inj r r' b N N' p1 p3 p2 p4
 obtain⟨m',hm'⟩: ∃m',m'=m++m1:=⟨_,rfl⟩;have hsub:Sub (rangeFrom T.length T'.length) m' m1:=by
  refine⟨by rw[Es];exact hm1l,λi k hk=> ?_⟩;have hi:=Ab hk;rw[Es] at hi;rw[Ia _ _ _ hi] at hk;injection hk with hk
  subst hk;have e:=Aq3 (show i<m1.length by omega);exact⟨_,by rw[hm',Arh (by omega),hml,Auj];exact e,e⟩
 have hext: ∀u:V,u.sc m.length->u.conv m'=u.conv m:=λu hu=>by rw[hm'];exact V.conv_ext (Ara _) u hu
 refine⟨_,_,v,w',β',H',m',fr,h,?_,f,?_,k4.1,k4.2.1,k4.2.2,by rw[hm'];exact Atl _ _⟩
 ·refine⟨hrel,hs.size,λk=> ?_,by rw[hm'];simp[hml,hm1l],?_,λk r o hk ho'=> ?_,?_,λr hr hn=> ?_,λr hr=>hs.fut r (by omega),λk r hk hm=> ?_,λp hp=> ?_,λk o ho'=> ?_,hs.defs,λj k hj=> ?_⟩
  ·simp only;rw[hext _ (by have:=U4 E k hs.scE;rwa [hml])];exact(hs.env k).mono f
  ·rw[hm'];refine As7.2 ⟨hs.nodup,k1.nodup,λa ha b hb e=> ?_⟩;subst e;obtain⟨j,hj⟩:=Ar7 ha;have:=hs.lt hj;have:=hfresh _ hb;omega
  ·simp only at ho';rw[hm'] at hk
   rcases Ar3 k m.length with h1|h1
   ·rw[Aq9 h1] at hk;rw[Aq9 (by omega)] at ho';rw[(hold r (hs.lt hk)).1,hs.loc k r o hk ho'];cases o with
    |none=>rfl
    |some o=>
     simp only[Atq,Option.some.injEq];have:=hs.scT k o ho';rw[hm'];exact(HObj.conv_ext (Ara _) o (by rw[hml];exact this)).symm
   ·rw[Arh h1] at hk;rw[Arh (by omega),←hml] at ho';have hr:=hfresh r (Aq7 hk);rw[(hnew r hr).1,k1.loc _ r o hk ho'];obtain⟨g0,sz0,xs0,rfl,_⟩:=Kr hxT _ _ ho';rfl
  ·have:=hs.imp;rw[hm',As9]
   ·exact this
   ·have:=congrArg List.length this;simp at this;omega
  ·simp only;have hrm:r∉m:=λhm=>hn (by rw[hm'];exact Ar0 _ hm);have hr1:r∉m1:=λhm=>hn (by rw[hm'];exact Art _ hm)
   rcases Ar3 r H.length with h1|h1
   ·rw[(hold r h1).1];exact hs.base r h1 hrm
   ·rw[(hnew r h1).1,k1.base r (by omega) hr1];have e0:c.B r=none:=hs.fut r h1;simp only;rw[Asq (by rw[L8];exact h1),e0];rfl
  ·rw[hm'] at hm
   rcases Ar3 k m.length with h1|h1
   ·rw[Aq9 h1] at hm;exact hs.own k r hk hm
   ·rw[Arh h1] at hm;exact hs.fut r (hfresh r (Aq7 hm))
  ·simp only;rw[Arb];exact V.sc_mono (n:=T.length) (by omega) _ (hs.scE p hp)
  ·simp only at ho' ⊢;rw[Arb]
   rcases Ar3 k T.length with h1|h1
   ·rw[Aq9 h1] at ho';exact HObj.sc_mono (n:=T.length) (by omega) _ (hs.scT k o ho')
   ·rw[Arh h1] at ho';obtain⟨g0,sz0,xs0,e,_⟩:=Kr hxT _ _ ho';injection e with e
    subst e;trivial
  ·obtain⟨r',b,N,h1,h2,h3,h4⟩:=hs.marks j k hj;refine⟨r',b,N,by rw[hm',Aq9 (Ab h1)];exact h1,?_,by rw[(hold r' (hs.lt h1)).2];exact h3,h4⟩;simp only at h2 ⊢;rw[Aq9 (Ab h2)];exact h2
 ·rw[V.ren_conv hsub x (by rw[Es,←hm1l];exact De x k3)];exact Rep.handed hfree hnew hfresh x hxr k3
section
variable {c:Cx} {ops:Array Oper} {i:Nat} {o:Oper} {E:Env} {T:Heap} {gs:List Tmp}
theorem Afh {tc:List Nat}{x:V}{eff:List (Nat×Option HObj)}(ho:ops[i]?=some o)(hg:Guarded ops o E gs true)(hnd: ∀cl,o.op≠ .defer cl)
  (h: ∀E' T',(∀z∈o.op.operands.toList,opd E' z=opd E z)->T'.length=T.length->(∀k∈tc,T'[k]?=T[k]?)->OpTo c o.op E' T' x (app T' eff)):Fact c ops i E T ⟨o.dst,gs++tmpsOf o.op.operands.toList,tc,x,eff,none⟩:=by
 intro E' T' e1 e2 e3 w β H m a b cs rest k hs k1 k2 _;have hto:=h E' T' (Gx λt ht=>e2 t (Art _ ht)) e1 e3;obtain⟨nx,v,w',β',H',m',hrun,hnx,g1,g2,g3,g4⟩:=hto o rfl w β H m a hs;have hmm:m=m':=g4.eq_of_length (by
  have a1:=hs.mlen;have a2:=g1.mlen;simp only[Cc] at a1 a2;rw[a1,a2])
 subst hmm;exact⟨v,w',β',H',Xj ho (hg.wanted (λt ht=>e2 t (Ar0 _ ht)) hs) hnd hrun hnx,g1,g2.toFr0,λq hq hn _=>g2.virt q hq hn,g3⟩
theorem Jt {f:Operand}{args:Array Operand}{ts:Array TypeId}{g:FuncId}{first cap:List V}{tc:List Nat}{x:V}{eff:List (Nat×Option HObj)}(ho:ops[i]?=some o)(hg:Guarded ops o E gs true)
  (hop:o.op=.call {callee:=.value f,args:=args,argTypes:=ts}) (hf:opd E f=.fn (.func g) first cap)
  (h: ∀E' T',T'.length=T.length->(∀k∈tc,T'[k]?=T[k]?)->CallThen c g (first++args.toList.map (opd E)++cap) E' T' (λy s'=>y=x∧s'=⟨E',app T' eff,c.B,c.D⟩)):Fact c ops i E T ⟨o.dst,gs++tmpsOf o.op.operands.toList,tc,x,eff,none⟩:=by
 intro E' T' e1 e2 e3 w β H m a b cs rest k hs k1 k2 _;have hag:=Gx (E:=E) (E':=E') (xs:=o.op.operands.toList) λt ht=>e2 t (Art _ ht);rw[hop] at hag;have hf':opd E' f=.fn (.func g) first cap:=by rw[hag f (by simp[Op.operands,Call.operands])];exact hf
 have ha':args.toList.map (opd E')=args.toList.map (opd E):=Atj λz hz=>hag z (by simp[Op.operands,Call.operands];exact .inr (by simpa using hz));obtain⟨va,vc,hq,hl,hr⟩:=Uq hs hf' args;rw[ha'] at hl hr;have hc:=h E' T' e1 e3;unfold CallThen at hc;obtain⟨hen,hc⟩:=hc;obtain⟨y,s',v,w',β',H',m',fr,⟨rfl,rfl⟩,g1,g2,g3,g4,g5,g6,g7⟩:=hc w β H m a _ (b.atR a (.inRegion ops (i::rest)::k)::cs) hs hl hr;have hmm:m=m':=g7.eq_of_length (by
  have a1:=hs.mlen;have a2:=g1.mlen;simp only[Cc] at a1 a2;rw[a1,a2])
 subst hmm;exact⟨v,w',β',H',Lf ho (hg.wanted (λt ht=>e2 t (Ar0 _ ht)) hs) hop hq hen g4 g6,g1,g2.toFr0,λq hq hn _=>g2.virt q hq hn,g3⟩
theorem Qc {f:Operand}{args:Array Operand}{ts:Array TypeId}{g:FuncId}{first cap:List V}{tc:List Nat}{p sz:Nat}{xs:List V}(ho:ops[i]?=some o)(hg:Guarded ops o E gs true)
  (hop:o.op=.call {callee:=.value f,args:=args,argTypes:=ts}) (hf:opd E f=.fn (.func g) first cap) (hd:T[p]?=some (some (.vec 0 0 [])))
  (h: ∀E' T',T'.length=T.length->(∀k∈tc,T'[k]?=T[k]?)->CallThen c g (first++args.toList.map (opd E)++cap) E' T' (λy s'=> ∃g0,y=.osl (.loc T'.length) g0 0 xs.length∧s'=⟨E',T'++ [some (.vec g0 sz xs)],c.B,c.D⟩)):
  Fact c ops i E T ⟨o.dst,gs++tmpsOf o.op.operands.toList,tc,.osl (.loc p) 2 0 xs.length,[(p,some (.vec 2 sz xs))],some p⟩:=by
 intro E' T' e1 e2 e3 w β H m a b cs rest k hs b1 b2 b4;obtain⟨q,q1,q2,q3⟩:=b4 p rfl;have hag:=Gx (E:=E) (E':=E') (xs:=o.op.operands.toList) λt ht=>e2 t (Art _ ht);rw[hop] at hag;have hf':opd E' f=.fn (.func g) first cap:=by rw[hag f (by simp[Op.operands,Call.operands])];exact hf
 have ha':args.toList.map (opd E')=args.toList.map (opd E):=Atj λz hz=>hag z (by simp[Op.operands,Call.operands];exact .inr (by simpa using hz));obtain⟨va,vc,hq,hl,hr⟩:=Uq hs hf' args;rw[ha'] at hl hr;have hc:=h E' T' e1 e3;unfold CallThen at hc;obtain⟨hen,hc⟩:=hc;obtain⟨y,s',v,w',β',H',m',fr,⟨g0,rfl,rfl⟩,k1,k2,k3,k4,k5,k6,k7⟩:=hc w β H m a _ (b.atR a (.inRegion ops (i::rest)::k)::cs) hs hl hr;have hml:m.length=T'.length:=hs.mlen;have hm'l:m'.length=T'.length+1:=by have:=k1.mlen;simpa using this
 obtain⟨r',rfl⟩: ∃r',m'=m++ [r']:=by
  obtain⟨l,rfl⟩:=k7;have:l.length=1:=by rw[Arb] at hm'l;omega
  match l,this with
  | [r'],_=>exact⟨r',rfl⟩
 have hmr:(m++ [r'])[T'.length]?=some r':=by rw[Arh (by omega),hml,Aub];rfl
 have hmm: ∀(j r:Nat),m[j]?=some r->(m++ [r'])[j]?=some r:=λj r hj=>by rw[Aq9 (Ab hj)];exact hj
 have hTT: ∀j,j<T'.length->(T'++ [some (.vec g0 sz xs)])[j]?=T'[j]?:=λj hj=>Aq9 hj;have hr':H'[r']?=some (some (.vec g0 sz xs)):=k1.loc T'.length r' (some (.vec g0 sz xs)) hmr (by simp);have hr'l:=Ab hr';have hql:=hs.lt q1;have hpT:p<T'.length:=by have:=Ab q1;omega
 have hT'p:T'[p]?=some (some (.vec 0 0 [])):=q3.trans hd;have hH'q:H'[q]?=some (some (.vec 0 0 [])):=k1.loc p q (some (.vec 0 0 [])) (hmm p q q1) (by rw[hTT p hpT];exact hT'p);have hqr:q≠r':=λe=>by
  have:=k1.inj (hmm p q q1) (by rw[e];exact hmr);omega
 have hlen:H.length≤H'.length:=k2.len;have hβ'q:β' q=.none:=k2.virt q hql q2;have hob:=k1.hrel.obj r' _ hr';obtain⟨H2,hH2⟩: ∃H2:Heap,H2=(H'.set r' none).set q (some (.vec 2 sz xs)):=⟨_,rfl⟩;obtain⟨β2,hβ2⟩: ∃β2:Nat->Loc,β2=upd β' q (β' r'):=⟨_,rfl⟩;have hβq:β2 q=β' r':=by rw[hβ2];exact Aq _ _ _
 have hβn: ∀r,r≠q->β2 r=β' r:=λr hr=>by rw[hβ2];exact Am hr
 have hH2l:H2.length=H'.length:=by rw[hH2];simp
 have hH2q:H2[q]?=some (some (.vec 2 sz xs)):=by rw[hH2];exact As5 (by simp;omega)
 have hH2r:H2[r']?=some none:=by rw[hH2,Arj hqr,As5 hr'l]
 have hH2n: ∀r,r≠q->r≠r'->H2[r]?=H'[r]?:=λr h1 h2=>by rw[hH2,Arj (λe=>h1 e.symm),Arj (λe=>h2 e.symm)]
 have hcase: ∀(r:Nat) (o:HObj),H2[r]?=some (some o)->(r=q∧o=.vec 2 sz xs)∨(r≠q∧r≠r'∧H'[r]?=some (some o)):=λr o hr=>by
  by_cases h1:r=q
  ·subst h1;rw[hH2q] at hr;injection hr with hr
   injection hr with hr
   exact .inl ⟨rfl,hr.symm⟩
  ·by_cases h2:r=r'
   ·subst h2;rw[hH2r] at hr;cases hr
   ·rw[hH2n r h1 h2] at hr;exact .inr ⟨h1,h2,hr⟩
 have f:Fr0 w' β' H' w' β2 H2:=by
  refine⟨rfl,rfl,rfl,Ara _,by rw[hH2l];exact Ara _,?_,λ_ _ _=>rfl,?_,λr hr=>hβn r (hr.ne hH'q (λh=>h)),λr s hs=> ?_⟩
  ·intro r o' _ ho'
   rcases hcase r o' ho' with⟨rfl,rfl⟩| ⟨h1,_,h3⟩
   ·exact⟨_,hH'q,⟨Aq4 _,λe=>by omega⟩,λhn=>absurd hβ'q hn⟩
   ·exact⟨o',h3,Evo.refl _,λ_ _=>hβn r h1⟩
  ·rintro bb ⟨r,M,⟨o',hl',hln⟩,hb⟩
   rcases hcase r o' hl' with⟨rfl,_⟩| ⟨h1,_,h3⟩
   ·rw[hβq] at hb;exact .inr ⟨r',M,⟨_,hr',λh=>h⟩,hb⟩
   ·rw[hβn r h1] at hb;exact .inr ⟨r,M,⟨_,h3,hln⟩,hb⟩
  ·rcases hcase r _ hs with⟨_,h2⟩| ⟨h1,_,h3⟩
   ·cases h2
   ·exact⟨h3,hβn r h1⟩
 have hrel:HRel w' β2 H2:=by
  refine k1.hrel.step0 f ?_ ?_
  ·intro r o' ho'
   rcases hcase r o' ho' with⟨rfl,rfl⟩| ⟨h1,_,h3⟩
   ·refine .inr ?_;rw[hβq];cases hb:β' r' with
    |none=>rw[hb] at hob;exact hob
    |nil=>rw[hb] at hob;exact hob
    |blk bb N=>
     rw[hb] at hob;obtain⟨vs,e,_,c2,c3,c4,c5,c6,c7⟩:=hob;exact⟨vs,e,Afe _,c2,c3,c4,c5,c6,λi x j c v h1 h2 h3=>(c7 i x j c v h1 h2 h3).mono0 f⟩
   ·exact .inl ⟨h3,hβn r h1,λ_ _ _=>rfl⟩
  ·rintro r s bb M M' ⟨o1,h1⟩ ⟨o2,h2⟩ hb hb'
   rcases hcase r o1 h1 with⟨rfl,_⟩| ⟨n1,n2,l1⟩
   ·rcases hcase s o2 h2 with⟨rfl,_⟩| ⟨n3,n4,l2⟩
    ·rfl
    ·rw[hβq] at hb;rw[hβn s n3] at hb';exact absurd (k1.hrel.inj r' s bb M M' ⟨_,hr'⟩ ⟨_,l2⟩ hb hb').symm n4
   ·rcases hcase s o2 h2 with⟨rfl,_⟩| ⟨n3,n4,l2⟩
    ·rw[hβq] at hb';rw[hβn r n1] at hb;exact absurd (k1.hrel.inj r r' bb M M' ⟨_,l1⟩ ⟨_,hr'⟩ hb hb') n2
    ·rw[hβn r n1] at hb;rw[hβn s n3] at hb';exact k1.hrel.inj r s bb M M' ⟨_,l1⟩ ⟨_,l2⟩ hb hb'
 have ft:Fr0 w β H w' β2 H2:=k2.toFr0.trans f;have hnr: ∀(j r:Nat),m[j]?=some r->r≠r':=λj r hj e=>by
  have:=k1.inj (hmm j r hj) (by rw[e];exact hmr);have:=Ab hj;omega
 have himp:c.imps.length≤m.length:=by
  have:=congrArg List.length hs.imp;simp at this;omega
 have hsr:SRel c.imps c.nt w' β2 H2 m ⟨E',T'.set p (some (.vec 2 sz xs)),c.B,c.D⟩ a:=by
  refine⟨hrel,hs.size,λk=>(hs.env k).mono0 ft,by simpa using hml,hs.nodup,λj r ob hj hob'=> ?_,hs.imp,λr hr hm=> ?_,λr hr=>k1.fut r (by omega),hs.own,λp hp=>by simpa using hs.scE p hp,λj ob hob'=> ?_,hs.defs,λj n hj=> ?_⟩
  ·by_cases hjp:j=p
   ·subst hjp;rw[q1] at hj;injection hj with hj
    subst hj;simp only at hob';rw[As5 hpT] at hob';injection hob' with hob'
    subst hob';exact hH2q
   ·simp only at hob';rw[Arj (λe=>hjp e.symm)] at hob';have hrq:r≠q:=λe=>hjp (hs.inj hj (e▸q1));rw[hH2n r hrq (hnr j r hj),k1.loc j r ob (hmm j r hj) (by rw[hTT j (Ab hob')];exact hob')];cases ob with
    |none=>rfl
    |some ob=>
     simp only[Atq,Option.some.injEq];exact HObj.conv_ext (Ara _) ob (by rw[hml];exact hs.scT j ob hob')
  ·have hrq:r≠q:=λe=>hm (e▸Aq7 q1)
   by_cases hrr:r=r'
   ·subst hrr;have:c.B r=none:=k1.own T'.length r (by omega) hmr;simp only;rw[hH2r,this]
   ·rw[hH2n r hrq hrr];exact k1.base r (by omega) (λhmm'=>by
     rcases Asi.1 hmm' with h1|h1
     ·exact hm h1
     ·exact hrr (Ar5.1 h1))
  ·simp only[Atp] at hob' ⊢
   by_cases hjp:j=p
   ·subst hjp;rw[As5 hpT] at hob';injection hob' with hob'
    injection hob' with hob'
    subst hob';trivial
   ·rw[Arj (λe=>hjp e.symm)] at hob';exact hs.scT j ob hob'
  ·obtain⟨r,b',N',d1,d2,d3,d4⟩:=k1.marks j n hj;simp only at d2;have hnT:n<T'.length:=by
    have:=Ab d2;simp at this
    rcases Ar3 n T'.length with h1|h1
    ·exact h1
    ·have:n=T'.length:=by omega
     subst this;simp at d2
   rw[hTT n hnT] at d2;rw[Aq9 (by omega)] at d1;have hnp:n≠p:=λe=>by
    subst e;rw[hT'p] at d2;cases d2
   have hrq:r≠q:=λe=>hnp (hs.inj d1 (e▸q1));refine⟨r,b',N',d1,by simp only;rw[Arj (λe=>hnp e.symm)];exact d2,?_,d4⟩;rw[hβn r hrq];exact d3
 refine⟨v,w',β2,H2,Lf ho (hg.wanted (λt ht=>e2 t (Ar0 _ ht)) hs) hop hq hen k4 k6,hsr,ft,λs hsl hn hne=> ?_,?_⟩
 ·have hsq:s≠q:=λe=>hne p rfl (e▸q1);rw[hβn s hsq];exact k2.virt s hsl hn
 ·simp only[V.conv,Ref.conv,q1];simp only[V.conv,Ref.conv,hmr] at k3;have hv: ∀g2 sz2 xs2,H'[r']?=some (some (.vec g2 sz2 xs2))->g2=g0∧sz2=sz∧xs2=xs:=λg2 sz2 xs2 h2=>by
   rw[hr'] at h2;injection h2 with h2
   injection h2 with h2
   injection h2 with e0 e1 e2
   exact⟨e0.symm,e1.symm,e2.symm⟩
  generalize hn:xs.length=n at k3;cases k3 with
  |oslNil _ _ sz2 xs2 ad hH' hβ=>
   exact .oslNil q 2 sz xs ad hH2q (hβq.trans hβ)
  |oslBlk _ _ _ _ sz2 xs2 bb N ad cap' hH' hβ hl' hN hcap ha hlen'=>
   obtain⟨_,rfl,rfl⟩:=hv _ _ _ hH';exact .oslBlk q 2 0 n sz2 xs2 bb N ad cap' hH2q (hβq.trans hβ) hl' hN hcap ha hlen'
  |oslStale _ _ _ _ g' sz' xs' _ hH' hg'=>
   obtain⟨e,_,_⟩:=hv _ _ _ hH';omega
  |oslDead _ _ _ _ _ hd'=>rw[hr'] at hd';cases hd'
end
def spK:List (Nat×Bool)->Nat->Option Bool
 | [],_=>none
 | (j,b)::l,i=>bif Nat.beq j i then some b else spK l i
def spM (sp:List (Nat×Bool))(i:Nat)(o:Op):Bool:=makesS o|| (match spK sp i with|some b=>b|none=>false)
def evdX (sp:List (Nat×Bool))(c:Cx)(A:Array Oper)(gt:List Tmp):List Oper->Nat->Nat->Env->Heap->(Env->Heap->List Sig->Prop)->Prop
 | [],_,_,E,T,K=>K E T []
 |o::os,i,p,E,T,K=>
  let next (x:V) (T':Heap) (g touch keys:List Nat):Prop:=bif spM sp i o.op then putR c.nt gt o.dst x E λE'=>evdX sp c A gt os (i+1) (p+1) E' T' λEn Tn ss=>K En Tn (⟨o.dst,g,touch,keys⟩::ss) else putR c.nt gt o.dst x E λE'=>evdX sp c A gt os (i+1) p E' T' λEn Tn ss=>K En Tn (⟨o.dst,g,touch,keys⟩::ss)
  gK A.toList o E (λg=>next (.tup []) T g [] []) λg=>
   lfix (g++tmpsOf o.op.operands.toList) λg=>
   match spK sp i with
   |some b=> ∃(tc:List Nat) (x:V) (eff:List (Nat×Option HObj)),(∀gs,Guarded A o E gs true->Fact c A i E T ⟨o.dst,gs++tmpsOf o.op.operands.toList,tc,x,eff,bif b then some p else none⟩)∧(bif b then memB tc p=true∧p<T.length else True)∧lfix (keysOf eff) λks=>appC T eff λT'=>next x T' g tc ks
   |none=>
   bif makes E o.op then evMk c o.op E T p λx ob kills tc=>lfix tc λtc=>lfix (keysOf kills) λks=>appC T (kills++ [(p,some ob)]) λT'=>next x T' g (p::tc) (p::ks)
   else match o.op with
    | .call {callee:=.value f,args,.. }=>match opd E f with
     | .fn (.func h) first cap=>opds E args.toList λvs=>frzAll (first++vs++cap) T False λws _=>lfix (keysOf (killsOf (first++vs++cap))) λks=>
      ∃x,Pure c.P h ws (λy=>y=x)∧V.pureL ws=true∧bif flatB x then next x T g ks [] else appC T (killsOf (first++vs++cap)) λT'=>next x T' g ks ks
     |_=>False
    |op=>evOp c op E T False λx T'=>lfix (touch E op) λtc=>lfix (wr E op) λks=>next x T' g tc ks
theorem Abj: ∀ {l:List Nat} {n:Nat},memB l n=true->n∈l
 | [],n,h=>by cases h
 |x::l,n,h=>by
  rw[memB] at h;cases hb:Nat.beq x n with
  |true=>rw[Arn hb];exact Ari
  |false=>rw[hb] at h;exact Are _ (Abj h)
theorem U8 {sp:List (Nat×Bool)}{c:Cx}{ops:Array Oper}{gt:List Tmp}: ∀(os:List Oper) (i p:Nat) (E:Env) (T:Heap) (K:Env->Heap->List Sig->Prop),evdX sp c ops gt os i p E T K->(∀k,os[k]?=ops[i+k]?)->i+os.length=ops.size->
  ∃rs ss En Tn,RunP c ops i p E T rs ss En Tn∧K En Tn ss
 | [],i,p,E,T,K,h,_,hi=>⟨[],[],E,T,⟨by simpa using hi,rfl,rfl⟩,h⟩
 |o::os,i,p,E,T,K,h,hos,hi=>by
  unfold evdX at h
  extract_lets next at h
  have ho:ops[i]?=some o:=by have:=hos 0;simpa using this.symm
  have hos': ∀k,os[k]?=ops[i+1+k]?:=λk=>by have:=hos (k+1);rw[Asx] at this;rw[this,sa]
  have hi':i+1+os.length=ops.size:=by simp at hi;omega
  have hlt:i<ops.size:=by simp at hi;omega
  have go: ∀(r:Rec) (g tc ks:List Nat),Fact c ops i E T r->r.dst=o.dst->next r.x (app T r.eff) g tc ks->(∀t∈r.reads,t∈g)->(∀k∈r.touch,k∈tc)->(∀k∈keysOf r.eff,k∈ks)->
    (∀q,r.virt=some q->q=p∧p∈tc∧p<T.length∧spM sp i o.op=true)-> ∃rs ss En Tn,RunP c ops i p E T rs ss En Tn∧K En Tn ss:=by
   intro r g tc ks hf hd hn h1 h2 h3 h4;have hn:putR c.nt gt o.dst r.x E λE'=>evdX sp c ops gt os (i+1) (bif spM sp i o.op then p+1 else p) E' (app T r.eff) λEn Tn ss=>K En Tn (⟨o.dst,g,tc,ks⟩::ss):=by
    have h0:=hn;simp only[next] at h0;cases hm:spM sp i o.op<;>(rw[hm] at h0;exact h0)
   obtain⟨x',hk,hdst,hx⟩:=Agl hn;obtain⟨rs,ss,En,Tn,k1,k2⟩:=U8 os (i+1) _ _ _ _ hk hos' hi';refine⟨{r with x:=x'}::rs,⟨o.dst,g,tc,ks⟩::ss,En,Tn,⟨hf.put hx,by rw[hd];exact hdst,⟨hd.symm,h1,h2,h3,λq hq=> ?_⟩,hlt,(bif spM sp i o.op then p+1 else p),?_,?_,?_⟩,k2⟩
   ·obtain⟨e,hp,_⟩:=h4 q hq;rw[e];exact hp
   ·cases spM sp i o.op<;>simp
   ·intro q hq;obtain⟨e,_,hp,hm⟩:=h4 q hq;rw[hm];exact⟨e,Ara _,hp⟩
   ·rw[hd];exact k1
  rcases Aly h with⟨gs,hg,h⟩| ⟨gs,hg,h⟩
  ·exact go _ gs [] [] (Ail ho hg) rfl h (λt ht=>ht) (λk hk=>hk) (λk hk=>hk) (λq hq=>by cases hq)
  ·rw[Im] at h;cases hsp:spK sp i with
   |some b=>
    simp only[hsp] at h;obtain⟨tc,x,eff,hf,hb,hk⟩:=h;rw[Im,Rr] at hk;refine go _ _ _ _ (hf gs hg) rfl hk (λt ht=>ht) (λk hk=>hk) (λk hk=>hk) (λq hq=> ?_);cases b with
    |false=>cases hq
    |true=>
     simp only[cond_true] at hb hq;injection hq with hq
     subst hq;exact⟨rfl,Abj hb.1,hb.2,by unfold spM;rw[hsp];simp⟩
   |none=>
   simp only[hsp] at h;cases hm:makes E o.op with
   |true=>
    rw[hm] at h;simp only[cond_true] at h;obtain⟨x,ob,kills,tc,hk,hf,hp⟩:=An8 (gs:=gs) ho hg h;rw[Im,Im,Rr] at hk;refine go _ _ _ _ hf rfl hk (λt ht=>ht) (λk hk=>Are _ hk) (λk hk=> ?_) (λq hq=> ?_)
    ·rw[K4] at hk
     rcases Asi.1 hk with h|h
     ·exact Are _ h
     ·simp only[keysOf,Ar5] at h;rw[h];exact Ari
    ·injection hq with hq
     subst hq;exact⟨rfl,Ari,hp,by unfold spM;rw[Aoa hm];rfl⟩
   |false=>
    rw[hm] at h;simp only[cond_false] at h;split at h
    ·rename_i f args ts hop;split at h
     ·rename_i h' first cap hfv;rw[Jo] at h
      rcases Ob (F:=False) _ T _ h with h| ⟨ws,h,hdet⟩
      ·exact h.elim
      rw[Im] at h;obtain⟨x,hpu,hpl,hk⟩:=h;cases hx:flatB x with
      |true=>
       rw[hx] at hk;exact go _ _ _ _ (Xl ho hg hop hfv hpl hx hdet hpu) rfl hk (λt ht=>ht) (λk hk=>hk) (λk hk=>by cases hk) (λq hq=>by cases hq)
      |false=>
       rw[hx] at hk;simp only[cond_false] at hk;rw[Rr] at hk;exact go _ _ _ _ (Aas ho hg hop hfv hpl hdet hpu) rfl hk (λt ht=>ht) (λk hk=>hk) (λk hk=>hk) (λq hq=>by cases hq)
     ·exact h.elim
    ·rcases An6 ho hg hm h with h| ⟨x,eff,hk,hf,hw⟩
     ·exact h.elim
     rw[Im,Im] at hk;refine go _ _ _ _ hf rfl hk (λt ht=>ht) (λk hk=>hk) (λk hk=> ?_) (λq hq=>by cases hq);have: ∀(es:List (Nat×Option HObj)),k∈keysOf es-> ∃e∈es,e.1=k:=by
      intro es
      induction es with
      |nil=>intro h;cases h
      |cons e es ih=>
       intro h
       rcases Arl.1 h with rfl|h
       ·exact⟨e,Ari,rfl⟩
       ·obtain⟨e',h1,h2⟩:=ih h;exact⟨e',Are _ h1,h2⟩
     obtain⟨e,he,rfl⟩:=this eff hk;exact hw e he
def dumsX (sp:List (Nat×Bool)):Nat->List Oper->Heap
 |_,[]=>[]
 |i,o::os=>bif spM sp i o.op then some (dummyOf o.op)::dumsX sp (i+1) os else dumsX sp (i+1) os
theorem Qd (sp:List (Nat×Bool)): ∀(os:List Oper) (i:Nat) (x:Option HObj),x∈dumsX sp i os-> ∃d,x=some d∧(d=.box []∨d=.vec 0 0 [])
 | [],_,x,h=>by cases h
 |o::os,i,x,h=>by
  rw[dumsX] at h;cases hb:spM sp i o.op with
  |false=>rw[hb] at h;exact Qd sp os _ x h
  |true=>
   rw[hb] at h
   rcases Arl.1 h with rfl|h
   ·refine⟨_,rfl,?_⟩;unfold dummyOf;split<;>simp
   ·exact Qd sp os _ x h
theorem Aau (sp:List (Nat×Bool)){c:Cx}{ops:Array Oper}{id:Nat}{k:List Item}{E:Env}{T:Heap}{rs:List Rec}{ss:List Sig}{En:Env}{Tn:Heap}(h:RunP c ops 0 T.length E (T++dumsX sp 0 ops.toList) rs ss En Tn)(hc:chk ops.toList ss 0 [] []=true)(hk:Goes c k En Tn):Goes c (.code (.region id ops true)::k) E T:=by
 obtain⟨hG,rfl,rfl,hp⟩:=Aec h;refine Bw λw β H m a b cs hs h1 h2 h3=> ?_;have hsched: ∃md t,Region.schedule (c.P.follows .mixedOrders) ops (w.tape w.drawn (.order b.fn id))=Region.linearise md ops t:=by
  unfold Region.schedule;split
  ·exact⟨_,_,rfl⟩
  ·exact⟨_,_,rfl⟩
 obtain⟨md,t,hmd⟩:=hsched;have hf0:Fr w β H {w with drawn:=w.drawn+1} β H:=Fr.of_heap rfl rfl rfl rfl;have hs0:SRel c.imps c.nt {w with drawn:=w.drawn+1} β H m ⟨E,T,c.B,c.D⟩ a:=hs.same hf0 (hs.hrel.of_heap rfl rfl rfl rfl);obtain⟨β1,H1,m1,k1,k2,k3,k4⟩:=reserveAll (dumsX sp 0 ops.toList) (Qd sp _ _) hs0;have hml:m1.length=(T++dumsX sp 0 ops.toList).length:=k1.mlen;have hzero: ∀j,(λ_:Nat=>false) j=(Array.replicate ops.size false).getD j false:=λj=>by
  by_cases hj:j<ops.size
  ·simp[Array.getD,hj]
  ·simp[Array.getD,hj]
 obtain⟨w2,β2,H2,a2,g1,g2,g3,g4⟩:=Alx md hG hc k1.scE ops.size t (Array.replicate ops.size false) (λ_=>false) {w with drawn:=w.drawn+1} β1 H1 m1 a b cs k hzero (by simp)
  (by unfold unl;exact Ark (List.length_filter_le _ _) (by simp)) (λi hi=>by cases hi) (by
   rw[P8 _ _ _ λ_ _=>rfl,Od _ _ _ λ_ _=>rfl];exact k1) (λj r p hj _ hv=>by
    obtain⟨q,q1,q2,_⟩:=k4 p (hG.virt j r p hj hv) (by have:=hp j r p hj hv;simpa using this);exact⟨q,q1,q2⟩) (λj r _ hj=>by cases hj) h1 h2
 refine⟨w2,β2,H2,m1,a2,k,⟨_,_,c.B,c.D⟩,?_,g2,?_,hk⟩
 ·refine .head stepR_region_draw ?_;rw[hmd];exact g1.trans (.one stepR_region_end)
 ·refine⟨(hf0.toFr0.trans k2.toFr0).trans g3,λr hr hn=> ?_⟩;have hn1:=k2.virt r hr hn;refine g4 r (Asl hr k2.len) hn1 λp hp hq=> ?_
  by_cases hlt:p<T.length+ (dumsX sp 0 ops.toList).length
  ·obtain⟨q,q1,_,q3⟩:=k4 p hp hlt;rw[hq] at q1;injection q1 with q1
   omega
  ·have:=Ab hq;rw[hml,Arb] at this;omega
theorem Ac (sp:List (Nat×Bool)){c:Cx}{ops:Array Oper}{id:Nat}{k:List Item}{E:Env}{T:Heap}(n:Nat)(h:catC T (dumsX sp 0 ops.toList) λT0=>evdX sp c ops (guardTmps ops.toList ops.toList) ops.toList 0 T.length E T0 λEn Tn ss=>chk ops.toList ss 0 [] []=true∧evp c n k En Tn):
  Goes c (.code (.region id ops true)::k) E T:=by
 rw[Rs] at h;obtain⟨rs,ss,En,Tn,h1,h2,h3⟩:=U8 (sp:=sp) ops.toList 0 T.length E _ _ h (λk=>by rw[Ary,Asm]) (by simp);exact Aau sp h1 h2 (Av n _ _ _ _ h3)
inductive Tree where
 |mk (id:Int) (leaf:Bool) (label:List UInt8) (attrs:List (List UInt8×List UInt8)) (text:List UInt8) (subs:List Tree)
namespace Tree
def id:Tree->Int|mk i _ _ _ _ _=>i
def leaf:Tree->Bool|mk _ l _ _ _ _=>l
def label:Tree->List UInt8|mk _ _ l _ _ _=>l
def attrs:Tree->List (List UInt8×List UInt8)|mk _ _ _ a _ _=>a
def text:Tree->List UInt8|mk _ _ _ _ t _=>t
def subs:Tree->List Tree|mk _ _ _ _ _ s=>s
end Tree
def attrV (a:List UInt8×List UInt8):V:=.agg [.str a.1,.str a.2]
mutual
def Tree.subV:Tree->List V
 | .mk _ _ _ _ _ s=>nodesV s
def nodesV:List Tree->List V
 | []=>[]
 |s::ss=>.agg [.int .u64 s.id,.bool s.leaf,.str s.label,.sl 2 (s.attrs.map attrV),.str s.text,.sl 6 s.subV]::nodesV ss
end
def nodeV (t:Tree):V:=.agg [.int .u64 t.id,.bool t.leaf,.str t.label,.sl 2 (t.attrs.map attrV),.str t.text,.sl 6 t.subV]
theorem Zz: ∀ss:List Tree,nodesV ss=ss.map nodeV
 | []=>by rw[nodesV];rfl
 |s::ss=>by rw[nodesV,Zz ss];rfl
theorem A2: ∀t:Tree,t.subV=t.subs.map nodeV
 | .mk _ _ _ _ _ s=>by rw[Tree.subV,Zz];rfl
mutual
def Tree.size:Tree->Nat
 | .mk _ _ _ _ _ s=>1+sizes s
def sizes:List Tree->Nat
 | []=>0
 |s::ss=>s.size+sizes ss
end
theorem Ac9: ∀ {ss:List Tree} {s:Tree},s∈ss->s.size≤sizes ss
 |x::ss,s,h=>by
  rw[sizes]
  rcases Arl.1 h with rfl|h
  ·omega
  ·have:=Ac9 h;omega
theorem Tree.size_sub {t s:Tree}(h:s∈t.subs):s.size<t.size:=by
 cases t with
 |mk i l a b c ss=>
  have:=Ac9 (ss:=ss) h;rw[Tree.size];omega
theorem Tree.ind {P:Tree->Prop}(h: ∀t,(∀s∈t.subs,P s)->P t)(t:Tree):P t:=by
 induction hn:t.size using Nat.strongRecOn generalizing t with
 |_ n ih=>
  subst hn;exact h t λs hs=>ih s.size (Tree.size_sub hs) s rfl
theorem size_eq (t:Tree):t.size=1+sizes t.subs:=by cases t;rw[Tree.size];rfl
theorem Amx (t:Tree):1≤t.size:=by rw[size_eq];omega
theorem Ra: ∀ss:List Tree,ss.length≤sizes ss
 | []=>by simp[sizes]
 |s::ss=>by rw[sizes];have:=Ra ss;have:=Amx s;simp;omega
mutual
def Tree.pre (d:Int):Tree->List (Int×Tree)
 | .mk i l a b c ss=>(d,.mk i l a b c ss)::pres (d+1) ss
def pres (d:Int):List Tree->List (Int×Tree)
 | []=>[]
 |s::ss=>s.pre d++pres d ss
end
def preV (p:Int×Tree):List V:=[.int .i64 p.1,nodeV p.2]
theorem Aj4 (d:Int)(t:Tree):t.pre d=(d,t)::pres (d+1) t.subs:=by cases t;rw[Tree.pre];rfl
theorem Bi {α:Type}{l:List α}{i:Nat}(h:i<l.length):l.drop i=l[i]::l.drop (i+1):=by simp
def attrLen (asg:List (List UInt8×List UInt8)):Nat:=asg.foldr (λa n=>a.1.length+a.2.length+n) 0
mutual
def Tree.weight:Tree->Nat
 | .mk _ _ l asg t ss=>1+l.length+t.length+ (asg.length+attrLen asg)+weights ss
def weights:List Tree->Nat
 | []=>0
 |s::ss=>s.weight+weights ss
end
theorem Bt (t:Tree):t.weight=1+t.label.length+t.text.length+ (t.attrs.length+attrLen t.attrs)+weights t.subs:=by cases t;rw[Tree.weight];rfl
theorem Qf (s:Tree)(ss:List Tree):weights (s::ss)=s.weight+weights ss:=by rw[weights]
theorem U9: ∀ {ss:List Tree} {s:Tree},s∈ss->s.weight≤weights ss
 |x::ss,s,h=>by
  rw[weights]
  rcases Arl.1 h with rfl|h
  ·omega
  ·have:=U9 h;omega
theorem D5 {t s:Tree}(h:s∈t.subs):s.weight<t.weight:=by
 have:=U9 h;have:=Bt t;omega
mutual
theorem Nt: ∀t:Tree,t.size≤t.weight
 | .mk i l a b c ss=>by
  have:=Ma ss;rw[Tree.size,Tree.weight];omega
theorem Ma: ∀ss:List Tree,sizes ss≤weights ss
 | []=>by rw[sizes];omega
 |s::ss=>by
  have:=Nt s;have:=Ma ss;rw[sizes,weights];omega
end
theorem I9 (a:List UInt8×List UInt8)(asg:List (List UInt8×List UInt8)):attrLen (a::asg)=a.1.length+a.2.length+attrLen asg:=rfl
theorem Xp: ∀(t:Tree) (d:Int) (p:Int×Tree),p∈t.pre d->p.2.weight≤t.weight∧d≤p.1∧p.1+1≤d+t.weight:=by
 intro t
 induction t using Tree.ind with
 |_ t ih=>
  intro d p hp;rw[Aj4] at hp;have hw:=Bt t
  rcases Arl.1 hp with rfl|hp
  ·exact⟨Ara _,Arr _,by simp only;omega⟩
  ·have key: ∀ss:List Tree,(∀s∈ss,s∈t.subs)->p∈pres (d+1) ss-> ∃s∈t.subs,p∈s.pre (d+1):=by
    intro ss
    induction ss with
    |nil=>intro _ h;rw[pres] at h;cases h
    |cons s ss ih2=>
     intro hs h;rw[pres] at h
     rcases Asi.1 h with h|h
     ·exact⟨s,hs s Ari,h⟩
     ·exact ih2 (λs h=>hs s (Are _ h)) h
   obtain⟨s,hs,h⟩:=key t.subs (λ_ h=>h) hp;obtain⟨h1,h2,h3⟩:=ih s hs (d+1) p h;have:=D5 hs;omega
structure PieceT where
 keep:Int
 drop:Int
 put:List UInt8
structure OpT where
 kind:Int
 path:List Int
 at_:Int
 to:List Int
 id:Int
 leaf:Bool
 label:List UInt8
 key:List UInt8
 value:List UInt8
 gone:Bool
 pieces:List PieceT
def intV (n:Int):V:=.int .i64 n
def pieceV (p:PieceT):V:=.agg [.int .i64 p.keep,.int .i64 p.drop,.str p.put]
def pathV (p:List Int):V:=.sl 1 (p.map intV)
def piecesV (l:List PieceT):V:=.sl 3 (l.map pieceV)
def opV (o:OpT):V:=.agg [.int .u8 o.kind,pathV o.path,.int .i64 o.at_,pathV o.to,.int .u64 o.id,.bool o.leaf,.str o.label,.str o.key,.str o.value,.bool o.gone,piecesV o.pieces]
theorem Cu {b:Bool}(h:b=true): ∃y,Wk .tt y∧y.pureB=true∧y=.bool b:=⟨_,Wk.tt,rfl,by rw[h]⟩
theorem Ar {b:Bool}(h:b=false): ∃y,Wk .ff y∧y.pureB=true∧y=.bool b:=⟨_,Wk.ff,rfl,by rw[h]⟩
theorem B8 {b b':Bool}(h:b'=b): ∃y,Wk (.bool b') y∧y.pureB=true∧y=.bool b:=⟨_,Wk.refl _,rfl,by rw[h]⟩
def stepOk (n:Int):Bool:=decide (0≤n)&&decide (n<1048576)
def mayP (p:List Int):Bool:=decide (p.length≤64)&&p.all stepOk
def keyOk (s:List UInt8):Bool:=decide (1≤s.length)&&decide (s.length≤64)
def rightGo:Nat->List PieceT->Bool
 |_,[]=>true
 |n,p::l=>(decide (0≤p.keep)&&decide (p.keep≤1048576)&&decide (0≤p.drop)&&decide (p.drop≤1048576)&&decide (n+p.put.length≤1048576))&&rightGo (n+p.put.length) l
def rightP (l:List PieceT):Bool:=decide (l.length≤4096)&&rightGo 0 l
def gapOk (n:Int):Bool:=decide (0≤n)&&decide (n≤1048576)
def formedB (o:OpT):Bool:=
 mayP o.path&& (bif o.kind==1 then gapOk o.at_&&decide ((o.label.length:Int)≤64) else bif o.kind==2 then true else bif o.kind==3 then gapOk o.at_&&mayP o.to
  else bif o.kind==4 then keyOk o.key&& (o.gone||decide ((o.value.length:Int)≤256)) else bif o.kind==5 then decide ((o.label.length:Int)≤64) else bif o.kind==6 then rightP o.pieces else false)
def noOp (k:Int):OpT:=⟨k,[],0,[],0,false,[],[],[],false,[]⟩
def bareO (o:OpT):OpT:=
 bif o.kind==1 then {noOp 1 with path:=o.path,at_:=o.at_,id:=o.id,leaf:=o.leaf,label:=o.label}
 else bif o.kind==2 then {noOp 2 with path:=o.path}
 else bif o.kind==3 then {noOp 3 with path:=o.path,at_:=o.at_,to:=o.to}
 else bif o.kind==4 then {noOp 4 with path:=o.path,key:=o.key,gone:=o.gone,value:=bif o.gone then [] else o.value}
 else bif o.kind==5 then {noOp 5 with path:=o.path,label:=o.label}
 else bif o.kind==6 then {noOp 6 with path:=o.path,pieces:=o.pieces}
 else noOp o.kind
structure OpT.Lt (o:OpT)(n:Nat):Prop where
 path:o.path.length≤n
 to:o.to.length≤n
 label:o.label.length≤n
 key:o.key.length≤n
 value:o.value.length≤n
 pieces:o.pieces.length≤n
def putsLen (l:List PieceT):Nat:=l.foldr (λp n=>p.put.length+n) 0
def common:List Int->List Int->Nat
 |p::ps,q::qs=>bif decide (p=q) then common ps qs+1 else 0
 |_,_=>0
def within (p q:List Int):Bool:=decide (p=q.take p.length)
theorem K9: ∀p q:List Int,decide (common p q=p.length)=within p q
 | [],q=>by simp[common,within]
 |p::ps,[]=>by simp[common,within]
 |p::ps,q::qs=>by
  have ih:=K9 ps qs;unfold within at ih ⊢;rw[common]
  by_cases h:p=q
  ·subst h;simp only[decide_true,cond_true,Aq8,Nat.add_right_cancel_iff,Auz,List.cons.injEq,true_and];exact ih
  ·rw[decide_eq_false h];simp[h]
theorem Aem (p q:List Int)(h:p.length=q.length):decide (common p q=p.length)=decide (p=q):=by
 rw[K9,within,h,Asj]
theorem Hm {p q:List Int}(h:within p q=true):p.length≤q.length:=by
 unfold within at h;have h:=of_decide_eq_true h;have:=congrArg List.length h;simp at this;omega
def subT (t:Tree)(i:Int):Option Tree:=bif decide (i<0) then none else t.subs[i.toNat]?
def atT:Tree->List Int->Option Tree
 |t,[]=>some t
 |t,i::p=>match subT t i with
  |none=>none
  |some s=>atT s p
theorem A1 {t s:Tree}{i:Int}(h:subT t i=some s):0≤i∧t.subs[i.toNat]?=some s∧s∈t.subs:=by
 unfold subT at h
 by_cases hi:i<0
 ·rw[decide_eq_true hi] at h;cases h
 ·rw[decide_eq_false hi] at h;exact⟨by omega,h,Aq7 h⟩
theorem Acc {t:Tree}{i:Int}(h:i<0):subT t i=none:=by unfold subT;rw[decide_eq_true h];rfl
theorem Acd {t:Tree}{i:Int}(h:(t.subs.length:Int)≤i):subT t i=none:=by
 unfold subT;rw[decide_eq_false (by omega)];simp;omega
theorem Afr {t:Tree}{i:Int}(h0:0≤i)(h1:i<t.subs.length): ∃s,subT t i=some s∧t.subs[i.toNat]?=some s:=by
 have hlt:i.toNat<t.subs.length:=by omega
 refine⟨t.subs[i.toNat],?_,Aq3 hlt⟩;unfold subT;rw[decide_eq_false (by omega)];exact Aq3 hlt
theorem Ce {s:Tree}: ∀ {p:List Int} {t:Tree},atT t p=some s->s.weight≤t.weight
 | [],t,h=>by rw[atT] at h;injection h with h;subst h;exact Ara _
 |i::p,t,h=>by
  rw[atT] at h;cases hs:subT t i with
  |none=>rw[hs] at h;cases h
  |some u=>
   rw[hs] at h;have:=Ce (p:=p) h;have:=D5 (A1 hs).2.2;omega
def atV (t0:Tree):Option Tree->V
 |some s=>.tup [nodeV s,.tt]
 |none=>.tup [nodeV t0,.ff]
def intoE (t:Tree)(at_:Int):Int:=bif t.leaf then 83 else bif decide ((t.subs.length:Int)<at_) then 81 else 0
def Tree.withSubs:Tree->List Tree->Tree
 | .mk i l a b c _,ss=>.mk i l a b c ss
def changeT (F:Tree->Tree):Tree->List Int->Tree
 |t,[]=>F t
 |t,i::p=>match subT t i with
  |none=>t
  |some s=>t.withSubs (t.subs.set i.toNat (changeT F s p))
theorem Gb (t:Tree)(ss:List Tree):nodeV (t.withSubs ss)=.agg [.int .u64 t.id,.bool t.leaf,.str t.label,.sl 2 (t.attrs.map attrV),.str t.text,.sl 6 (ss.map nodeV)]:=by
 cases t;unfold nodeV;rw[A2];rfl
theorem Ap (t:Tree)(ss:List Tree):(t.withSubs ss).subs=ss:=by cases t;rfl
def insT (at_:Int)(x:Tree)(y:Tree):Tree:=y.withSubs (y.subs.take at_.toNat++x::y.subs.drop at_.toNat)
def delT (at_:Int)(y:Tree):Tree:=y.withSubs (y.subs.take at_.toNat++y.subs.drop (at_.toNat+1))
def landT (q:List Int)(i:Int)(to:List Int)(at_:Int):List Int×Int:=
 bif decide (q=to)&&decide (i<at_) then(to,at_-1)
 else bif within q to&& (decide (q.length<to.length)&&decide (i<to.getD q.length 0)) then(to.set q.length (to.getD q.length 0-1),at_)
 else(to,at_)
def leS (a b:List UInt8):Bool:=Op.bytesLess a b||decide (a=b)
def ordOk:Option (List UInt8)->List UInt8->Bool
 |none,_=>true
 |some k,s=> !leS s k
def attrOk (k:Option (List UInt8))(a:List UInt8×List UInt8):Bool:=keyOk a.1&& (decide ((a.2.length:Int)≤256)&&ordOk k a.1)
def attrsOk:Option (List UInt8)->List (List UInt8×List UInt8)->Bool
 |_,[]=>true
 |k,a::l=>attrOk k a&&attrsOk (some a.1) l
def headOk (t:Tree):Bool:= !decide ((64:Int)<t.label.length)&& (!(t.leaf&&decide ((0:Int)<t.subs.length))&& !(!t.leaf&& !decide (t.text=[])))
def rightN (t:Tree):Bool:=headOk t&&attrsOk none t.attrs
mutual
def Tree.rightA:Tree->Bool
 | .mk i l a b c ss=>rightN (.mk i l a b c ss)&&rightsA ss
def rightsA:List Tree->Bool
 | []=>true
 |s::ss=>s.rightA&&rightsA ss
end
theorem It (t:Tree):t.rightA=(rightN t&&rightsA t.subs):=by cases t;rw[Tree.rightA];rfl
theorem Ke: ∀ss:List Tree,rightsA ss=ss.all Tree.rightA
 | []=>by rw[rightsA];rfl
 |s::ss=>by rw[rightsA,Ke ss];rfl
mutual
theorem Zl: ∀(t:Tree) (d:Int),(t.pre d).all (λp=>rightN p.2)=t.rightA
 | .mk i l a b c ss,d=>by rw[Tree.pre,Avb,Vy ss (d+1),Tree.rightA]
theorem Vy: ∀(ss:List Tree) (d:Int),(pres d ss).all (λp=>rightN p.2)=rightsA ss
 | [],d=>by rw[pres];rfl
 |s::ss,d=>by rw[pres,List.all_append,Zl s d,Vy ss d,rightsA]
end
def rightT (t:Tree):Bool:= !t.leaf&&t.rightA
def prevK (l:List (List UInt8×List UInt8)):Nat->Option (List UInt8)
 |0=>none
 |i+1=>some (l.getD i ([],[])).1
theorem Acj {l:List (List UInt8×List UInt8)}{i:Nat}(hi:i<l.length):attrsOk (prevK l i) (l.drop i)=(attrOk (prevK l i) l[i]&&attrsOk (prevK l (i+1)) (l.drop (i+1))):=by
 rw[Aru hi,attrsOk,prevK,Asg,Aq3 hi];rfl
def extentP (l:List PieceT):Int:=l.foldr (λp n=>p.keep+p.drop+n) 0
def editP:List UInt8->List PieceT->List UInt8
 |t,[]=>t
 |t,p::l=>t.take p.keep.toNat++p.put++editP (t.drop (p.keep+p.drop).toNat) l
def applyE (t:List UInt8)(l:List PieceT):List UInt8×Int:=
 bif !rightP l then([],2) else bif decide ((t.length:Int)<extentP l) then([],50) else(editP t l,0)
def strE (r:List UInt8×Int):V:=.tup [.str r.1,.int .i64 r.2]
theorem Bd (p:PieceT)(l:List PieceT):extentP (p::l)=p.keep+p.drop+extentP l:=rfl
structure PieceT.Ok (p:PieceT):Prop where
 k0:0≤p.keep
 k1:p.keep≤1048576
 d0:0≤p.drop
 d1:p.drop≤1048576
theorem Pb: ∀ {l:List PieceT} {n:Nat},rightGo n l=true->(∀p∈l,p.Ok)∧(l=[]∨n+putsLen l≤1048576)
 | [],n,_=>⟨(λp h=>by cases h),.inl rfl⟩
 |p::l,n,h=>by
  rw[rightGo] at h;simp only[Aq6,decide_eq_true_eq] at h;obtain⟨⟨⟨⟨⟨h1,h2⟩,h3⟩,h4⟩,h5⟩,h6⟩:=h;obtain⟨k1,k2⟩:=Pb h6;refine⟨λq hq=> ?_,.inr ?_⟩
  ·rcases Arl.1 hq with rfl|hq
   ·exact⟨h1,h2,h3,h4⟩
   ·exact k1 q hq
  ·have e:putsLen (p::l)=p.put.length+putsLen l:=rfl;rw[e]
   rcases k2 with rfl|k2
   ·have:putsLen []=0:=rfl;omega
   ·omega
theorem Kx {l:List PieceT}(h:rightP l=true):l.length≤4096∧(∀p∈l,p.Ok)∧putsLen l≤1048576:=by
 unfold rightP at h;simp only[Aq6,decide_eq_true_eq] at h;obtain⟨h1,h2⟩:=h;obtain⟨k1,k2⟩:=Pb h2;refine⟨h1,k1,?_⟩
 rcases k2 with rfl|k2
 ·exact Aq4 _
 ·omega
theorem Ej: ∀ {l:List PieceT},(∀p∈l,p.Ok)->0≤extentP l
 | [],_=>Arr _
 |p::l,h=>by
  have:=Ej (l:=l) λq hq=>h q (Are _ hq);have hp:=h p Ari;have:=hp.k0;have:=hp.d0;rw[Bd];omega
theorem Pc: ∀ {l:List PieceT},(∀p∈l,p.Ok)->extentP l≤l.length*2097152
 | [],_=>by simp[extentP]
 |p::l,h=>by
  have:=Pc (l:=l) λq hq=>h q (Are _ hq);have hp:=h p Ari;have:=hp.k1;have:=hp.d1;rw[Bd,Aq8];omega
theorem Zn: ∀ {l:List PieceT} {t:List UInt8},(∀p∈l,p.Ok)->extentP l≤t.length->(editP t l).length≤t.length+putsLen l
 | [],t,_,_=>by simp[editP,putsLen]
 |p::l,t,h,he=>by
  rw[Bd] at he;have hp:=h p Ari;have hl:=λq hq=>h q (Are p hq);have:=Ej hl;have ih:=Zn (l:=l) (t:=t.drop (p.keep+p.drop).toNat) hl (by have:=hp.k0;have:=hp.d0;simp;omega);have e:putsLen (p::l)=p.put.length+putsLen l:=rfl;rw[editP,e];simp at ih ⊢;have:=hp.k0;have:=hp.d0;omega
def validE (t:Tree)(o:OpT):Int:=
 bif(decide (o.kind=2)||decide (o.kind=3))&&decide (o.path=[]) then 82
 else match atT t o.path with
  |none=>81
  |some x=>bif decide (o.kind=1) then intoE x o.at_
   else bif decide (o.kind=3) then(bif within o.path o.to then 84 else match atT t o.to with
    |none=>81
    |some y=>intoE y o.at_)
   else bif decide (o.kind=6) then(bif !x.leaf then 83 else(applyE x.text o.pieces).2)
   else 0
def ValidE (t:Tree)(o:OpT):Int:=bif !rightT t then 2 else bif !formedB o then 80 else validE t o
theorem Dk: ∀(a b:List Tree),weights (a++b)=weights a+weights b
 | [],b=>by rw[weights];simp
 |x::a,b=>by rw[Arx,weights,weights,Dk a b];omega
theorem S8 {s u:Tree}: ∀ {l:List Tree} {i:Nat},l[i]?=some s->u.weight≤s.weight->weights (l.set i u)≤weights l
 | [],i,h,_=>by simp at h
 |x::l,0,h,hu=>by
  simp at h;subst h;rw[Au6,weights,weights];omega
 |x::l,i+1,h,hu=>by
  simp at h;have:=S8 (l:=l) h hu;rw[Atb,weights,weights];omega
theorem Dv (t:Tree)(ss:List Tree):(t.withSubs ss).weight+weights t.subs=t.weight+weights ss:=by
 cases t;rw[Bt,Bt];simp only[Tree.withSubs,Tree.label,Tree.text,Tree.attrs,Tree.subs];omega
theorem Py {F:Tree->Tree}(hF: ∀y,(F y).weight≤y.weight): ∀(p:List Int) (t:Tree),(changeT F t p).weight≤t.weight
 | [],t=>hF t
 |i::p,t=>by
  rw[changeT];cases hs:subT t i with
  |none=>exact Ara _
  |some s=>
   have ih:=Py hF p s;have h:=S8 (A1 hs).2.1 ih;have:=Dv t (t.subs.set i.toNat (changeT F s p));simp only;omega
theorem Ahh (i:Int)(y:Tree):(delT i y).weight≤y.weight:=by
 have h1:=Dv y (y.subs.take i.toNat++y.subs.drop (i.toNat+1));have h2:weights (y.subs.take i.toNat++y.subs.drop (i.toNat+1))≤weights y.subs:=by
  conv=>rhs;rw[←Ar4 i.toNat y.subs]
  rw[Dk,Dk];have h3:weights (y.subs.drop (i.toNat+1))≤weights (y.subs.drop i.toNat):=by
   rw[←Aud];cases y.subs.drop i.toNat with
   |nil=>simp
   |cons a l=>rw[weights];simp
  omega
 unfold delT;omega
theorem Bx (t:Tree)(ss:List Tree)(j:Int)(h:0≤j):subT (t.withSubs ss) j=ss[j.toNat]?:=by
 unfold subT;rw[Ap,decide_eq_false (by omega)];rfl
theorem Fo (k j:Int)(p q:List Int):within (k::p) (j::q)=(decide (k=j)&&within p q):=by
 unfold within;simp
theorem Ge (q:List Int):within [] q=true:=by unfold within;simp
theorem Mz (k:Int)(p:List Int):within (k::p) []=false:=by unfold within;simp
theorem Pm (k i at_:Int)(q to:List Int):landT (k::q) i (k::to) at_=(k::(landT q i to at_).1,(landT q i to at_).2):=by
 unfold landT;rw[Fo];simp only[List.cons.injEq,true_and,decide_true,Asb,Aq8,Auh,List.getD_cons_succ,Atb];cases(decide (q=to)&&decide (i<at_))<;>cases(within q to&& (decide (q.length<to.length)&&decide (i<to.getD q.length 0)))<;>rfl
theorem Ni {k j i at_:Int}{q to:List Int}(h:k≠j):landT (k::q) i (j::to) at_=(j::to,at_):=by
 unfold landT;rw[Fo];simp[h]
theorem Q9 (k i at_:Int)(q:List Int):landT (k::q) i [] at_=([],at_):=by
 unfold landT;rw[Mz];simp
theorem Ew (t:Tree)(ss:List Tree):(t.withSubs ss).leaf=t.leaf:=by cases t;rfl
theorem Nj (t:Tree)(ss:List Tree):(t.withSubs ss).id=t.id:=by cases t;rfl
theorem Uf {i at_:Int}(hi:0≤i)(h0:0≤at_): ∀(q to:List Int) (t y z:Tree),atT t q=some y->i<y.subs.length->within (q++ [i]) to=false->atT t to=some z->at_≤z.subs.length->
  ∃z',atT (changeT (delT i) t q) (landT q i to at_).1=some z'∧0≤(landT q i to at_).2∧(landT q i to at_).2≤z'.subs.length∧z'.leaf=z.leaf∧z'.id=z.id
 | [],[],t,y,z,hy,hiy,hw,hz,hat=>by
  rw[atT] at hy hz;injection hy with hy
  injection hz with hz
  subst hy hz;have hl:(delT i t).subs.length+1=t.subs.length:=by
   unfold delT;rw[Ap];simp;omega
  unfold landT;rw[changeT]
  by_cases h:i<at_
  ·rw[decide_eq_true h];exact⟨_,rfl,by show 0≤at_-1;omega,by show at_-1≤_;omega,Ew _ _,Nj _ _⟩
  ·rw[decide_eq_false h];simp only[decide_true,Atu,Ge,Arc,cond_false,Nat.lt_irrefl,decide_false,Asy];exact⟨_,rfl,h0,by omega,Ew _ _,Nj _ _⟩
 | [],j::to,t,y,z,hy,hiy,hw,hz,hat=>by
  rw[atT] at hy;injection hy with hy
  subst hy;rw[atT] at hz;cases hs:subT t j with
  |none=>rw[hs] at hz;cases hz
  |some s=>
  rw[hs] at hz;simp only at hz;obtain⟨hj,hsj,_⟩:=A1 hs;have hji:j≠i:=by
   rintro rfl;simp[within] at hw
  rw[changeT];have e:landT [] i (j::to) at_=(bif decide (i<j) then((j-1)::to,at_) else(j::to,at_)):=by
   unfold landT;simp[Ge]
  rw[e]
  by_cases h:i<j
  ·rw[decide_eq_true h];refine⟨z,?_,h0,hat,rfl,rfl⟩;simp only[cond_true];rw[atT];have:subT (delT i t) (j-1)=some s:=by
    unfold delT;rw[Bx _ _ _ (by omega),Arh (by simp;omega),As8,←hsj]
    congr 1
    simp;omega
   rw[this];exact hz
  ·rw[decide_eq_false h];refine⟨z,?_,h0,hat,rfl,rfl⟩;simp only[cond_false];rw[atT];have:subT (delT i t) j=some s:=by
    unfold delT;rw[Bx _ _ _ hj,Aq9 (by simp;omega),Asv,if_pos (by omega),hsj]
   rw[this];exact hz
 |k::q,[],t,y,z,hy,hiy,hw,hz,hat=>by
  rw[atT] at hz;injection hz with hz
  subst hz;rw[Q9,atT];refine⟨_,rfl,h0,?_⟩;rw[changeT];cases subT t k with
  |none=>exact⟨hat,rfl,rfl⟩
  |some s=>
   simp only;rw[Ap,Atp];exact⟨hat,Ew _ _,Nj _ _⟩
 |k::q,j::to,t,y,z,hy,hiy,hw,hz,hat=>by
  rw[atT] at hy hz;cases hs:subT t k with
  |none=>rw[hs] at hy;cases hy
  |some s=>
  rw[hs] at hy;simp only at hy;obtain⟨hk,hsk,_⟩:=A1 hs;have hkl:=Ab hsk;rw[changeT,hs];simp only
  by_cases h:k=j
  ·subst h;rw[hs] at hz;simp only at hz;rw[Arx,Fo] at hw;simp only[decide_true,Asb] at hw;rw[Pm];obtain⟨z',h1,h2,h3,h4⟩:=Uf hi h0 q to s y z hy hiy hw hz hat;refine⟨z',?_,h2,h3,h4⟩;simp only;rw[atT,Bx _ _ _ hk,As5 hkl];exact h1
  ·rw[Ni h];refine⟨z,?_,h0,hat,rfl,rfl⟩;cases hs2:subT t j with
   |none=>rw[hs2] at hz;cases hz
   |some s2=>
   rw[hs2] at hz;simp only at hz;obtain⟨hj,hsj,_⟩:=A1 hs2;simp only;rw[atT,Bx _ _ _ hj,Arj (by omega),hsj];exact hz
theorem Aot {i at_:Int}(hi:0≤i)(h0:0≤at_)(q to:List Int)(t y z:Tree)(h1:atT t q=some y)(h2:i<y.subs.length)(h3:within (q++ [i]) to=false)(h4:atT t to=some z)(h5:at_≤z.subs.length):
  ∃z',atT (changeT (delT i) t q) (landT q i to at_).1=some z'∧0≤(landT q i to at_).2∧(landT q i to at_).2≤z'.subs.length:=by
 obtain⟨z',k1,k2,k3,_⟩:=Uf hi h0 q to t y z h1 h2 h3 h4 h5;exact⟨z',k1,k2,k3⟩
theorem F6: ∀ {p:List Int} (hne:p≠[]) {t x:Tree},atT t p=some x-> ∃y,atT t p.dropLast=some y∧0≤p.getLast hne∧p.getLast hne<y.subs.length∧y.subs[(p.getLast hne).toNat]?=some x
 | [i],_,t,x,h=>by
  rw[atT] at h;cases hs:subT t i with
  |none=>rw[hs] at h;cases h
  |some s=>
   rw[hs] at h;simp only[atT] at h;injection h with h
   subst h;obtain⟨h1,h2,_⟩:=A1 hs;have:=Ab h2;exact⟨t,rfl,h1,by show i<_;omega,h2⟩
 |i::j::p,hne,t,x,h=>by
  rw[atT] at h;cases hs:subT t i with
  |none=>rw[hs] at h;cases h
  |some s=>
   rw[hs] at h;obtain⟨y,h1,h2,h3,h4⟩:=F6 (p:=j::p) (by simp) h;refine⟨y,?_,?_⟩
   ·rw[At6 (by simp),atT,hs];exact h1
   ·rw[List.getLast_cons (by simp)];exact⟨h2,h3,h4⟩
def freshT (o:OpT):Tree:=.mk o.id o.leaf o.label [] [] []
def relabelT (s:List UInt8):Tree->Tree
 | .mk i l _ a c ss=>.mk i l s a c ss
def retextT (l:List PieceT):Tree->Tree
 | .mk i lf b a c ss=>.mk i lf b a (applyE c l).1 ss
def lastP (p:List Int):Int:=p.getLastD 0
theorem Dc {p:List Int}(h:p≠[]):p.getLast h=lastP p:=by
 unfold lastP;cases p with
 |nil=>exact absurd rfl h
 |cons a p=>rw[List.getLastD_eq_getLast?,Atx h];rfl
def moveT (x t:Tree)(o:OpT):Tree:=
 changeT (insT (landT o.path.dropLast (lastP o.path) o.to o.at_).2 x) (changeT (delT (lastP o.path)) t o.path.dropLast) (landT o.path.dropLast (lastP o.path) o.to o.at_).1
theorem Ams (q:List Int)(i:Int)(to:List Int)(n:Int):(landT q i to n).1.length=to.length:=by
 unfold landT;cases(decide (q=to)&&decide (i<n))<;>cases(within q to&& (decide (q.length<to.length)&&decide (i<to.getD q.length 0)))<;>simp
section
variable {α:Type}
def insL (m:Nat)(x:α)(l:List α):List α:=l.take m++x::l.drop m
def delL (n:Nat)(l:List α):List α:=l.take n++l.drop (n+1)
theorem D9 (m:Nat)(x a:α)(l:List α):insL (m+1) x (a::l)=a::insL m x l:=rfl
theorem E6 (n:Nat)(a:α)(l:List α):delL (n+1) (a::l)=a::delL n l:=rfl
theorem Va (x:α): ∀(l:List α) (n m:Nat),n<m->m≤l.length->delL n (insL m x l)=insL (m-1) x (delL n l)
 | [],n,m,h,hm=>by simp at hm;omega
 |a::l,0,m+1,_,_=>rfl
 |a::l,n+1,m+1,h,hm=>by
  have hm':m≤l.length:=by simpa using hm
  obtain⟨k,rfl⟩: ∃k,m=k+1:=⟨m-1,by omega⟩;rw[D9,E6,Va x l n (k+1) (by omega) hm',E6];rfl
theorem Vb (x:α): ∀(l:List α) (n m:Nat),m≤n->n<l.length->delL (n+1) (insL m x l)=insL m x (delL n l)
 | [],n,m,h,hm=>by simp at hm
 |a::l,n,0,_,_=>rfl
 |a::l,n+1,m+1,h,hm=>by
  have hm':n<l.length:=by simpa using hm
  rw[D9,E6,Vb x l n m (by omega) hm',E6,D9]
theorem Vc (K:α): ∀(l:List α) (i j:Nat),i<j->delL i (l.set j K)=(delL i l).set (j-1) K
 | [],i,j,h=>by simp[delL]
 |a::l,0,j+1,_=>rfl
 |a::l,i+1,j+1,h=>by
  obtain⟨k,rfl⟩: ∃k,j=k+1:=⟨j-1,by omega⟩;rw[Atb,E6,Vc K l i (k+1) (by omega),E6];rfl
theorem Vd (K:α): ∀(l:List α) (i j:Nat),j<i->delL i (l.set j K)=(delL i l).set j K
 | [],i,j,h=>by simp[delL]
 |a::l,i+1,0,h=>rfl
 |a::l,i+1,j+1,h=>by
  rw[Atb,E6,Vd K l i j (by omega),E6,Atb]
theorem Ve (x K:α): ∀(l:List α) (m k:Nat),k<m->(insL m x l).set k K=insL m x (l.set k K)∨l.length≤k
 | [],m,k,h=>.inr (by simp)
 |a::l,m+1,0,_=>.inl rfl
 |a::l,m+1,k+1,h=>by
  rcases Ve x K l m k (by omega) with h1|h1
  ·left;rw[D9,Atb,h1,Atb,D9]
  ·right;simpa using h1
theorem Vf (x K:α): ∀(l:List α) (m k:Nat),m≤k->(insL m x l).set (k+1) K=insL m x (l.set k K)
 | [],m,k,h=>by cases m<;>simp[insL]
 |a::l,0,k,_=>rfl
 |a::l,m+1,k+1,h=>by
  rw[D9,Atb,Vf x K l m k (by omega),Atb,D9]
theorem Om (x:α): ∀(l:List α) (m k:Nat),k<m->k<l.length->(insL m x l)[k]?=l[k]?
 | [],m,k,h,hk=>by simp at hk
 |a::l,m+1,0,_,_=>rfl
 |a::l,m+1,k+1,h,hk=>by
  rw[D9,Asx,Asx];exact Om x l m k (by omega) (by simpa using hk)
theorem On (x:α): ∀(l:List α) (m k:Nat),m≤k->m≤l.length->(insL m x l)[k+1]?=l[k]?
 | [],m,k,h,hm=>by
  have:m=0:=by simpa using hm
  subst this;simp[insL]
 |a::l,0,k,_,_=>rfl
 |a::l,m+1,k+1,h,hm=>by
  rw[D9,Asx,Asx];exact On x l m k (by omega) (by simpa using hm)
end
theorem Ei (at_:Int)(x y:Tree):insT at_ x y=y.withSubs (insL at_.toNat x y.subs):=rfl
theorem Hi (i:Int)(y:Tree):delT i y=y.withSubs (delL i.toNat y.subs):=rfl
theorem As (t:Tree)(a b:List Tree):(t.withSubs a).withSubs b=t.withSubs b:=by cases t;rfl
def withoutT (t:Tree)(p:List Int):Tree:=changeT (delT (lastP p)) t p.dropLast
theorem Vg {p:List Int}(k:Int)(h:p≠[]):lastP (k::p)=lastP p:=by
 rw[←Dc (by simp),←Dc h,List.getLast_cons h]
theorem Kb (t:Tree)(i:Int):withoutT t [i]=delT i t:=rfl
theorem Fv (t:Tree)(k:Int){p:List Int}(h:p≠[]){s:Tree}(hs:subT t k=some s):withoutT t (k::p)=t.withSubs (t.subs.set k.toNat (withoutT s p)):=by
 unfold withoutT;rw[Vg k h,At6 h,changeT,hs]
theorem Bm (F:Tree->Tree)(t:Tree)(k:Int)(p:List Int){s:Tree}(hs:subT t k=some s):changeT F t (k::p)=t.withSubs (t.subs.set k.toNat (changeT F s p)):=by
 rw[changeT,hs]
def liftP (to:List Int)(at_:Int)(fr:List Int):List Int:=
 bif decide (to.length<fr.length)&& (within to fr&&decide (at_≤fr.getD to.length 0)) then fr.set to.length (fr.getD to.length 0+1) else fr
theorem Y3 (k at_:Int)(to fr:List Int):liftP (k::to) at_ (k::fr)=k::liftP to at_ fr:=by
 unfold liftP;rw[Fo];simp only[decide_true,Asb,Aq8,Auh,List.getD_cons_succ,Atb];cases(decide (to.length<fr.length)&& (within to fr&&decide (at_≤fr.getD to.length 0)))<;>rfl
theorem Vh {k j:Int}(at_:Int)(to fr:List Int)(h:j≠k):liftP (j::to) at_ (k::fr)=k::fr:=by
 unfold liftP;rw[Fo,decide_eq_false h];simp
theorem Tt (k at_:Int)(fr:List Int):liftP [] at_ (k::fr)=(bif decide (at_≤k) then k+1 else k)::fr:=by
 unfold liftP;rw[Ge]
 by_cases h:at_≤k<;>simp[h]
theorem Agv (i j at_:Int)(to:List Int):liftP (j::to) at_ [i]=[i]:=by
 unfold liftP;simp
theorem Abm {at_:Int}(h0:0≤at_)(x:Tree): ∀(fr to:List Int) (t s z:Tree),fr≠[]->atT t fr=some s->within fr to=false->atT t to=some z->at_≤z.subs.length->
  withoutT (changeT (insT at_ x) t to) (liftP to at_ fr)=changeT (insT (landT fr.dropLast (lastP fr) to at_).2 x) (withoutT t fr) (landT fr.dropLast (lastP fr) to at_).1
 | [],_,_,_,_,h,_,_,_,_=>absurd rfl h
 | [i],[],t,s,z,_,hs,hw,hz,hat=>by
  rw[atT] at hz;injection hz with hz
  subst hz;rw[atT] at hs;cases hu:subT t i with
  |none=>rw[hu] at hs;cases hs
  |some u=>
  obtain⟨hi,hsi,_⟩:=A1 hu;have hil:=Ab hsi;rw[Tt,Kb,Kb];show delT _ (insT at_ x t)=_;have e:landT ([i]:List Int).dropLast (lastP [i]) [] at_=(bif decide (i<at_) then([],at_-1) else([],at_)):=by
   unfold landT lastP
   by_cases h:i<at_<;>simp[h,Ge]
  rw[e]
  by_cases h:i<at_
  ·rw[decide_eq_true h,decide_eq_false (by omega: ¬at_≤i)];simp only[cond_true,cond_false];show _=insT (at_-1) x (delT i t);rw[Ei,Ei,Hi,Hi,Ap,Ap,As,As,Va x t.subs i.toNat at_.toNat (by omega) (by omega)]
   congr 2
   omega
  ·rw[decide_eq_false h,decide_eq_true (by omega:at_≤i)];simp only[cond_true,cond_false];show _=insT at_ x (delT i t);rw[Ei,Ei,Hi,Hi,Ap,Ap,As,As];have:(i+1).toNat=i.toNat+1:=by omega
   rw[this,Vb x t.subs i.toNat at_.toNat (by omega) (by omega)]
 | [i],j::to,t,s,z,_,hs,hw,hz,hat=>by
  rw[atT] at hs hz;cases hu:subT t i with
  |none=>rw[hu] at hs;cases hs
  |some u=>
  cases hv:subT t j with
  |none=>rw[hv] at hz;cases hz
  |some v=>
  obtain⟨hi,hsi,_⟩:=A1 hu;obtain⟨hj,hsj,_⟩:=A1 hv;have hil:=Ab hsi;have hjl:=Ab hsj;have hji:j≠i:=by
   rintro rfl;simp[within] at hw
  rw[Agv,Kb,Kb,Bm _ _ _ _ hv];have e:landT ([i]:List Int).dropLast (lastP [i]) (j::to) at_=(bif decide (i<j) then((j-1)::to,at_) else(j::to,at_)):=by
   unfold landT lastP;simp[Ge]
  rw[e]
  by_cases h:i<j
  ·rw[decide_eq_true h];simp only[cond_true];have hv':subT (delT i t) (j-1)=some v:=by
    unfold delT;rw[Bx _ _ _ (by omega),Arh (by simp;omega),As8,←hsj]
    congr 1
    simp;omega
   rw[Bm _ _ _ _ hv',Hi,Hi,As,As,Ap,Ap,Vc _ _ _ _ (by omega)]
   congr 2
   omega
  ·rw[decide_eq_false h];simp only[cond_false];have hv':subT (delT i t) j=some v:=by
    unfold delT;rw[Bx _ _ _ hj,Aq9 (by simp;omega),Asv,if_pos (by omega),hsj]
   rw[Bm _ _ _ _ hv',Hi,Hi,As,As,Ap,Ap,Vd _ _ _ _ (by omega)]
 |k::k2::q,[],t,s,z,_,hs,hw,hz,hat=>by
  rw[atT] at hz;injection hz with hz
  subst hz;rw[atT] at hs;cases hu:subT t k with
  |none=>rw[hu] at hs;cases hs
  |some u=>
  obtain⟨hk,hsk,_⟩:=A1 hu;have hkl:=Ab hsk;rw[Tt,At6 (by simp),Q9];show withoutT (insT at_ x t) _=insT at_ x (withoutT t _);rw[Fv t k (by simp) hu]
  by_cases h:at_≤k
  ·rw[decide_eq_true h];simp only[cond_true];have e:(k+1).toNat=k.toNat+1:=by omega
   have hu':subT (insT at_ x t) (k+1)=some u:=by
    rw[Ei,Bx _ _ _ (by omega),e,On _ _ _ _ (by omega) (by omega),hsk]
   rw[Fv _ _ (by simp) hu',Ei,Ei,As,As,Ap,Ap,e,Vf _ _ _ _ _ (by omega)]
  ·rw[decide_eq_false h];simp only[cond_false];have hu':subT (insT at_ x t) k=some u:=by
    rw[Ei,Bx _ _ _ hk,Om _ _ _ _ (by omega) hkl,hsk]
   rw[Fv _ _ (by simp) hu',Ei,Ei,As,As,Ap,Ap,(Ve x _ t.subs at_.toNat k.toNat (by omega)).resolve_right (by omega)]
 |k::k2::q,j::to,t,s,z,_,hs,hw,hz,hat=>by
  rw[atT] at hs hz;cases hu:subT t k with
  |none=>rw[hu] at hs;cases hs
  |some u=>
  rw[hu] at hs;simp only at hs;obtain⟨hk,hsk,_⟩:=A1 hu;have hkl:=Ab hsk;rw[At6 (by simp),Vg k (by simp)];rw[Fv t k (by simp) hu]
  by_cases h:k=j
  ·subst h;rw[hu] at hz;simp only at hz;rw[Fo] at hw;simp only[decide_true,Asb] at hw;have ih:=Abm h0 x (k2::q) to u s z (by simp) hs hw hz hat;have hle:liftP to at_ (k2::q)≠[]:=by
    unfold liftP;cases(decide (to.length< (k2::q).length)&& (within to (k2::q)&&decide (at_≤(k2::q).getD to.length 0))) with
    |false=>simp
    |true=>intro hh;have:=congrArg List.length hh;simp at this
   rw[Y3,Pm,Bm _ _ _ _ hu];have hu1:subT (t.withSubs (t.subs.set k.toNat (changeT (insT at_ x) u to))) k=some (changeT (insT at_ x) u to):=by
    rw[Bx _ _ _ hk,As5 hkl]
   have hu2:subT (t.withSubs (t.subs.set k.toNat (withoutT u (k2::q)))) k=some (withoutT u (k2::q)):=by
    rw[Bx _ _ _ hk,As5 hkl]
   rw[Fv _ _ hle hu1,Bm _ _ _ _ hu2,As,As,Ap,Ap,Awh,Awh,ih]
  ·cases hv:subT t j with
   |none=>rw[hv] at hz;cases hz
   |some v=>
   obtain⟨hj,hsj,_⟩:=A1 hv;rw[Vh _ _ _ (λe=>h e.symm),Ni h,Bm _ _ _ _ hv];have hne:k.toNat≠j.toNat:=by omega
   have hu1:subT (t.withSubs (t.subs.set j.toNat (changeT (insT at_ x) v to))) k=some u:=by
    rw[Bx _ _ _ hk,Arj (λe=>hne e.symm),hsk]
   have hv1:subT (t.withSubs (t.subs.set k.toNat (withoutT u (k2::q)))) j=some v:=by
    rw[Bx _ _ _ hj,Arj hne,hsj]
   rw[Fv _ _ (by simp) hu1,Bm _ _ _ _ hv1,As,As,Ap,Ap,List.set_comm _ _ (λe=>hne e.symm)]
theorem Oo: ∀a b:List UInt8,Lib.compareBytes a b<0↔Op.bytesLess a b=true
 | [],[]=>by simp[Lib.compareBytes,Op.bytesLess]
 | [],_::_=>by simp[Lib.compareBytes,Op.bytesLess]
 |_::_,[]=>by simp[Lib.compareBytes,Op.bytesLess]
 |x::a,y::b=>by
  have ih:=Oo a b;unfold Lib.compareBytes Op.bytesLess
  by_cases h1:x<y
  ·simp[h1]
  ·by_cases h2:y<x
   ·have:x≠y:=λe=>by subst e;exact h1 h2
    simp[h1,h2,this]
   ·have:x=y:=UInt8.le_antisymm (UInt8.not_lt.1 h2) (UInt8.not_lt.1 h1);subst this;simp only[h1,if_false,decide_false,beq_self_eq_true,Asb,Aux];exact ih
theorem Tu: ∀a b:List UInt8,Lib.compareBytes a b=0↔a=b
 | [],[]=>by simp[Lib.compareBytes]
 | [],_::_=>by simp[Lib.compareBytes]
 |_::_,[]=>by simp[Lib.compareBytes]
 |x::a,y::b=>by
  have ih:=Tu a b;unfold Lib.compareBytes
  by_cases h1:x<y
  ·have:x≠y:=λe=>by subst e;exact UInt8.lt_irrefl x h1
   simp[h1,this]
  ·by_cases h2:y<x
   ·have:x≠y:=λe=>by subst e;exact h1 h2
    simp[h1,h2,this]
   ·have:x=y:=UInt8.le_antisymm (UInt8.not_lt.1 h2) (UInt8.not_lt.1 h1);subst this;simp only[h1,if_false,ih,List.cons.injEq,true_and]
theorem Fj (a:List UInt8):Op.bytesLess a a=false:=by
 cases h:Op.bytesLess a a with
 |false=>rfl
 |true=>
  have h1:=(Oo a a).2 h;have h2:=(Tu a a).2 rfl;omega
theorem F9: ∀ {a b c:List UInt8},Op.bytesLess a b=true->Op.bytesLess b c=true->Op.bytesLess a c=true
 |_,[],_,h,_=>by unfold Op.bytesLess at h;simp at h
 |_,_::_,[],_,h=>by unfold Op.bytesLess at h;simp at h
 | [],_::_,_::_,_,_=>by unfold Op.bytesLess;rfl
 |x::a,y::b,z::c,h,k=>by
  unfold Op.bytesLess at h k ⊢;simp only[At0,decide_eq_true_eq,Aq6,beq_iff_eq] at h k ⊢
  rcases h with h| ⟨rfl,h⟩<;>rcases k with k| ⟨rfl,k⟩
  ·exact .inl (UInt8.lt_trans h k)
  ·exact .inl h
  ·exact .inl k
  ·exact .inr ⟨rfl,F9 h k⟩
theorem Oq: ∀ {a b:List UInt8},Op.bytesLess a b=false->Op.bytesLess b a=false->a=b
 | [],[],_,_=>rfl
 | [],_::_,h,_=>by unfold Op.bytesLess at h;simp at h
 |_::_,[],_,h=>by unfold Op.bytesLess at h;simp at h
 |x::a,y::b,h,k=>by
  unfold Op.bytesLess at h k;simp only[Asw,decide_eq_false_iff_not,Awb,beq_eq_false_iff_ne] at h k;have e:x=y:=UInt8.le_antisymm (UInt8.not_lt.1 k.1) (UInt8.not_lt.1 h.1);subst e;rw[Oq (h.2.resolve_left λq=>q rfl) (k.2.resolve_left λq=>q rfl)]
theorem Xq {a b:List UInt8}(h:Op.bytesLess a b=true):a≠b:=by
 rintro rfl;rw[Fj] at h;cases h
theorem Agw {a b:List UInt8}(h:Op.bytesLess a b=true):Op.bytesLess b a=false:=by
 cases k:Op.bytesLess b a with
 |false=>rfl
 |true=>
  have:=F9 h k;rw[Fj] at this;cases this
theorem Ot {k s:List UInt8}(h:ordOk (some k) s=true):Op.bytesLess k s=true:=by
 unfold ordOk leS at h;simp only[Atn,Asw,decide_eq_false_iff_not] at h;cases hk:Op.bytesLess k s with
 |true=>rfl
 |false=>exact absurd (Oq h.1 hk) h.2
theorem G2: ∀ {l:List (List UInt8×List UInt8)} {k:List UInt8},attrsOk (some k) l=true-> ∀a∈l,Op.bytesLess k a.1=true
 | [],_,_,a,h=>by cases h
 |b::l,k,h,a,ha=>by
  rw[attrsOk,Aq6] at h;have h1:Op.bytesLess k b.1=true:=by
   have:=h.1;unfold attrOk at this;simp only[Aq6] at this;exact Ot this.2.2
  rcases Arl.1 ha with rfl|ha
  ·exact h1
  ·exact F9 h1 (G2 h.2 a ha)
theorem Cw {k:Option (List UInt8)}{a:List UInt8×List UInt8}{l:List (List UInt8×List UInt8)}(h:attrsOk k (a::l)=true):attrsOk (some a.1) l=true:=by
 rw[attrsOk,Aq6] at h;exact h.2
def posK (k:List UInt8):List (List UInt8×List UInt8)->Nat
 | []=>0
 |a::l=>bif Op.bytesLess a.1 k then posK k l+1 else 0
theorem Abn (k:List UInt8): ∀l,posK k l≤l.length
 | []=>Ara _
 |a::l=>by
  rw[posK];have:=Abn k l;cases Op.bytesLess a.1 k with
  |true=>simpa using this
  |false=>simp
theorem Afi (k:List UInt8): ∀ {l:List (List UInt8×List UInt8)} {k0:Option (List UInt8)},attrsOk k0 l=true-> ∀(h:Nat) (hl:h<l.length),(Op.bytesLess l[h].1 k=true↔h<posK k l)
 |a::l,k0,hs,h,hl=>by
  rw[posK];cases ha:Op.bytesLess a.1 k with
  |true=>
   cases h with
   |zero=>simp[ha]
   |succ h=>
    simp only[cond_true,Av7,Auh];exact Afi k (Cw hs) h (by simpa using hl)
  |false=>
   simp only[cond_false,Nat.not_lt_zero,iff_false,Bool.not_eq_true];cases h with
   |zero=>exact ha
   |succ h=>
    have hl':h<l.length:=by simpa using hl
    have:=G2 (Cw hs) _ (Arq hl');simp only[Av7];cases hb:Op.bytesLess l[h].1 k with
    |false=>rfl
    |true=>
     rw[F9 this hb] at ha;cases ha
def hasK (k:List UInt8)(l:List (List UInt8×List UInt8)):Bool:=decide (posK k l<l.length)&&decide ((l.getD (posK k l) ([],[])).1=k)
def midA (o:OpT):List (List UInt8×List UInt8):=bif o.gone then [] else [(o.key,o.value)]
def setA (o:OpT)(l:List (List UInt8×List UInt8)):List (List UInt8×List UInt8):=l.take (posK o.key l)++ (midA o++l.drop (posK o.key l+ (bif hasK o.key l then 1 else 0)))
def refA (o:OpT):Bool->List (List UInt8×List UInt8)->List (List UInt8×List UInt8)
 |done,[]=>bif done then [] else [(o.key,o.value)]
 |done,a::l=>(bif !done&& !Op.bytesLess a.1 o.key then [(o.key,o.value)] else [])++ ((bif decide (a.1=o.key) then [] else [a])++refA o (done|| !Op.bytesLess a.1 o.key) l)
theorem Qg (o:OpT): ∀ {l:List (List UInt8×List UInt8)},(∀a∈l,a.1≠o.key)->refA o true l=l
 | [],_=>rfl
 |a::l,h=>by
  rw[refA,decide_eq_false (h a Ari)];simp[Qg o λb hb=>h b (Are _ hb)]
theorem Mb (o:OpT): ∀ {l:List (List UInt8×List UInt8)} {k0:Option (List UInt8)},attrsOk k0 l=true->refA o o.gone l=setA o l
 | [],_,_=>by
  unfold setA midA;rw[refA];simp[posK]
 |a::l,k0,h=>by
  have ih:=Mb o (Cw h);have hb:=G2 (Cw h);rw[refA];cases ha:Op.bytesLess a.1 o.key with
  |true=>
   have hne:=Xq ha;have e1:posK o.key (a::l)=posK o.key l+1:=by rw[posK,ha];rfl
   have e2:hasK o.key (a::l)=hasK o.key l:=by
    unfold hasK;rw[e1];simp
   simp only[Arm,Atu,cond_false,Ar9,Avt,decide_eq_false hne];rw[ih];unfold setA;rw[e1,e2];rw[Auz,Nat.add_right_comm (posK o.key l) 1,Au0];simp
  |false=>
   have e1:posK o.key (a::l)=0:=by rw[posK,ha];rfl
   simp only[Ash,Avs,Bool.or_true]
   by_cases he:a.1=o.key
   ·have e2:hasK o.key (a::l)=true:=by unfold hasK;rw[e1];simp[he]
    rw[decide_eq_true he,Qg o λb hm e=>by
     have:=hb b hm;rw[he,←e,Fj] at this;cases this]
    unfold setA midA;rw[e1,e2];cases o.gone<;>rfl
   ·have e2:hasK o.key (a::l)=false:=by unfold hasK;rw[e1];simp[he]
    have hka:Op.bytesLess o.key a.1=true:=by
     cases hk:Op.bytesLess o.key a.1 with
     |true=>rfl
     |false=>exact absurd (Oq ha hk) he
    rw[decide_eq_false he,Qg o λb hm e=>by
     have:=F9 hka (hb b hm);rw[←e,Fj] at this;cases this]
    unfold setA midA;rw[e1,e2];cases o.gone<;>rfl
theorem Rw {t s:Tree}{k:Int}(p:List Int)(h:subT t k=some s):atT t (k::p)=atT s p:=by rw[atT,h]
theorem Afj {at_:Int}(h0:0≤at_)(x:Tree): ∀(fr to:List Int) (t s z:Tree),fr≠[]->atT t fr=some s->within fr to=false->atT t to=some z->at_≤z.subs.length->
  ∃s',atT (changeT (insT at_ x) t to) (liftP to at_ fr)=some s'
 | [],_,_,_,_,h,_,_,_,_=>absurd rfl h
 |k::q,[],t,s,z,_,hs,hw,hz,hat=>by
  rw[atT] at hz;injection hz with hz
  subst hz;rw[atT] at hs;cases hu:subT t k with
  |none=>rw[hu] at hs;cases hs
  |some u=>
  rw[hu] at hs;obtain⟨hk,hsk,_⟩:=A1 hu;have hkl:=Ab hsk;rw[Tt];show ∃s',atT (insT at_ x t) _=some s'
  by_cases h:at_≤k
  ·rw[decide_eq_true h];simp only[cond_true];have e:(k+1).toNat=k.toNat+1:=by omega
   have hu':subT (insT at_ x t) (k+1)=some u:=by
    rw[Ei,Bx _ _ _ (by omega),e,On _ _ _ _ (by omega) (by omega),hsk]
   exact⟨s,by rw[Rw _ hu'];exact hs⟩
  ·rw[decide_eq_false h];simp only[cond_false];have hu':subT (insT at_ x t) k=some u:=by
    rw[Ei,Bx _ _ _ hk,Om _ _ _ _ (by omega) hkl,hsk]
   exact⟨s,by rw[Rw _ hu'];exact hs⟩
 |k::q,j::to,t,s,z,_,hs,hw,hz,hat=>by
  rw[atT] at hs hz;cases hu:subT t k with
  |none=>rw[hu] at hs;cases hs
  |some u=>
  rw[hu] at hs;simp only at hs;obtain⟨hk,hsk,_⟩:=A1 hu;have hkl:=Ab hsk
  by_cases h:k=j
  ·subst h;rw[hu] at hz;simp only at hz;rw[Fo] at hw;simp only[decide_true,Asb] at hw;have hq:q≠[]:=by
    rintro rfl;rw[Ge] at hw;cases hw
   obtain⟨s',ih⟩:=Afj h0 x q to u s z hq hs hw hz hat;rw[Y3,Bm _ _ _ _ hu];have hu1:subT (t.withSubs (t.subs.set k.toNat (changeT (insT at_ x) u to))) k=some (changeT (insT at_ x) u to):=by
    rw[Bx _ _ _ hk,As5 hkl]
   exact⟨s',by rw[Rw _ hu1];exact ih⟩
  ·cases hv:subT t j with
   |none=>rw[hv] at hz;cases hz
   |some v=>
   obtain⟨hj,hsj,_⟩:=A1 hv;rw[Vh _ _ _ (λe=>h e.symm),Bm _ _ _ _ hv];have hne:k.toNat≠j.toNat:=by omega
   have hu1:subT (t.withSubs (t.subs.set j.toNat (changeT (insT at_ x) v to))) k=some u:=by
    rw[Bx _ _ _ hk,Arj (λe=>hne e.symm),hsk]
   exact⟨s,by rw[Rw _ hu1];exact hs⟩
theorem Mp {s u:Tree}{n:Nat}: ∀ {l:List Tree} {i:Nat},l[i]?=some s->u.weight≤s.weight+n->weights (l.set i u)≤weights l+n
 | [],i,h,_=>by simp at h
 |x::l,0,h,hu=>by
  simp at h;subst h;rw[Au6,weights,weights];omega
 |x::l,i+1,h,hu=>by
  simp at h;have:=Mp (l:=l) h hu;rw[Atb,weights,weights];omega
theorem Hx {F:Tree->Tree}{n:Nat}(hF: ∀y,(F y).weight≤y.weight+n): ∀(p:List Int) (t:Tree),(changeT F t p).weight≤t.weight+n
 | [],t=>hF t
 |i::p,t=>by
  rw[changeT];cases hs:subT t i with
  |none=>simp only;omega
  |some s=>
   have ih:=Hx hF p s;have h:=Mp (A1 hs).2.1 ih;have:=Dv t (t.subs.set i.toNat (changeT F s p));simp only;omega
theorem Ou (at_:Int)(x y:Tree):(insT at_ x y).weight≤y.weight+x.weight:=by
 have h1:=Dv y (y.subs.take at_.toNat++x::y.subs.drop at_.toNat);have h2:weights (y.subs.take at_.toNat++x::y.subs.drop at_.toNat)=weights y.subs+x.weight:=by
  conv=>rhs;rw[←Ar4 at_.toNat y.subs]
  rw[Dk,Dk,weights];omega
 unfold insT;omega
theorem Abo (to:List Int)(at_:Int)(fr:List Int):(liftP to at_ fr).length=fr.length:=by
 unfold liftP;cases(decide (to.length<fr.length)&& (within to fr&&decide (at_≤fr.getD to.length 0)))<;>simp
theorem Abp (x t:Tree)(o:OpT):moveT x t o=changeT (insT (landT o.path.dropLast (lastP o.path) o.to o.at_).2 x) (withoutT t o.path) (landT o.path.dropLast (lastP o.path) o.to o.at_).1:=rfl
end Bow
