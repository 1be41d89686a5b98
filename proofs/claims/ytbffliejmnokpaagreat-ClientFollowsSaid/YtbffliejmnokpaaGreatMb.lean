/- The library, part 2: AE14, AE15, AE16, AE17, AE18, AE19, AE20, AE21, AE22, AE23, AE24, AE25, AE26, AE27, AE28, AE29, AE30. -/
import Derived.Test.YtbffliejmnokpaaGreatMa
import Derived.RangeFuncRecord
import Derived.Laws.MakeOwn
import Derived.Orders
import Derived.RangeFuncIn
set_option maxRecDepth 100000
set_option maxHeartbeats 4000000
namespace Bow
open Go
variable {c:Cx} {E:Env} {T:Heap} {F:Prop}
theorem Un {K:V->Heap->Prop}{o:Op}(h:evOp c o E T F K):F∨ ∃u T',K u T'∧OpTo c o E T u T':=by
 cases o with
 |move x=>exact Aod h
 |assign x=>exact Aiu h
 |pick x y z=>exact Aoe h
 |box t x=>exact Apv h
 |alloc t=>exact Al3 h
 |build t ps=>exact Alp h
 |buildSlice t l ps=>exact Aaq h
 |load t x=>exact Aof h
 |store t x y=>exact Al4 h
 |nilCheck x=>exact Aej h
 |binOp op t x y t'=>exact Al5 h
 |unOp op t x=>exact Aog h
 |convert s d x=>exact Agg h
 |makeFunc f xs ys=>exact Ad9 h
 |slice t x lo hi mx=>exact Alm h
 |fieldAddr t x f=>exact Aa8 h
 |field t x f=>exact Aln h
 |indexAddr t x ix=>exact Aa9 h
 |index t x ix=>exact Alo h
 |extract x i=>exact Agf h
 |call cl=>
  obtain⟨callee,args,ts⟩:=cl;cases callee with
  |builtin b=>
   obtain⟨args⟩:=args;obtain⟨ts⟩:=ts;unfold evOp at h;simp only at h;split at h
   ·exact Apr h
   ·exact Aps h
   ·exact Apt h
   ·exact Aig h
   ·exact .inl h
  |_=>exact .inl h
 |_=>exact .inl h
theorem Ends.of_steps {P:Program}{M M':Machine}{b:Frame}{cs:List Frame}{e:Exit}{a:Act}{w:World}(h:Steps P M M')(k:Ends P M' b cs e a w):Ends P M b cs e a w:=by
 cases e with
 |normal=>exact h.trans k
 |ret=>obtain⟨k',k⟩:=k;exact⟨k',h.trans k⟩
 |exit id=>obtain⟨k',k1,k⟩:=k;exact⟨k',k1,h.trans k⟩
 |goto l=>obtain⟨k',k1,k⟩:=k;exact⟨k',k1,h.trans k⟩
 |panic chain=>obtain⟨k',k⟩:=k;exact⟨k',h.trans k⟩
 |outgrown=>exact k
theorem Bw {todo:List Item}(h: ∀(w:World) (β:Nat->Loc) (H:Heap) (m:List Nat) (a:Act) (b:Frame) (cs:List Frame),SRel c.imps c.nt w β H m ⟨E,T,c.B,c.D⟩ a->b.fn=c.fn->b.kind=.normal->RoundOk β H c.ro b.roundOf->
  ∃(w':World) (β':Nat->Loc) (H':Heap) (m':List Nat) (a':Act) (todo':List Item) (s':St),Steps c.P (lone (b.atR a todo) cs w) (lone (b.atR a' todo') cs w')∧SRel c.imps c.nt w' β' H' m' s' a'∧Fr w β H w' β' H'∧
   Goes {c with B:=s'.B,D:=s'.D} todo' s'.E s'.T):Goes c todo E T:=by
 unfold Goes;intro w β H m a b cs hs h1 h2 h3;obtain⟨w',β',H',m',a',todo',s',k1,k2,k3,k4⟩:=h w β H m a b cs hs h1 h2 h3;unfold Goes at k4;obtain⟨e,s'',w'',β'',H'',m'',a'',g1,g2,g3,g4⟩:=k4 w' β' H' m' a' b cs k2 h1 h2 (h3.mono k3);exact⟨e,s'',w'',β'',H'',m'',a'',g1,g2,k3.trans g3,g4.of_steps k1⟩
theorem Bp {todo todo':List Item}(h: ∀(b:Frame) (a:Act) (cs:List Frame) (w:World),step c.P (lone (b.atR a todo) cs w)=.next (lone (b.atR a todo') cs w))(k:Goes c todo' E T):Goes c todo E T:=
 Bw λw β H m a b cs hs _ _ _=>⟨w,β,H,m,a,todo',⟨E,T,c.B,c.D⟩,.one (h b a cs w),hs,Fr.refl _ _ _,k⟩
theorem Aff {α:Type}: ∀(l:List α) (i:Nat),idxs i l=List.range' i l.length
 | [],i=>rfl
 |x::l,i=>by rw[idxs,Aff l (i+1)];rfl
theorem D8 {nt:Nat}{d:Option Tmp}{v:V}{K:Env->Prop}(h:putE nt d v E F K):F∨ ∃E',K E'∧((d=none∧E'=E)∨ ∃t,d=some t∧t<nt∧E'=(t,v)::E):=by
 unfold putE at h;cases d with
 |none=>exact .inr ⟨E,h,.inl ⟨rfl,rfl⟩⟩
 |some t=>
  simp only at h;cases hb:Nat.blt t nt with
  |false=>rw[hb] at h;exact .inl h
  |true=>
   rw[hb] at h;exact .inr ⟨_,h,.inr ⟨t,rfl,Arp hb,rfl⟩⟩
theorem An4 {nt:Nat}{d:Option Tmp}{v:V}{K:Env->Prop}(hd:d=none∨ ∃t,d=some t∧t<nt)(h:putE nt d v E F K): ∃E',K E'∧((d=none∧E'=E)∨ ∃t,d=some t∧t<nt∧E'=(t,v)::E):=by
 rcases hd with rfl| ⟨t,rfl,ht⟩
 ·exact⟨E,h,.inl ⟨rfl,rfl⟩⟩
 ·unfold putE at h;simp only at h;have hb:Nat.blt t nt=true:=Av9 ht;rw[hb] at h;exact⟨_,h,.inr ⟨t,rfl,ht,rfl⟩⟩
theorem CallThen.mono {g:FuncId}{args:List V}{K K':V->St->Prop}(h:CallThen c g args E T K)(hk: ∀x s',K x s'->K' x s'):CallThen c g args E T K':=by
 unfold CallThen at h ⊢;refine⟨h.1,λw β H m a vals cs hs hl hr=> ?_⟩;obtain⟨x,s',v,w',β',H',m',fr,k1,k2⟩:=h.2 w β H m a vals cs hs hl hr;exact⟨x,s',v,w',β',H',m',fr,hk _ _ k1,k2⟩
theorem SRel.putTo {imps:List Nat}{nt:Nat}{w:World}{β:Nat->Loc}{H:Heap}{m:List Nat}{B:Base}{D:List Nat}{a:Act}{d:Option Tmp}{x:V}{v:Value}{E':Env}(h:SRel imps nt w β H m ⟨E,T,B,D⟩ a)(hx:Rep w β H (x.conv m) v)
  (hd:(d=none∧E'=E)∨ ∃t,d=some t∧t<nt∧E'=(t,x)::E):SRel imps nt w β H m ⟨E',T,B,D⟩ (a.put d v):=by
 rcases hd with⟨rfl,rfl⟩| ⟨t,rfl,ht,rfl⟩
 ·exact h
 ·exact h.put ht hx
theorem F8 {ops:Array Oper}{j:Nat}{oj:Oper}{s:Tmp}{a:Act}(h1:ops[j]?=some oj)(h2:oj.dst=some s):
  yielded ops a.tmps j=match a.tmps.getD s Go.undef with| .bool b=>some b|_=>none:=by
 unfold yielded;simp only[h1,Option.bind_some,h2];cases hx:a.tmps[s]? with
 |none=>simp[Atr,hx,Go.undef]
 |some v=>
  simp only[Atr,hx,Ath];cases v<;>rfl
section region
variable {ops:Array Oper} {i:Nat} {rest:List Nat} {k:List Item} {o:Oper} {n:Nat}
theorem Ls {u:V}{T':Heap}{E':Env}(ho:ops[i]?=some o)(hw: ∀(w:World) (β:Nat->Loc) (H:Heap) (m:List Nat) (a:Act),SRel c.imps c.nt w β H m ⟨E,T,c.B,c.D⟩ a->Region.wanted o (yielded ops a.tmps)=true)
  (hop:OpTo c o.op E T u T') (hnd: ∀cl,o.op≠ .defer cl) (hd:(o.dst=none∧E'=E)∨ ∃t,o.dst=some t∧t<c.nt∧E'=(t,u)::E) (h:Goes c (.inRegion ops rest::k) E' T'):
  Goes c (.inRegion ops (i::rest)::k) E T:=by
 refine Bw λw β H m a b cs hs h1 h2 h3=> ?_;obtain⟨nx,v,w',β',H',m',hrun,hnx,g1,g2,g3,_⟩:=hop o rfl w β H m a hs;have hfin:(b.atR a (.inRegion ops (i::rest)::k)).finish v=b.atR (a.put o.dst v) (.inRegion ops rest::k):=by
  rw[Frame.finish_atR];simp[ho]
 refine⟨w',β',H',m',a.put o.dst v,.inRegion ops rest::k,⟨E',T',c.B,c.D⟩,.one ?_,g1.putTo g3 hd,g2,h⟩;refine step_lone_go ?_;rw[stepGR_op ho (hw w β H m a hs),Oper.semAt_eq _ _ _ hnd]
 rcases hnx with rfl| ⟨rfl,rfl⟩
 ·simp[stepG.apply,hrun,Sem.runT_eq,hfin]
 ·simp[stepG.apply,hrun,Sem.runT_eq,hfin]
theorem Aih {E':Env}(ho:ops[i]?=some o)(hw: ∀(w:World) (β:Nat->Loc) (H:Heap) (m:List Nat) (a:Act),SRel c.imps c.nt w β H m ⟨E,T,c.B,c.D⟩ a->Region.wanted o (yielded ops a.tmps)=false)
  (hd:(o.dst=none∧E'=E)∨ ∃t,o.dst=some t∧t<c.nt∧E'=(t,.tup [])::E) (h:Goes c (.inRegion ops rest::k) E' T):
  Goes c (.inRegion ops (i::rest)::k) E T:=by
 refine Bw λw β H m a b cs hs h1 h2 h3=> ?_;refine⟨w,β,H,m,a.put o.dst Go.undef,.inRegion ops rest::k,⟨E',T,c.B,c.D⟩,.one ?_,hs.putTo (x:=.tup []) (.tup [] #[] rfl λj z u h1 _=>by simp at h1) hd,Fr.refl _ _ _,h⟩;have:=stepR_op_skip (P:=c.P) (b:=b) (a:=a) (k:=k) (cs:=cs) (w:=w) (ops:=ops) (i:=i) (rest:=rest) (by simp[ho,hw w β H m a hs]);simpa[ho] using this
theorem Aii {f:Operand}{args:Array Operand}{ts:Array TypeId}{g:FuncId}{first cap:List V}(ho:ops[i]?=some o)(hw: ∀(w:World) (β:Nat->Loc) (H:Heap) (m:List Nat) (a:Act),SRel c.imps c.nt w β H m ⟨E,T,c.B,c.D⟩ a->Region.wanted o (yielded ops a.tmps)=true)
  (hop:o.op=.call {callee:=.value f,args:=args,argTypes:=ts}) (hf:opd E f=.fn (.func g) first cap)
  (h:CallThen c g (first++args.toList.map (opd E)++cap) E T λx s'=> ∃E',Goes {c with B:=s'.B,D:=s'.D} (.inRegion ops rest::k) E' s'.T∧((o.dst=none∧E'=s'.E)∨ ∃t,o.dst=some t∧t<c.nt∧E'=(t,x)::s'.E)):
  Goes c (.inRegion ops (i::rest)::k) E T:=by
 refine Bw λw β H m a b cs hs h1 h2 h3=> ?_;unfold CallThen at h;obtain⟨⟨fn,hfn,hnm,hbd⟩,h⟩:=h;have hfv:Rep w β H ((opd E f).conv m) (a.eval f):=Ae hs f;rw[hf] at hfv;simp only[V.conv] at hfv;generalize hq:a.eval f=q at hfv;cases hfv with
 |fn _ _ _ va vc hla hlc r1 r2=>
  have hall: ∀(j:Nat) (x:V) (v:Value),(first++args.toList.map (opd E)++cap)[j]?=some x->(va++args.map a.eval++vc)[j]?=some v->Rep w β H (x.conv m) v:=by
   intro j x v hj hv;rw[V.convL_eq,Arf] at hla hlc
   rcases Ar3 j (va.size+args.size) with hlt|hge
   ·rw[Aq9 (by simp;omega)] at hj;rw[Ass (by simp;omega)] at hv
    rcases Ar3 j va.size with hlt2|hge2
    ·rw[Aq9 (by omega)] at hj;rw[Ass hlt2] at hv;exact r1 j _ v (by rw[V.convL_eq,Arv,hj];rfl) hv
    ·rw[Arh (by omega)] at hj;rw[Ats hge2] at hv;simp only[Arv,Asm,Asu,Au4] at hj hv;obtain⟨z,e1,e2⟩:=hj;obtain⟨z',e3,e4⟩:=hv;rw[hla] at e1;rw[e1] at e3;injection e3 with e3
     subst e3 e2 e4;exact Ae hs z
   ·rw[Arh (by simp;omega)] at hj;rw[Ats (by simp;omega)] at hv;refine r2 (j- (va.size+args.size)) _ v (by rw[V.convL_eq,Arv];simp only[Arb,Arf,As4,hla] at hj;rw[hj];rfl) (by simpa using hv)
  obtain⟨x,s',v,w',β',H',m',fr,⟨E',kk,hd⟩,g2,g3,g4,g5,g6,g7,_⟩:=h w β H m a (va++args.map a.eval++vc) (b.atR a (.inRegion ops (i::rest)::k)::cs) hs
   (by rw[V.convL_eq,Arf] at hla hlc;simp[hla,hlc]) hall
  have hfin:(b.atR a (.inRegion ops (i::rest)::k)).finish v=b.atR (a.put o.dst v) (.inRegion ops rest::k):=by
   rw[Frame.finish_atR];simp[ho]
  have s1:step c.P (lone (b.atR a (.inRegion ops (i::rest)::k)) cs w)=.next (lone (Frame.enter c.P g (va++args.map a.eval++vc) .normal) (b.atR a (.inRegion ops (i::rest)::k)::cs) w):=by
   refine step_lone_go ?_;rw[stepGR_op ho (hw w β H m a hs),Oper.semAt_eq _ _ _ (by intro cl;rw[hop];exact λh=>by cases h)];have hrun:(execOp a.eval o).run c.P w=.ok (.enter g (va++args.map a.eval++vc)) w:=by
    have hne : fn.name ≠ "runtime.NumGoroutine" := by simpa using hnm
    have hbn:fn.body≠none:=by intro h;rw[h] at hbd;cases hbd
    simp[execOp,hop,resolve,Deferred.ofValue,hq,invoke,callFunc,hfn,hne,hbn]
   simp[stepG.apply,hrun,Sem.runT_eq,Frame.atR]
  have s2:step c.P (lone fr (b.atR a (.inRegion ops (i::rest)::k)::cs) w')=.next (lone (b.atR (a.put o.dst v) (.inRegion ops rest::k)) cs w'):=by
   rw[←hfin];exact step_leave_returned g7
  exact⟨w',β',H',m',a.put o.dst v,.inRegion ops rest::k,⟨E',s'.T,s'.B,s'.D⟩,.head s1 (g5.trans (.one s2)),g2.putTo g4 hd,g3,kk⟩
end region
theorem J7 {o:Oper}(hg:o.guard=none)(y:Nat->Option Bool):Region.wanted o y=true:=by simp[Region.wanted,hg]
theorem Av: ∀(n:Nat) (c:Cx) (todo:List Item) (E:Env) (T:Heap),evp c n todo E T->Goes c todo E T
 |0,c,todo,E,T,h=>h
 |n+1,c,todo,E,T,h=>by
  unfold evp at h;split at h
  ·
   unfold Goes;intro w β H m a b cs hs _ _ _;exact⟨.normal,_,w,β,H,m,a,h,hs,Fr.refl _ _ _,.refl _ _⟩
  ·exact Bp (λb a cs w=>stepR_seq) (Av n _ _ _ _ h)
  ·exact Bp (λb a cs w=>stepR_skip) (Av n _ _ _ _ h)
  ·exact Bp (λb a cs w=>stepR_label) (Av n _ _ _ _ h)
  ·exact Bp (λb a cs w=>stepR_inBlock) (Av n _ _ _ _ h)
  ·exact Bp (λb a cs w=>step_lone_go (by simp[stepG,stepG.exec,Frame.atR])) (Av n _ _ _ _ h)
  ·unfold Goes;intro w β H m a b cs hs _ _ _;exact⟨.ret,_,w,β,H,m,a,h,hs,Fr.refl _ _ _,⟨_,.refl _ _⟩⟩
  ·rename_i s x y k;have key: ∀(t:Bool) (E':Env),(∀(w:World) (β:Nat->Loc) (H:Heap) (m:List Nat) (a:Act),SRel c.imps c.nt w β H m ⟨E,T,c.B,c.D⟩ a->(E'=E∨a.tmps.getD s Go.undef=.bool t->SRel c.imps c.nt w β H m ⟨E',T,c.B,c.D⟩ a)∧a.eval (.tmp s)=.bool t)->
     Goes c (.code (if t then x else y)::k) E' T->Goes c (.code (.cond (.tmp s) x y)::k) E T:=λt E' h1 h2=>
    Bw λw β H m a b cs hs _ _ _=>
     have hv:=(h1 w β H m a hs).2
     ⟨w,β,H,m,a,_,⟨E',T,c.B,c.D⟩,.one (stepR_cond hv),(h1 w β H m a hs).1 (.inr hv),Fr.refl _ _ _,h2⟩
   split at h
   ·rename_i hx;refine key true E (λw β H m a hs=>⟨λ_=>hs,?_⟩) (Av n _ _ _ _ h);have:=Ae hs (.tmp s);simp only[opd,hx] at this;exact Kp this
   ·rename_i hx;refine key false E (λw β H m a hs=>⟨λ_=>hs,?_⟩) (Av n _ _ _ _ h);have:=Ae hs (.tmp s);simp only[opd,hx] at this;exact Kq this
   ·rename_i t hx;have hv: ∀(w:World) (β:Nat->Loc) (H:Heap) (m:List Nat) (a:Act),SRel c.imps c.nt w β H m ⟨E,T,c.B,c.D⟩ a->a.tmps.getD s Go.undef=.bool t:=λw β H m a hs=>by
     have:=Ae hs (.tmp s);simp only[opd,hx] at this;exact Fi this
    cases t with
    |true=>exact key true _ (λw β H m a hs=>⟨λ_=>hs.know (by rw[hv w β H m a hs];exact .tt),hv w β H m a hs⟩) (h.1 rfl)
    |false=>exact key false _ (λw β H m a hs=>⟨λ_=>hs.know (by rw[hv w β H m a hs];exact .ff),hv w β H m a hs⟩) (h.2 rfl)
   ·exact h
  ·exact Bp (λb a cs w=>stepR_block) (Av n _ _ _ _ h)
  ·exact Bp (λb a cs w=>step_lone_go (by simp[stepG,stepG.exec,Frame.atR])) (Av n _ _ _ _ h)
  ·rename_i id k;cases hm:memN c.stop id with
   |true=>rw[hm] at h;exact h
   |false=>
   rw[hm] at h;simp only[cond_false] at h;split at h
   ·rename_i hx;exact Bp (λb a cs w=>stepR_exit hx) (Av n _ _ _ _ h)
   ·exact h
  ·split at h
   ·rename_i hx;exact Bp (λb a cs w=>stepR_goto hx) (Av n _ _ _ _ h)
   ·exact h
  ·rename_i id ops k;refine Bp (λb a cs w=>stepR_region) (Av n _ _ _ _ ?_);rw[Aff,As4,←List.range_eq_range'] at h;exact h
  ·exact Bp (λb a cs w=>stepR_region_end) (Av n _ _ _ _ h)
  ·rename_i ops i rest k;rw[Af,Asm] at h;split at h
   ·exact h
   rename_i o ho;have doit: ∀(Fl:Prop) (E1:Env),(∀(w:World) (β:Nat->Loc) (H:Heap) (m:List Nat) (a:Act),SRel c.imps c.nt w β H m ⟨E1,T,c.B,c.D⟩ a->Region.wanted o (yielded ops a.tmps)=true)->
     (match o.op with
     | .call {callee:=.value f,args,.. }=>match opd E1 f with
      | .fn (.func g) first cap=>opds E1 args.toList λvs=>putE c.nt o.dst .undef E1 Fl λ_=>CallThen c g (first++vs++cap) E1 T λx s'=>putE c.nt o.dst x s'.E Fl λE'=>evp {c with B:=s'.B,D:=s'.D} n (.inRegion ops rest::k) E' s'.T
      |_=>Fl
     |op=>evOp c op E1 T Fl λv T'=>putE c.nt o.dst v E1 Fl λE'=>evp c n (.inRegion ops rest::k) E' T')->Fl∨Goes c (.inRegion ops (i::rest)::k) E1 T:=by
    intro Fl E1 hw h;split at h
    ·rename_i f args ts hop;split at h
     ·rename_i g first cap hf;rw[Jo] at h
      rcases D8 h with h| ⟨_,h,hd⟩
      ·exact .inl h
      refine .inr (Aii ho hw hop hf (h.mono λx s' hk=> ?_));obtain⟨E',hk,hd'⟩:=An4 (by rcases hd with⟨hd,_⟩| ⟨t,hd,hl,_⟩;exact .inl hd;exact .inr ⟨t,hd,hl⟩) hk;exact⟨E',Av n _ _ _ _ hk,hd'⟩
     ·exact .inl h
    ·rename_i hnc
     by_cases hdf: ∃cl,o.op=.defer cl
     ·obtain⟨cl,hcl⟩:=hdf;rw[hcl] at h;exact .inl h
     rcases Un h with h| ⟨u,T',h,hto⟩
     ·exact .inl h
     rcases D8 h with h| ⟨E',h,hd⟩
     ·exact .inl h
     exact .inr (Ls ho hw hto (λcl hcl=>hdf ⟨cl,hcl⟩) hd (Av n _ _ _ _ h))
   extract_lets skip step at h
   split at h
   ·rename_i hg;exact(doit _ E (λw β H m a hs=>J7 hg _) h).elim id id
   ·rename_i j want hg;rw[Af,Asm] at h;split at h
    ·exact h
    rename_i oj hoj;split at h
    ·exact h
    rename_i s hdst;have hwant: ∀(t:Bool) (a:Act),a.tmps.getD s Go.undef=.bool t->Region.wanted o (yielded ops a.tmps)=(t==want):=λt a ha=>by
     simp only[Region.wanted,hg,F8 hoj hdst,ha];cases t<;>cases want<;>rfl
    have dont: ∀E1:Env,(∀(w:World) (β:Nat->Loc) (H:Heap) (m:List Nat) (a:Act),SRel c.imps c.nt w β H m ⟨E1,T,c.B,c.D⟩ a->Region.wanted o (yielded ops a.tmps)=false)->
      (putE c.nt o.dst (.tup []) E1 (Goes c (.inRegion ops (i::rest)::k) E T) λE'=>evp c n (.inRegion ops rest::k) E' T)->Goes c (.inRegion ops (i::rest)::k) E T∨Goes c (.inRegion ops (i::rest)::k) E1 T:=by
     intro E1 hw h
     rcases D8 h with h| ⟨E',h,hd⟩
     ·exact .inl h
     ·exact .inr (Aih ho hw hd (Av n _ _ _ _ h))
    have know: ∀(x:V),(∀(w:World) (β:Nat->Loc) (H:Heap) (m:List Nat) (a:Act),SRel c.imps c.nt w β H m ⟨E,T,c.B,c.D⟩ a->Rep w β H (x.conv m) (a.tmps.getD s Go.undef))->Goes c (.inRegion ops (i::rest)::k) ((s,x)::E) T->Goes c (.inRegion ops (i::rest)::k) E T:=λx hx hk=>
     Bw λw β H m a b cs hs _ _ _=>⟨w,β,H,m,a,_,⟨(s,x)::E,T,c.B,c.D⟩,.refl _ _,hs.know (hx w β H m a hs),Fr.refl _ _ _,hk⟩
    split at h
    ·rename_i hx;have hv: ∀(w:World) (β:Nat->Loc) (H:Heap) (m:List Nat) (a:Act),SRel c.imps c.nt w β H m ⟨E,T,c.B,c.D⟩ a->a.tmps.getD s Go.undef=.bool true:=λw β H m a hs=>by
      have:=Ae hs (.tmp s);simp only[opd,hx] at this;exact Kp this
     cases want with
     |true=>exact(doit _ E (λw β H m a hs=>by rw[hwant true a (hv w β H m a hs)];rfl) h).elim id id
     |false=>exact(dont E (λw β H m a hs=>by rw[hwant true a (hv w β H m a hs)];rfl) h).elim id id
    ·rename_i hx;have hv: ∀(w:World) (β:Nat->Loc) (H:Heap) (m:List Nat) (a:Act),SRel c.imps c.nt w β H m ⟨E,T,c.B,c.D⟩ a->a.tmps.getD s Go.undef=.bool false:=λw β H m a hs=>by
      have:=Ae hs (.tmp s);simp only[opd,hx] at this;exact Kq this
     cases want with
     |true=>exact(dont E (λw β H m a hs=>by rw[hwant false a (hv w β H m a hs)];rfl) h).elim id id
     |false=>exact(doit _ E (λw β H m a hs=>by rw[hwant false a (hv w β H m a hs)];rfl) h).elim id id
    ·rename_i t hx;have hv: ∀(w:World) (β:Nat->Loc) (H:Heap) (m:List Nat) (a:Act),SRel c.imps c.nt w β H m ⟨E,T,c.B,c.D⟩ a->a.tmps.getD s Go.undef=.bool t:=λw β H m a hs=>by
      have:=Ae hs (.tmp s);simp only[opd,hx] at this;exact Fi this
     cases t with
     |true=>exact know .tt (λw β H m a hs=>by rw[hv w β H m a hs];exact .tt) (h.1 rfl)
     |false=>exact know .ff (λw β H m a hs=>by rw[hv w β H m a hs];exact .ff) (h.2 rfl)
    ·rename_i hx;refine(dont E (λw β H m a hs=> ?_) h).elim id id;have:=Ae hs (.tmp s);simp only[opd,hx,V.conv,V.convL] at this;simp only[Region.wanted,hg,F8 hoj hdst];have e:a.tmps.getD s Go.undef=.tuple #[]:=by
      generalize hq:a.eval (.tmp s)=q at this;have hq':a.tmps.getD s Go.undef=q:=hq;rw[hq'];cases this with
      |tup _ vs hl _=>
       have:vs.size=0:=hl.symm;rw[Auk this]
     rw[e];rfl
    ·exact h
  ·exact h
theorem go {c:Cx}{todo:List Item}{E:Env}{T:Heap}(n:Nat)(h:evp c n todo E T):Goes c todo E T:=Av n c todo E T h
def bare:Act:= {tmps:= #[],defers:=[]}
theorem SRel.bare {imps:List Nat}{nt:Nat}{w:World}{β:Nat->Loc}{H:Heap}{m:List Nat}{E:Env}{T:Heap}{B:Base}{D:List Nat}{a:Act}(h:SRel imps nt w β H m ⟨E,T,B,D⟩ a):SRel imps 0 w β H m ⟨[],T,B,[]⟩ bare:=
 ⟨h.hrel,rfl,λk=>by simp[lk,V.conv];exact .undef _,h.mlen,h.nodup,h.loc,h.imp,h.base,h.fut,h.own,by simp,h.scT,rfl,by simp⟩
@[irreducible] def Fun (P:Program) (f:FuncId) (T:Heap) (args:List V) (Q:V->Heap->Prop):Prop:=
 Enterable P f∧ ∀(w:World) (β:Nat->Loc) (H:Heap) (m:List Nat) (B:Base) (vals:Array Value) (cs:List Frame),SRel m 0 w β H m ⟨[],T,B,[]⟩ bare->args.length=vals.size->
  (∀(j:Nat) (x:V) (v:Value),args[j]?=some x->vals[j]?=some v->Rep w β H (x.conv m) v)->
  ∃(x:V) (T':Heap) (v:Value) (w':World) (β':Nat->Loc) (H':Heap) (m':List Nat) (fr:Frame),Q x T'∧SRel m 0 w' β' H' m' ⟨[],T',B,[]⟩ bare∧Fr w β H w' β' H'∧Rep w' β' H' (x.conv m') v∧
   Steps P (lone (Frame.enter P f vals .normal) cs w) (lone fr cs w')∧fr.fn=f∧fr.leaving P w' (.returned v)
theorem Fun.mono {P:Program}{f:FuncId}{T:Heap}{args:List V}{Q Q':V->Heap->Prop}(h:Fun P f T args Q)(hq: ∀x T',Q x T'->Q' x T'):Fun P f T args Q':=by
 unfold Fun at h ⊢;refine⟨h.1,λw β H m B vals cs h1 h2 h3=> ?_⟩;obtain⟨x,T',v,w',β',H',m',fr,k1,k2⟩:=h.2 w β H m B vals cs h1 h2 h3;exact⟨x,T',v,w',β',H',m',fr,hq _ _ k1,k2⟩
def resK (P:Program)(imps:List Nat)(B:Base):List ResultVar->Env->Heap->Prop->(List V->Prop)->Prop
 | [],_,_,_,K=>K []
 | .tmp t::rs,E,T,F,K=>fv (lk E t) λv=>resK P imps B rs E T F λvs=>K (v::vs)
 | .cell a t::rs,E,T,F,K=>loadK P t (lk E a) T B imps F λv=>resK P imps B rs E T F λvs=>K (v::vs)
def resV:List V->V
 | [x]=>x
 |xs=>.tup xs
theorem Agh {P:Program}{t:TypeId}{q v:Value}{w:World}(h:(Instr.loadAt t q).run P w=.ok v w):(do loadVar t (←asAddr q)).run P w=.ok v w:=by
 unfold Instr.loadAt at h;cases q with
 |pointer a=>
  cases a with
  |none=>simp[Instr.sureAddr,stuck,Sem.run] at h
  |some a=>simpa[Instr.sureAddr,asAddr] using h
 |_=>simp[Instr.sureAddr,stuck,Sem.run] at h
def resOf (tmps:Array Value):ResultVar->Sem Value
 | .tmp t=>pure (tmps.getD t Go.undef)
 | .cell x t=>do loadVar t (←asAddr (tmps.getD x Go.undef))
theorem Alq (fn:Func)(tmps:Array Value):results fn tmps=(do let vs←fn.results.mapM (resOf tmps);pure (if h:vs.size=1 then vs[0] else .tuple vs)):=by
 unfold results
 congr 1
theorem Le {c:Cx}{F:Prop}: ∀(rs:List ResultVar) (E:Env) (T:Heap) (K:List V->Prop),resK c.P c.imps c.B rs E T F K->F∨ ∃xs,K xs∧ ∀(w:World) (β:Nat->Loc) (H:Heap) (m:List Nat) (a:Act),SRel c.imps c.nt w β H m ⟨E,T,c.B,c.D⟩ a->
   ∃vs:List Value,(rs.mapM (resOf a.tmps)).run c.P w=.ok vs w∧xs.length=vs.length∧ ∀(j:Nat) (x:V) (v:Value),xs[j]?=some x->vs[j]?=some v->Rep w β H (x.conv m) v
 | [],E,T,K,h=>.inr ⟨[],h,λw β H m a hs=>⟨[],by simp,rfl,λj x v h=>by simp at h⟩⟩
 | .tmp t::rs,E,T,K,h=>by
  rw[resK,Bq] at h
  rcases Le rs E T _ h with h| ⟨xs,h,h1⟩
  ·exact .inl h
  refine .inr ⟨_,h,λw β H m a hs=> ?_⟩;obtain⟨vs,k1,k2,k3⟩:=h1 w β H m a hs;refine⟨a.tmps.getD t Go.undef::vs,by simp only[List.mapM_cons,Sem.run_bind,resOf];simp[k1],by simp[k2],λj x v hj hv=> ?_⟩;cases j with
  |zero=>simp only[Ar2,Option.some.injEq] at hj hv;subst hj hv;exact hs.env t
  |succ j=>exact k3 j x v hj hv
 | .cell x t::rs,E,T,K,h=>by
  rw[resK] at h
  rcases Sn (c:=c) (x:=.tmp x) (E:=E) rfl h with h| ⟨u,h,hst⟩
  ·exact .inl h
  rcases Le rs E T _ h with h| ⟨xs,h,h1⟩
  ·exact .inl h
  refine .inr ⟨_,h,λw β H m a hs=> ?_⟩;obtain⟨vs,k1,k2,k3⟩:=h1 w β H m a hs;obtain⟨v,e1,e2⟩:=hst {(default:Oper) with op:=.load t (.tmp x)} rfl w β H m a hs;have hl:(Instr.loadAt t (a.tmps.getD x Go.undef)).run c.P w=.ok v w:=by
   simp only[execOp] at e1;have e1':((Instr.loadAt t (a.tmps.getD x Go.undef)).run c.P w).andThen (λv w=>.ok (Next.value v) w)=.ok (.value v) w:=by
    simpa[Act.eval] using e1
   generalize(Instr.loadAt t (a.tmps.getD x Go.undef)).run c.P w=q at e1';cases q with
   |ok v' w'=>simp at e1';rw[e1'.1,e1'.2]
   |halt _ _=>simp at e1'
  have hl':=Agh hl;refine⟨v::vs,by simp only[List.mapM_cons,resOf];rw[Sem.run_bind,hl'];simp[k1],by simp[k2],λj y z hj hv=> ?_⟩;cases j with
  |zero=>simp at hj hv;subst hj hv;exact e2
  |succ j=>exact k3 j y z hj hv
theorem Sf {P:Program}{fn:Func}{tmps:Array Value}{vs:List Value}{w:World}
  (h:(fn.results.toList.mapM (resOf tmps)).run P w=.ok vs w):
  (results fn tmps).run P w=.ok (if h:vs.toArray.size=1 then vs.toArray[0] else .tuple vs.toArray) w:=by
 rw[Alq,Sem.run_bind];have e:(fn.results.mapM (resOf tmps)).run P w=.ok vs.toArray w:=by
  rw[←Avh (xs:=fn.results),List.mapM_toArray];simp only[Sem.run_map,h,Result.andThen_ok]
 rw[e];rfl
section
variable {imps:List Nat} {nt:Nat} {w w':World} {β:Nat->Loc} {H:Heap} {m:List Nat} {E:Env} {T:Heap} {B:Base} {a:Act}
theorem Fr.killAt {r b N:Nat}{o:HObj}(ho:H[r]?=some (some o))(hβ:β r=.blk b N)(hos:w'.os=w.os)(ht:w'.tape=w.tape)(hu:w'.output=w.output)
  (hs:w'.heap.size=w.heap.size) (hk: ∀k,k≠b->w'.heap[k]?=w.heap[k]?) (hns: ¬isSeal o:=by exact λh=>h):Fr w β H w' β (H.set r none):=by
 refine⟨⟨hos,ht,hu,by rw[hs];exact Ara _,by simp,?_,?_,?_,λ_ _=>rfl,λq s hs=>⟨?_,rfl⟩⟩,λ_ _ h=>h⟩
 ·intro q o' _ ho'
  rcases Ai ho' with⟨_,h2,_⟩| ⟨_,h2⟩
  ·cases h2
  ·exact⟨o',h2,Evo.refl _,λ_ _=>rfl⟩
 ·intro k _ hno;refine hk k (λe=>hno ?_);subst e;exact⟨r,N,⟨o,ho,hns⟩,hβ⟩
 ·rintro k ⟨q,M,⟨o,hl,hn⟩,hb⟩
  rcases Ai hl with⟨_,h2,_⟩| ⟨_,h2⟩
  ·cases h2
  ·exact .inr ⟨q,M,⟨o,h2,hn⟩,hb⟩
 ·rcases Ai hs with⟨_,h2,_⟩| ⟨_,h2⟩
  ·cases h2
  ·exact h2
theorem HRel.killAt (h:HRel w β H){r b N:Nat}{o:HObj}(ho:H[r]?=some (some o))(hβ:β r=.blk b N)(hos:w'.os=w.os)(ht:w'.tape=w.tape)(hu:w'.output=w.output)
  (hs:w'.heap.size=w.heap.size) (hk: ∀k,k≠b->w'.heap[k]?=w.heap[k]?) (hns: ¬isSeal o:=by exact λh=>h):HRel w' β (H.set r none):=by
 refine h.step (Fr.killAt ho hβ hos ht hu hs hk hns) ?_ ?_
 ·intro q p hp
  rcases Ai hp with⟨_,h2,_⟩| ⟨h1,h2⟩
  ·cases h2
  ·refine .inl ⟨h2,rfl,λk M hb=>hk k (λe=>h1 ?_)⟩;subst e;exact h.inj q r _ M N ⟨p,h2⟩ ⟨o,ho⟩ hb hβ
 ·rintro q q' b M M' ⟨o,hl⟩ ⟨o',hl'⟩ hb hb'
  rcases Ai hl with⟨_,h2,_⟩| ⟨_,h2⟩
  ·cases h2
  ·rcases Ai hl' with⟨_,k2,_⟩| ⟨_,k2⟩
   ·cases k2
   ·exact h.inj q q' b M M' ⟨o,h2⟩ ⟨o',k2⟩ hb hb'
def killD:List Nat->Heap->Heap
 | [],T=>T
 |k::D,T=>killD D (T.set k none)
theorem unmark {P:Program}: ∀(D:List Nat) {w:World} {H:Heap} {T:Heap} {a:Act} (b:Frame) (todo:List Item) (cs:List Frame),SRel imps nt w β H m ⟨E,T,B,D⟩ a->D.Nodup->
  ∃w' H' a',SRel imps nt w' β H' m ⟨E,killD D T,B,[]⟩ a'∧a'.tmps=a.tmps∧a'.defers=[]∧Fr w β H w' β H'∧Steps P (lone {b.atR a todo with mode:=.returning} cs w) (lone {b.atR a' todo with mode:=.returning} cs w')
 | [],w,H,T,a,b,todo,cs,h,_=>⟨w,H,a,h,rfl,Ard.1 h.defs,Fr.refl _ _ _,.refl _ _⟩
 |k::D,w,H,T,a,b,todo,cs,h,hn=>by
  obtain⟨hn1,hn2⟩:=Atd.1 hn;obtain⟨r,blk,N,h1,h2,h3,h4⟩:=h.marks 0 k rfl;simp only at h2;obtain⟨d,ds,hds⟩: ∃d ds,a.defers=d::ds:=by
   have:=h.defs;cases hh:a.defers with
   |nil=>rw[hh] at this;simp at this
   |cons d ds=>exact⟨d,ds,rfl⟩
  have hd:d= {target:=.collected blk,args:= #[]}:=by
   rw[hds] at h4;simpa using h4
  have hH:=h.loc k r _ h1 h2;have hob:=h.hrel.obj r _ hH;rw[h3] at hob;have hob:w.heap[blk]?=some (.deferred (some [])):=hob;have hlt:blk<w.heap.size:=(Asz.1 hob).1;obtain⟨w1,hw1⟩: ∃w1:World,w1= {w with heap:=w.heap.setIfInBounds blk (.deferred none)}:=⟨_,rfl⟩;have hrun:(Instr.takeDeferred blk).run P w=.ok [] w1:=by
   rw[hw1];simp[Instr.takeDeferred,Sem.run_bind,getObj,setObj,Sem.run,hob,Result.andThen]
  have hother: ∀q,q≠blk->w1.heap[q]?=w.heap[q]?:=λq hq=>by
   rw[hw1];simp[Ave (Ne.symm hq)]
  have hf:Fr w β H w1 β (H.set r none):=Fr.killAt hH h3 (by rw[hw1]) (by rw[hw1]) (by rw[hw1]) (by rw[hw1];simp) hother;have hr:HRel w1 β (H.set r none):=h.hrel.killAt hH h3 (by rw[hw1]) (by rw[hw1]) (by rw[hw1]) (by rw[hw1];simp) hother;have hs0:SRel imps nt w β H m ⟨E,T,B,D⟩ {a with defers:=ds}:=by
   refine⟨h.hrel,h.size,h.env,h.mlen,h.nodup,h.loc,h.imp,h.base,h.fut,h.own,h.scE,h.scT,?_,?_⟩
   ·have:=h.defs;rw[hds] at this;simpa using this
   ·intro j q hj;obtain⟨r',b',N',e1,e2,e3,e4⟩:=h.marks (j+1) q (by simpa using hj);exact⟨r',b',N',e1,e2,e3,by rw[hds] at e4;simpa using e4⟩
  have hs1:=hs0.setAt (o':=none) (w':=w1) h1 (λo h=>by cases h) (λhm=>absurd hm hn1) hf hr;obtain⟨w2,H2,a2,g1,g2,g3,g4,g5⟩:=unmark (P:=P) D b todo cs hs1 hn2;refine⟨w2,H2,a2,g1,g2,g3,hf.trans g4,.head ?_ g5⟩;have:=step_collected (P:=P) (fr:= {b.atR a todo with mode:=.returning}) (cs:=cs) (w:=w) (w':=w1) (d:=d) (r:=blk) (ds:=ds) (calls:=[]) (by simp) (by simpa[Frame.atR] using hds) (by rw[hd]) hrun;rw[this];simp[Frame.atR]
end
def nodupB:List Nat->Bool
 | []=>true
 |k::D=>D.all (λj=> !Nat.beq j k)&&nodupB D
theorem N9: ∀D:List Nat,nodupB D=true->D.Nodup
 | [],_=>At5
 |k::D,h=>by
  simp only[nodupB,Aq6,Ati] at h;refine Atd.2 ⟨λhm=> ?_,N9 D h.2⟩;have:=h.1 k hm;simp at this
def XR (P:Program)(imps:List Nat)(rs:Array ResultVar)(B:Base)(Q:V->Heap->Prop)(e:Exit)(s:St):Prop:=
 (match e with| .normal| .ret=>True|_=>False)∧nodupB s.D=true∧s.B=B∧resK P imps B rs.toList s.E (killD s.D s.T) False λxs=>Q (resV xs) (killD s.D s.T)
def env0:Nat->List V->Env
 |_,[]=>[]
 |n,x::xs=>(n,x)::env0 (n+1) xs
theorem Xi: ∀(n:Nat) (xs:List V) (k:Nat),lk (env0 n xs) k=if n≤k then xs[k-n]?.getD .undef else .undef
 |n,[],k=>by simp[env0,lk]
 |n,x::xs,k=>by
  rw[env0,lk];cases hb:Nat.beq n k with
  |true=>
   have:=Arn hb;subst this;simp
  |false=>
   have hne:n≠k:=Aun hb;rw[cond_false,Xi (n+1) xs k]
   by_cases h:n+1≤k
   ·rw[if_pos h,if_pos (by omega)];have:k-n=(k- (n+1))+1:=by omega
    rw[this,Asx]
   ·rw[if_neg h,if_neg (by omega)]
theorem Tk: ∀(n:Nat) (xs:List V) (p:Nat×V),p∈env0 n xs->p.2∈xs
 |n,[],p,h=>by cases h
 |n,x::xs,p,h=>by
  rcases Arl.1 h with rfl|h
  ·exact Ari
  ·exact Are _ (Tk _ xs p h)
theorem M2 {P : Program} {f : FuncId} {fn : Func} {body : Code} {T : Heap} {args : List V} {Q : V → Heap → Prop} (hf : P.funcs[f]? = some fn) (hn : (fn.name == "runtime.NumGoroutine") = false) (hb : fn.body = some body) (hnt : Nat.ble args.length fn.ntmps = true)
  (h: ∀(imps:List Nat) (B:Base),imps.length=T.length->Goes {P:=P,nt:=fn.ntmps,fn:=f,ro:=none,imps:=imps,X:=XR P imps fn.results B Q,B:=B,D:=[]} [.code body] (env0 0 args) T):Fun P f T args Q:=by
 unfold Fun;refine⟨⟨fn,hf,hn,by rw[hb];rfl⟩,λw β H m B vals cs hs hl hr=> ?_⟩;have hnt:=Arp hnt;have g:=h m B hs.mlen;unfold Goes at g
 let b:Frame:= {fn:=f,tmps:= #[],todo:=[],defers:=[],mode:=.run,kind:=.normal}
 let a:Act:= {tmps:=vals++Array.replicate (fn.ntmps-vals.size) Go.undef,defers:=[]}
 have henter:Frame.enter P f vals .normal=b.atR a [.code body]:=by
  simp[Frame.enter,Frame.atR,hf,hb,b,a]
 have hasz:a.tmps.size=fn.ntmps:=by simp[a];omega
 have hget: ∀k,Rep w β H ((lk (env0 0 args) k).conv m) (a.tmps.getD k Go.undef):=by
  intro k;rw[Xi];simp only[Aq4,if_true,Av1];cases hk:args[k]? with
  |none=>exact .undef _
  |some x=>
   have hkl:=Ab hk;have hkv:k<vals.size:=by omega
   have e:a.tmps.getD k Go.undef=vals[k]:=by
    simp only[a,Atr];rw[Ass hkv];simp[hkv]
   rw[e];exact hr k x vals[k] hk (Ase hkv)
 have hs0:SRel m fn.ntmps w β H m ⟨env0 0 args,T,B,[]⟩ a:=by
  refine⟨hs.hrel,hasz,hget,hs.mlen,hs.nodup,hs.loc,hs.imp,hs.base,hs.fut,hs.own,λp hp=> ?_,hs.scT,rfl,by simp⟩;obtain⟨k,hk,hx⟩:=Ata.1 (Tk 0 args p hp);have hkv:k<vals.size:=by omega
  have:=De p.2 (hr k p.2 vals[k] (by rw[Aq3 hk,hx]) (Ase hkv));have e:=hs.mlen;simp only at e ⊢;rwa [←e]
 obtain⟨e,s',w',β',H',m',a',hX,hs',hfr,hend⟩:=g w β H m a b cs hs0 rfl rfl rfl;obtain⟨E',T',B',D'⟩:=s';obtain⟨he,hD,hB,hres⟩:=hX;simp only at hD hB hres;subst hB;have key: ∀todo,Steps P (lone (Frame.enter P f vals .normal) cs w) (lone {b.atR a' todo with mode:=.returning} cs w')->
   ∃(x:V) (T':Heap) (v:Value) (w':World) (β':Nat->Loc) (H':Heap) (m':List Nat) (fr:Frame),Q x T'∧SRel m 0 w' β' H' m' ⟨[],T',B',[]⟩ bare∧Fr w β H w' β' H'∧Rep w' β' H' (x.conv m') v∧
    Steps P (lone (Frame.enter P f vals .normal) cs w) (lone fr cs w')∧fr.fn=f∧fr.leaving P w' (.returned v):=λtodo hst=>by
  obtain⟨w2,H2,a2,u1,u2,u3,u4,u5⟩:=unmark (P:=P) D' b todo cs hs' (N9 _ hD)
  rcases Le (c:= {P:=P,nt:=fn.ntmps,fn:=f,ro:=none,imps:=m,X:=λ_ _=>True,B:=B',D:=[]}) _ _ _ _ hres with h| ⟨xs,hq,hx⟩
  ·exact h.elim
  obtain⟨vs,h1,h2,h3⟩:=hx w2 β' H2 m' a2 u1;have hrun:=Sf h1;have hrep:Rep w2 β' H2 ((resV xs).conv m') (if h:vs.toArray.size=1 then vs.toArray[0] else .tuple vs.toArray):=by
   by_cases h1:vs.length=1
   ·rw[dif_pos (by simpa using h1)]
    match xs,h2,h3 with
    | [x],_,h3=>exact h3 0 x _ rfl (by simp[h1])
    | [],h2,_=>simp at h2;omega
    |_::_::_,h2,_=>simp at h2;omega
   ·rw[dif_neg (by simpa using h1)];have e:resV xs=.tup xs:=by
     match xs,h2 with
     | [x],h2=>simp at h2;omega
     | [],_=>rfl
     |_::_::_,_=>rfl
    rw[e];simp only[V.conv,V.convL_eq];refine .tup _ _ (by simp[h2]) λj c v hj hv=> ?_;simp only[Arv,Asu] at hj;obtain⟨x,hj,rfl⟩:=hj;exact h3 j x v hj (by simpa using hv)
  exact⟨_,_,_,w2,β',H2,m', {b.atR a2 todo with mode:=.returning},hq,u1.bare,hfr.trans u4,hrep,hst.trans u5,rfl,rfl,u3,rfl,fn,hf,hrun⟩
 cases e with
 |normal=>exact key [] (by rw[henter];exact Steps.trans hend (.one (stepR_end rfl)))
 |ret=>
  obtain⟨k,hend⟩:=hend;exact key _ (by rw[henter];exact Steps.trans hend (.one (stepR_ret rfl)))
 |exit id=>exact he.elim
 |goto l=>exact he.elim
 |panic ch=>exact he.elim
 |outgrown=>exact he.elim
mutual
def V.scB (n:Nat):V->Bool
 | .osl r _ _ _=>r.scB' n
 | .ptr r _=>r.scB' n
 | .eptr r _ _ _=>r.scB' n
 | .agg cs=>V.scBL n cs
 | .tup cs=>V.scBL n cs
 | .fn _ a c=>V.scBL n a&&V.scBL n c
 | .yld r=>r.scB' n
 | .iface _ v=>v.scB n
 |_=>true
def V.scBL (n:Nat):List V->Bool
 | []=>true
 |v::vs=>v.scB n&&V.scBL n vs
def Ref.scB' (n:Nat):Ref->Bool
 | .loc k=>Nat.blt k n
 |_=>true
end
theorem Ref.scB_sc {n:Nat}: ∀r:Ref,r.scB' n=true->r.sc n
 | .loc _,h=>Arp h
 | .abs _,_=>trivial
 | .bad,_=>trivial
mutual
theorem V.scB_sc {n:Nat}: ∀v:V,v.scB n=true->v.sc n
 | .osl r _ _ _,h| .ptr r _,h| .eptr r _ _ _,h| .yld r,h=>r.scB_sc h
 | .agg cs,h| .tup cs,h=>V.scBL_sc cs h
 | .fn _ a c,h=>by
  simp only[V.scB,Aq6] at h;exact⟨V.scBL_sc a h.1,V.scBL_sc c h.2⟩
 | .iface _ v,h=>V.scB_sc v h
 | .int ..,_| .bool _,_| .tt,_| .ff,_| .str _,_| .sl ..,_| .nilsl,_| .iptr ..,_| .nilp,_| .nilf,_| .nili,_| .nilmap,_| .undef,_=>trivial
theorem V.scBL_sc {n:Nat}: ∀vs:List V,V.scBL n vs=true->V.scL n vs
 | [],_=>trivial
 |v::vs,h=>by
  simp only[V.scBL,Aq6] at h;exact⟨V.scB_sc v h.1,V.scBL_sc vs h.2⟩
end
def Env.scB (n:Nat):Env->Bool
 | []=>true
 |p::E=>p.2.scB n&&Env.scB n E
theorem Env.scB_sc {n:Nat}: ∀E:Env,Env.scB n E=true-> ∀p∈E,p.2.sc n
 | [],_,p,hp=>by cases hp
 |q::E,h,p,hp=>by
  simp only[Env.scB,Aq6] at h
  rcases Arl.1 hp with rfl|hp
  ·exact V.scB_sc _ h.1
  ·exact Env.scB_sc E h.2 p hp
def HObj.scB (n:Nat):HObj->Bool
 | .box cs=>V.scBL n cs
 | .vec .. =>true
 | .dfr=>true
 | .held _=>true
 | .loop _ _ _ E _ _ _ _=>Env.scB n E
theorem HObj.scB_sc {n:Nat}: ∀o:HObj,o.scB n=true->o.sc n
 | .box cs,h=>V.scBL_sc cs h
 | .vec ..,_=>trivial
 | .dfr,_=>trivial
 | .held _,_=>trivial
 | .loop _ _ _ E _ _ _ _,h=>Env.scB_sc E h
def envIs (n:Nat)(E:Env):Env->Prop
 | []=>True
 | (k,v)::E'=>(lk E k=v∧v.scB n=true)∧envIs n E E'
def heapIs (n:Nat):Heap->Heap->Prop
 |_,[]=>True
 | [],_::_=>False
 |o::T,none::T'=>o=none∧heapIs n T T'
 |o::T,some o'::T'=>(o=some o'∧o'.scB n=true)∧heapIs n T T'
theorem Tl {n:Nat}{E:Env}: ∀ {E':Env},envIs n E E'-> ∀k,(lk E' k=lk E k∨lk E' k=.undef)∧(∀p∈E',p.2.sc n)
 | [],_,k=>⟨.inr rfl,by simp⟩
 | (j,v)::E',h,k=>by
  have ih:=Tl h.2 k;refine⟨?_,λp hp=> ?_⟩
  ·rw[lk];cases hb:Nat.beq j k with
   |true=>
    have:=Arn hb;subst this;exact .inl h.1.1.symm
   |false=>exact ih.1
  ·rcases Arl.1 hp with rfl|hp
   ·exact V.scB_sc _ h.1.2
   ·exact ih.2 p hp
theorem Kh {n:Nat}: ∀ {T T':Heap},heapIs n T T'-> ∃T'',T=T'++T''∧ ∀(k:Nat) (o:HObj),T'[k]?=some (some o)->o.sc n
 |T,[],_=>⟨T,rfl,λk o h=>by simp at h⟩
 | [],o::T',h=>by cases o<;>exact h.elim
 |o::T,none::T',h=>by
  obtain⟨T'',e,k⟩:=Kh h.2;refine⟨T'',by rw[h.1,e];rfl,λj q hj=> ?_⟩;cases j with
  |zero=>simp at hj
  |succ j=>exact k j q hj
 |o::T,some o'::T',h=>by
  obtain⟨T'',e,k⟩:=Kh h.2;refine⟨T'',by rw[h.1.1,e];rfl,λj q hj=> ?_⟩;cases j with
  |zero=>simp at hj;subst hj;exact o'.scB_sc h.1.2
  |succ j=>exact k j q hj
section
variable {imps:List Nat} {nt:Nat} {w w':World} {β β':Nat->Loc} {H H':Heap} {m:List Nat} {E E':Env} {T:Heap} {B:Base} {D:List Nat} {a:Act}
theorem SRel.forget (h:SRel imps nt w β H m ⟨E,T,B,D⟩ a)(hl: ∀k,lk E' k=lk E k∨lk E' k=.undef)(hsc: ∀p∈E',p.2.sc T.length):SRel imps nt w β H m ⟨E',T,B,D⟩ a:=by
 refine⟨h.hrel,h.size,λk=> ?_,h.mlen,h.nodup,h.loc,h.imp,h.base,h.fut,h.own,hsc,h.scT,h.defs,h.marks⟩
 rcases hl k with e|e
 ·simp only[e];exact h.env k
 ·simp only[e];exact .undef _
theorem SRel.drop1 {o:Option HObj}(h:SRel imps nt w β H m ⟨E,T++ [o],B,D⟩ a)(hn:imps.length≤T.length)(hE: ∀p∈E,p.2.sc T.length)(hT: ∀(k:Nat) (o:HObj),T[k]?=some (some o)->o.sc T.length)
  (hD: ∀k∈D,k<T.length): ∃m' H',SRel imps nt w β H' m' ⟨E,T,B,D⟩ a∧Fr w β H w β H'∧m'=m.take T.length:=by
 have hml:m.length=T.length+1:=by have:=h.mlen;simpa using this
 obtain⟨m',r,rfl⟩: ∃m' r,m=m'++ [r]:=⟨m.dropLast,m.getLast (by intro e;rw[e] at hml;simp at hml),(Atg _).symm⟩;have hml':m'.length=T.length:=by simp at hml;exact hml
 have hnd:=As7.1 h.nodup;have hr:r∉m':=λhm=>hnd.2.2 r hm r (by simp) rfl;have hrk:(m'++ [r])[T.length]?=some r:=by rw[←hml'];simp
 have hrB:B r=none:=h.own T.length r hn hrk;have hrl:=h.lt hrk;refine⟨m',H.set r none,?_,Fr.kill r,by rw[←hml'];simp⟩;have hcv: ∀v:V,v.sc T.length->v.conv (m'++ [r])=v.conv m':=λv hv=>V.conv_ext (by omega) v hv;refine⟨h.hrel.kill r,h.size,λk=> ?_,hml',hnd.1,?_,?_,?_,λr hr=>h.fut r (by simpa using hr),?_,hE,hT,h.defs,?_⟩
 ·rw[←hcv _ (U4 E k hE)];exact(h.env k).mono (Fr.kill r)
 ·intro k q o hk ho;have hkl:=Ab hk;have hne:q≠r:=λe=>hr (e▸Aq7 hk);rw[Arj (λx=>hne x.symm)];have:=h.loc k q o (by rw[Aq9 hkl];exact hk) (by simp only;rw[Aq9 (by omega)];exact ho);rw[this];cases o with
  |none=>rfl
  |some o=>
   simp only[Atq,Option.some.injEq];exact HObj.conv_ext (by omega) o (hT k o ho)
 ·have:=h.imp;rwa [As9 (by omega)] at this
 ·intro q hq hqm
  by_cases e:q=r
  ·subst e;simp only[hrB];simp[hrl]
  ·rw[Arj (λx=>e x.symm)];exact h.base q (by simpa using hq) (by simp[hqm,e])
 ·intro k q hk hq;exact h.own k q hk (by rw[Aq9 (Ab hq)];exact hq)
 ·intro j k hj;obtain⟨r',b,N,h1,h2,h3,h4⟩:=h.marks j k hj;have hk:=hD k (Aq7 hj);simp only at h1 h2;rw[Aq9 (by omega)] at h1 h2;exact⟨r',b,N,h1,h2,h3,h4⟩
theorem SRel.killTo: ∀(T2 T:Heap) {H:Heap},SRel imps nt w β H m ⟨E,T++T2,B,D⟩ a->(∀k∈D,k<T.length)-> ∃H',SRel imps nt w β H' m ⟨E,T++T2.map (λ_=>none),B,D⟩ a∧Fr w β H w β H'
 | [],T,H,h,_=>⟨H,h,Fr.refl _ _ _⟩
 |o::T2,T,H,h,hD=>by
  have hml:m.length=T.length+ (T2.length+1):=by have:=h.mlen;simpa using this
  have hk:m[T.length]?=some m[T.length]:=Aq3 (by omega);have h1:=h.setAt (o':=none) (w':=w) hk (λo h=>by cases h) (λhm=>absurd (hD _ hm) (Nat.lt_irrefl _)) (Fr.kill _) (h.hrel.kill _);have e:(T++o::T2).set T.length none=(T++ [none])++T2:=by simp
  rw[e] at h1;obtain⟨H',k1,k2⟩:=SRel.killTo T2 (T++ [none]) h1 (λk hk=>by have:=hD k hk;simp;omega);refine⟨H',?_,(Fr.kill _).trans k2⟩;simpa using k1
theorem SRel.dropNone (hn:imps.length≤T.length)(hE: ∀p∈E,p.2.sc T.length)(hT: ∀(k:Nat) (o:HObj),T[k]?=some (some o)->o.sc T.length)(hD: ∀k∈D,k<T.length):
  ∀(n:Nat) {m:List Nat} {H:Heap},SRel imps nt w β H m ⟨E,T++List.replicate n none,B,D⟩ a-> ∃m' H',SRel imps nt w β H' m' ⟨E,T,B,D⟩ a∧Fr w β H w β H'∧m'=m.take T.length
 |0,m,H,h=>by
  rw[List.replicate_zero,Asc] at h;exact⟨m,H,h,Fr.refl _ _ _,by rw[Ars (by have:=h.mlen;simp only at this;omega)]⟩
 |n+1,m,H,h=>by
  have e:T++List.replicate (n+1) none=(T++List.replicate n none)++ [none]:=by rw[List.replicate_succ',Arz]
  rw[e] at h;have hle:T.length≤(T++List.replicate n (none:Option HObj)).length:=by simp
  obtain⟨m1,H1,k1,k2,k3⟩:=SRel.drop1 h (by omega) (λp hp=>V.sc_mono hle _ (hE p hp)) (λk o ho=>by
   rcases Ar3 k T.length with h1|h1
   ·rw[Aq9 h1] at ho;exact HObj.sc_mono hle o (hT k o ho)
   ·rw[Arh h1] at ho;have:=List.mem_replicate.1 (Aq7 ho);cases this.2) (λk hk=>by have:=hD k hk;omega)
  obtain⟨m2,H2,g1,g2,g3⟩:=SRel.dropNone hn hE hT hD n k1;refine⟨m2,H2,g1,k2.trans g2,?_⟩;rw[g3,k3,Avk,Atv hle]
theorem SRel.dropTo (T2:Heap)(h:SRel imps nt w β H m ⟨E,T++T2,B,D⟩ a)(hn:imps.length≤T.length)(hE: ∀p∈E,p.2.sc T.length)(hT: ∀(k:Nat) (o:HObj),T[k]?=some (some o)->o.sc T.length)(hD: ∀k∈D,k<T.length):
  ∃m' H',SRel imps nt w β H' m' ⟨E,T,B,D⟩ a∧Fr w β H w β H'∧m'=m.take T.length:=by
 obtain⟨H1,k1,k2⟩:=SRel.killTo T2 T h hD;have e:T2.map (λ_=>(none:Option HObj))=List.replicate T2.length none:=by
  simp[List.map_const']
 rw[e] at k1;obtain⟨m',H',g1,g2,g3⟩:=SRel.dropNone hn hE hT hD _ k1;exact⟨m',H',g1,k2.trans g2,g3⟩
end
theorem Ft {c:Cx}{todo:List Item}{E:Env}{T:Heap}(E':Env)(T':Heap)(hD:c.D.all (Nat.blt · T'.length)=true)(hi:c.imps.length≤T'.length)(hE:envIs T'.length E E')(hT:heapIs T'.length T T')
  (h:Goes c todo E' T'):Goes c todo E T:=by
 refine Bw λw β H m a b cs hs _ _ _=> ?_;obtain⟨T'',rfl,hsc⟩:=Kh hT;have hE': ∀p∈E',p.2.sc T'.length:=(Tl hE 0).2;have h1:=hs.forget (E':=E') (λk=>(Tl hE k).1) (λp hp=>V.sc_mono (by simp) _ (hE' p hp));obtain⟨m',H',k1,k2,_⟩:=SRel.dropTo T'' h1 hi hE' hsc (λk hk=>Arp (Ati.1 hD k hk));exact⟨w,β,H',m',a,todo,⟨E',T',c.B,c.D⟩,.refl _ _,k1,k2,h⟩
def Pure (P:Program)(f:FuncId)(args:List V)(Q:V->Prop):Prop:=Fun P f [] args λx T=>T=[]∧x.pureB=true∧Q x
theorem Gl {P:Program}{f:FuncId}{args:List V}{Q:V->Prop}(h:Fun P f [] args λx T=>frz x T False λx' _=>x'.pureB=true∧Q x'):Pure P f args Q:=by
 unfold Pure Fun at*;refine⟨h.1,λw β H m B vals cs hs hl hr=> ?_⟩;obtain⟨x,T',v,w',β',H',m',fr,hq,k1,k2,k3,k4⟩:=h.2 w β H m B vals cs hs hl hr
 rcases P1 hq with hq| ⟨x',T'',hq,hfz⟩
 ·exact hq.elim
 have hm0:m.length=0:=hs.mlen;have hmn:m=[]:=Ard.1 hm0;subst hmn;obtain⟨H1,g1,g2,g3⟩:=hfz.2 _ _ _ _ _ _ _ _ _ _ k1;obtain⟨m2,H2,e1,e2,e3⟩:=SRel.dropTo (T:=[]) T'' g1 (by simp) (by simp) (by simp) (by simp);refine⟨x',[],v,w',β',H2,m2,fr,⟨rfl,hq⟩,e1,(k2.trans g2).trans e2,?_,k4⟩;rw[Ao _ _ hq.1];exact(g3 0 x x' v rfl rfl k3).mono e2
theorem Ki {P:Program}{g:FuncId}{args:List V}{Q:V->Prop}(hf:Pure P g args Q)(ha:V.pureL args=true){imps:List Nat}{nt:Nat}{w:World}{β:Nat->Loc}{H:Heap}{m:List Nat}{s:St}{a:Act}(hs:SRel imps nt w β H m s a)
  {vals:Array Value} (cs:List Frame) (hl:args.length=vals.size) (hr: ∀(j:Nat) (x:V) (v:Value),args[j]?=some x->vals[j]?=some v->Rep w β H (x.conv m) v):
  ∃(x:V) (v:Value) (w':World) (β':Nat->Loc) (H':Heap) (fr:Frame),Q x∧x.pureB=true∧SRel imps nt w' β' H' m s a∧Fr w β H w' β' H'∧Rep w' β' H' x v∧
   Steps P (lone (Frame.enter P g vals .normal) cs w) (lone fr cs w')∧fr.fn=g∧fr.leaving P w' (.returned v):=by
 unfold Pure Fun at hf;have hs0:SRel [] 0 w β H [] ⟨[],[],λr=>(H[r]?).getD none,[]⟩ bare:=by
  refine⟨hs.hrel,rfl,λk=>by simp[lk,V.conv];exact .undef _,rfl,At5,by simp,rfl,λr h _=> ?_,λr h1=> ?_,by simp,by simp,by simp,rfl,by simp⟩
  ·simp[h]
  ·simp[Asq h1]
 obtain⟨x,T',v,w',β',H',m',fr,⟨hT,hp,hq⟩,k1,k2,k3,k4⟩:=hf.2 w β H [] _ vals cs hs0 hl (λj x v hj hv=>by
  have h1:=hr j x v hj hv;have hx:x.pureB=true:=by
   have: ∀(l:List V),V.pureL l=true-> ∀x∈l,x.pureB=true:=by
    intro l
    induction l with
    |nil=>simp
    |cons y l ih=>
     intro h x hx;simp only[V.pureL,Aq6] at h
     rcases Arl.1 hx with rfl|hx
     ·exact h.1
     ·exact ih h.2 x hx
   exact this args ha x (Aq7 hj)
  rw[Ao _ _ hx] at h1 ⊢;exact h1)
 subst hT;have hm':m'=[]:=Ard.1 k1.mlen;subst hm';rw[Ao _ _ hp] at k3;refine⟨x,v,w',β',H',fr,hq,hp,?_,k2,k3,k4⟩;have hlen:H.length≤H'.length:=k2.len;have hnew: ∀r,r<H'.length->H'[r]?=some ((H[r]?).getD none):=λr hr=>k1.base r hr (by simp);have hold: ∀r,r<H.length->H'[r]?=H[r]?:=λr hr=>by
  rw[hnew r (Asl hr hlen)];simp[hr]
 refine⟨k1.hrel,hs.size,λk=>(hs.env k).mono k2,hs.mlen,hs.nodup,?_,hs.imp,?_,λr hr=>hs.fut r (Ark hlen hr),hs.own,hs.scE,hs.scT,hs.defs,?_⟩
 ·intro k r o hk ho;rw[hold r (hs.lt hk)];exact hs.loc k r o hk ho
 ·intro r hr hm
  rcases Ar3 r H.length with h1|h1
  ·rw[hold r h1];exact hs.base r h1 hm
  ·rw[hnew r hr,hs.fut r h1,Asq h1];rfl
 ·intro j k hj;obtain⟨r,b,N,h1,h2,h3,h4⟩:=hs.marks j k hj;refine⟨r,b,N,h1,h2,?_,h4⟩;have hH:=hs.loc k r _ h1 h2;have hH':H'[r]?=some (some .dfr):=by rw[hold r (hs.lt h1),hH];rfl
  obtain⟨o,ho,_,hb⟩:=k2.evo r .dfr (hs.lt h1) hH';rw[hH] at ho;injection ho with ho
  injection ho with ho
  subst ho;exact(hb (by rw[h3];simp) trivial).trans h3
theorem Aa {c:Cx}{g:FuncId}{args:List V}{E:Env}{T:Heap}{K:V->St->Prop}{Q:V->Prop}(hf:Pure c.P g args Q)(ha:V.pureL args=true)(h: ∀x,Q x->K x ⟨E,T,c.B,c.D⟩):CallThen c g args E T K:=by
 have hen:Enterable c.P g:=by
  unfold Pure Fun at hf;exact hf.1
 unfold CallThen;refine⟨hen,λw β H m a vals cs hs hl hr=> ?_⟩;obtain⟨x,v,w',β',H',fr,hq,hp,k1,k2,k3,k4⟩:=Ki hf ha hs cs hl hr;exact⟨x,_,v,w',β',H',m,fr,h x hq,k1,k2,by rw[Ao _ _ hp];exact k3,k4.1,k4.2.1,k4.2.2,Ar6 _⟩
theorem Ad {P : Program} {f : FuncId} {fn : Func} {body : Code} {args : List V} {Q : V → Prop} (n : Nat) (hf : P.funcs[f]? = some fn) (hn : (fn.name == "runtime.NumGoroutine") = false) (hb : fn.body = some body) (hnt : Nat.ble args.length fn.ntmps = true)
  (h: ∀B:Base,evp {P:=P,nt:=fn.ntmps,fn:=f,ro:=none,imps:=[],X:=XR P [] fn.results B λx T=>frz x T False λx' _=>x'.pureB=true∧Q x',B:=B,D:=[]} n [.code body] (env0 0 args) []):Pure P f args Q:=
 Gl (M2 hf hn hb hnt λimps B hi=>by
  have:imps=[]:=Ard.1 hi;subst this;exact Av _ _ _ _ _ (h B))
theorem Ak {c:Cx}{body:Code}{k:List Item}{E:Env}{T:Heap}{ι:Type}(Inv:ι->Prop)(μ:ι->Nat)(Eo:ι->Env)(To:ι->Heap)(i0:ι)(n:Nat)(hD: ∀i,c.D.all (Nat.blt · (To i).length)=true)(hi: ∀i,Nat.ble c.imps.length (To i).length=true)
  (h0:Inv i0∧envIs (To i0).length E (Eo i0)∧heapIs (To i0).length T (To i0))
  (step: ∀i,Inv i->(∀j E T,Inv j∧μ j<μ i∧envIs (To j).length E (Eo j)∧heapIs (To j).length T (To j)->Goes c (.inLoop body::k) E T)->evp c n (.code body::.inLoop body::k) (Eo i) (To i)):Goes c (.code (.loop body)::k) E T:=by
 have key: ∀(m:Nat) (i:ι),μ i=m->Inv i->Goes c (.code body::.inLoop body::k) (Eo i) (To i):=by
  intro m
  induction m using Nat.strongRecOn with
  |_ m ih=>
   intro i hm hinv;refine Av n _ _ _ _ (step i hinv λj E T ⟨h1,h2,h3,h4⟩=>Ft (Eo j) (To j) (hD j) (Arp (hi j)) h3 h4 (Bp (λb a cs w=>stepR_inLoop) (ih (μ j) (by omega) j rfl h1)))
 exact Ft (Eo i0) (To i0) (hD i0) (Arp (hi i0)) h0.2.1 h0.2.2 (Bp (λb a cs w=>stepR_loop) (key _ i0 rfl h0.1))
theorem P5 {c:Cx}{body:Code}{k:List Item}{E:Env}{T:Heap}(h:Goes c (.code body::.inLoop body::k) E T):Goes c (.code (.loop body)::k) E T:=
 Bp (λ_ _ _ _=>stepR_loop) h
theorem Aea {c:Cx}{body:Code}{k:List Item}{E:Env}{T:Heap}(h:Goes c (.code body::.inLoop body::k) E T):Goes c (.inLoop body::k) E T:=
 Bp (λ_ _ _ _=>stepR_inLoop) h
variable {F:Prop}
theorem Yk {α:Type}: ∀(xs:List α) (n:Nat) (K:List α->Prop),ltake xs n F K->F∨ ∃ys,K ys∧ ∀F' K',K' ys->ltake xs n F' K'
 |xs,0,K,h=>.inr ⟨[],by cases xs<;>exact h,λF' K' hk=>by cases xs<;>exact hk⟩
 | [],n+1,K,h=>.inl h
 |x::xs,n+1,K,h=>by
  rw[ltake] at h
  rcases Yk xs n _ h with h| ⟨ys,h1,h2⟩
  ·exact .inl h
  ·exact .inr ⟨_,h1,λF' K' hk=>by rw[ltake];exact h2 F' _ hk⟩
theorem Kj {α:Type}: ∀(xs:List α) (n:Nat) (cs:List α) (K:List α->Prop),lover xs n cs F K->F∨ ∃ys,K ys∧ ∀F' K',K' ys->lover xs n cs F' K'
 | [],n,c::cs,K,h=>by cases n<;>exact .inl h
 | [],0,[],K,h=>.inr ⟨[],h,λ_ _ hk=>hk⟩
 | [],n+1,[],K,h=>.inl h
 |x::xs,0,[],K,h=>.inr ⟨x::xs,h,λ_ _ hk=>hk⟩
 |x::xs,0,c::cs,K,h=>by
  rw[lover] at h
  rcases Kj xs 0 cs _ h with h| ⟨ys,h1,h2⟩
  ·exact .inl h
  ·exact .inr ⟨_,h1,λF' K' hk=>by rw[lover];exact h2 F' _ hk⟩
 |x::xs,n+1,cs,K,h=>by
  rw[lover] at h
  rcases Kj xs n cs _ h with h| ⟨ys,h1,h2⟩
  ·exact .inl h
  ·exact .inr ⟨_,h1,λF' K' hk=>by rw[lover];exact h2 F' _ hk⟩
theorem Ii {P:Program}{t:TypeId}{cs:List V}{off:Nat}{K:V->Prop}(h:partK P t cs off F K):F∨ ∃v,K v∧ ∀F' K',K' v->partK P t cs off F' K':=by
 unfold partK at h ⊢;split at h
 ·rename_i d i _ _;cases hb:aggT d with
  |true=>
   rw[hb] at h;simp only[cond_true] at h ⊢
   rcases Yk _ _ _ h with h| ⟨ys,h1,h2⟩
   ·exact .inl h
   ·exact .inr ⟨_,h1,λF' K' hk=>h2 F' _ hk⟩
  |false=>
   rw[hb] at h;simp only[cond_false] at h ⊢;split at h
   ·simp only[Bq] at h ⊢;exact .inr ⟨_,h,λF' K' hk=>hk⟩
   ·exact .inl h
 ·exact .inl h
theorem Afg {P:Program}: ∀(fs:List Field) (i:Nat) (xs ys:List V) (K:Bool->Prop),eqF P i fs xs ys F K->F∨ ∃b,K b∧ ∀F' K',K' b->eqF P i fs xs ys F' K'
 | [],i,xs,ys,K,h=>.inr ⟨true,h,λ_ _ hk=>hk⟩
 |f::fs,i,[],ys,K,h=>.inl h
 |f::fs,i,x::xs,[],K,h=>.inl h
 |f::fs,i,x::xs,y::ys,K,h=>by
  rw[eqF] at h;cases hb:Nat.beq f.offset i with
  |false=>rw[hb] at h;exact .inl h
  |true=>
   rw[hb] at h;simp only[cond_true] at h;cases he:eq1 P f.type x y with
   |none=>rw[he] at h;exact .inl h
   |some e=>
    rw[he] at h
    rcases Afg fs _ xs ys _ h with h| ⟨r,h1,h2⟩
    ·exact .inl h
    ·exact .inr ⟨_,h1,λF' K' hk=>by rw[eqF];simp only[hb,cond_true,he];exact h2 _ _ hk⟩
theorem Alr {P:Program}{t:TypeId}{op:BinOp}{x y:V}{K:V->Prop}(h:binK P t op x y F K):F∨ ∃v,K v∧ ∀F' K',K' v->binK P t op x y F' K':=by
  unfold binK at h ⊢;split at h
  all_goals first
    |exact .inl h
    |skip
  all_goals (split at h)
  all_goals first
    |exact .inl h
    |exact .inr ⟨_,h,λ_ _ hk=>hk⟩
    |exact .inr ⟨_,h.2,λ_ _ hk=>⟨h.1,hk⟩⟩
    |exact .inr ⟨_,h.2.2,λ_ _ hk=>⟨h.1,h.2.1,hk⟩⟩
    |skip
  all_goals (split at h)
  all_goals first
    |exact .inl h
    | (obtain⟨h0,h⟩:=h
       rcases Afg _ _ _ _ _ h with h| ⟨r,h1,h2⟩
       · exact .inl h
       · exact .inr ⟨_,h1,λF' K' hk=>⟨h0,h2 _ _ hk⟩⟩)
theorem An5 {op:UnOp}{x:V}{K:V->Prop}(h:unK op x F K):F∨ ∃v,K v∧ ∀F' K',K' v->unK op x F' K':=by
 unfold unK at h ⊢;split at h
 all_goals first
  |exact .inl h
  |exact .inr ⟨_,h,λ_ _ hk=>hk⟩
  |exact .inr ⟨_,h.2,λ_ _ hk=>⟨h.1,hk⟩⟩
theorem lo?_det {E:Env}{o:Option Operand}{d:Int}{K:Int->Prop}(h:lo? E o d K F):F∨ ∃n,K n∧ ∀K' F',K' n->lo? E o d K' F':=by
 unfold lo? at h ⊢;split at h
 ·exact .inr ⟨_,h,λ_ _ hk=>hk⟩
 ·split at h
  ·exact .inr ⟨_,h,λ_ _ hk=>hk⟩
  ·exact .inl h
theorem Oa {pl:List (Nat×Nat)}{E:Env}: ∀(ps:List (Nat×Operand)) (cs:List V) (K:List V->Prop),buildK pl E ps cs F K->F∨ ∃ys,K ys∧ ∀F' K',K' ys->buildK pl E ps cs F' K'
 | [],cs,K,h=>.inr ⟨cs,h,λ_ _ hk=>hk⟩
 | (i,x)::ps,cs,K,h=>by
  rw[buildK] at h;split at h
  ·rename_i off sz hl;rw[Bq] at h;cases hb:(Nat.beq (lcount (opd E x).cells 0) sz&&onesB (opd E x).cells) with
   |false=>rw[hb] at h;exact .inl h
   |true=>
    rw[hb] at h
    rcases Kj _ _ _ _ h with h| ⟨cs',h,h1⟩
    ·exact .inl h
    rcases Oa ps cs' K h with h| ⟨ys,h,h2⟩
    ·exact .inl h
    ·exact .inr ⟨ys,h,λF' K' hk=>by rw[buildK];simp only[hl,Bq,hb,cond_true];exact h1 F' _ (h2 F' K' hk)⟩
  ·exact .inl h
def vloc:V->List Nat
 | .osl (.loc k) .. =>[k]
 | .ptr (.loc k) _=>[k]
 | .eptr (.loc k) .. =>[k]
 |_=>[]
def touch (E:Env):Op->List Nat
 | .load _ x| .nilCheck x| .fieldAddr _ x _| .indexAddr _ x _| .slice _ x _ _ _=>vloc (opd E x)
 | .store _ x _=>vloc (opd E x)
 | .call {callee:=.builtin _,args,.. }=>args.toList.flatMap λx=>vloc (opd E x)
 |_=>[]
def wr (E:Env):Op->List Nat
 | .store _ x _=>vloc (opd E x)
 | .call {callee:=.builtin .append,args,.. }=>match args.toList with
  |x::_=>vloc (opd E x)
  | []=>[]
 |_=>[]
theorem Aij {P:Program}{t:TypeId}{p:V}{T:Heap}{B:Base}{imps:List Nat}{K:V->Prop}(h:loadK P t p T B imps F K):
  F∨ ∃v,K v∧ ∀T',(∀k∈vloc p,T'[k]?=T[k]?)-> ∀F' K',K' v->loadK P t p T' B imps F' K':=by
 unfold loadK at h;split at h
 ·split at h
  ·rename_i hk
   rcases Ii h with h| ⟨v,h1,h2⟩
   ·exact .inl h
   ·refine .inr ⟨v,h1,λT' hT F' K' hk'=> ?_⟩;unfold loadK;simp only;rw[Af,hT _ (by simp[vloc]),←Af,hk];exact h2 F' K' hk'
  ·exact .inl h
 ·rcases Ii h with h| ⟨v,h1,h2⟩
  ·exact .inl h
  ·exact .inr ⟨v,h1,λT' _ F' K' hk'=>by unfold loadK;exact h2 F' K' hk'⟩
 ·obtain⟨h0,cs,h3,h⟩:=h
  rcases Ii h with h| ⟨v,h1,h2⟩
  ·exact .inl h
  ·exact .inr ⟨v,h1,λT' _ F' K' hk'=>by unfold loadK;exact⟨h0,cs,h3,h2 F' K' hk'⟩⟩
 ·split at h
  ·rename_i hk;obtain⟨h0,x,h3,h⟩:=h
   rcases Ii h with h| ⟨v,h1,h2⟩
   ·exact .inl h
   ·refine .inr ⟨v,h1,λT' hT F' K' hk'=> ?_⟩;unfold loadK;simp only;rw[Af,hT _ (by simp[vloc]),←Af,hk];exact⟨h0,x,h3,h2 F' K' hk'⟩
  ·exact .inl h
 ·exact .inl h
def app (T:Heap):List (Nat×Option HObj)->Heap
 | []=>T
 | (k,o)::es=>app (T.set k o) es
theorem Agi {P:Program}{t:TypeId}{p x:V}{T:Heap}{K:Heap->Prop}(h:storeK P t p x T F K):
  F∨ ∃k o,k∈vloc p∧K (T.set k o)∧ ∀T',(∀k∈vloc p,T'[k]?=T[k]?)-> ∀F' K',K' (T'.set k o)->storeK P t p x T' F' K':=by
 unfold storeK at h;split at h
 ·rename_i k g ix off i hi;split at h
  ·rename_i g' sz xs hk;obtain⟨hg,x0,hx0,h⟩:=h;cases hb:(Nat.beq (lcount x.cells 0) i.size&&onesB x.cells&&V.pureL x.cells) with
   |false=>rw[hb] at h;exact .inl h
   |true=>
    rw[hb] at h
    rcases Kj _ _ _ _ h with h| ⟨cs',h,h1⟩
    ·exact .inl h
    ·rw[Bz] at h;refine .inr ⟨k,_,by simp[vloc],h,λT' hT F' K' hk'=> ?_⟩;unfold storeK;simp only[hi];rw[Af,hT _ (by simp[vloc]),←Af,hk];refine⟨hg,x0,hx0,?_⟩;simp only[hb,cond_true];refine h1 F' _ ?_;rw[Bz];exact hk'
  ·exact .inl h
 ·rename_i k off i hi;split at h
  ·rename_i cs hk;cases hb:(Nat.beq (lcount x.cells 0) i.size&&onesB x.cells) with
   |false=>rw[hb] at h;exact .inl h
   |true=>
    rw[hb] at h
    rcases Kj _ _ _ _ h with h| ⟨cs',h,h1⟩
    ·exact .inl h
    ·rw[Bz] at h;refine .inr ⟨k,_,by simp[vloc],h,λT' hT F' K' hk'=> ?_⟩;unfold storeK;simp only[hi];rw[Af,hT _ (by simp[vloc]),←Af,hk];simp only[hb,cond_true];refine h1 F' _ ?_;rw[Bz];exact hk'
  ·exact .inl h
 ·exact .inl h
theorem Uo {x:V}{sz:Nat}{T:Heap}{K:List V->Prop}(h:appSrc x sz T F K):F∨ ∃ys,K ys∧ ∀T',(∀k∈vloc x,T'[k]?=T[k]?)-> ∀F' K',K' ys->appSrc x sz T' F' K':=by
 unfold appSrc at h;split at h
 ·rename_i sz' ys;cases hb:Nat.beq sz' sz with
  |false=>rw[hb] at h;exact .inl h
  |true=>rw[hb] at h;exact .inr ⟨ys,h,λT' _ F' K' hk=>by unfold appSrc;simp only[hb,cond_true];exact hk⟩
 ·exact .inr ⟨[],h,λT' _ F' K' hk=>by unfold appSrc;exact hk⟩
 ·split at h
  ·rename_i g' sz' ys hk;cases hb:Nat.beq sz' sz with
   |false=>rw[hb] at h;exact .inl h
   |true=>
    rw[hb] at h;refine .inr ⟨ys,h.2.2,λT' hT F' K' hk'=> ?_⟩;unfold appSrc;simp only;rw[Af,hT _ (by simp[vloc]),←Af,hk];simp only[hb,cond_true];exact⟨h.1,h.2.1,hk'⟩
  ·exact .inl h
 ·exact .inl h
theorem Als {P:Program}{t:TypeId}{s x:V}{T:Heap}{K:V->Heap->Prop}(hs:s≠ .nilsl)(h:appK P t s x T F K):
  F∨ ∃v k o,k∈vloc s∧K v (T.set k o)∧ ∀T',(∀k∈vloc s,T'[k]?=T[k]?)->(∀k∈vloc x,T'[k]?=T[k]?)-> ∀F' K',K' v (T'.set k o)->appK P t s x T' F' K':=by
 unfold appK at h;split at h
 case h_2=>exact .inl h
 rename_i e ht;split at h
 case h_2=>exact .inl h
 rename_i i hi;split at h
 case h_2=>exact .inl h
 rename_i z hz;cases hb:(Nat.ble 1 i.size&&Nat.beq z.cells.size i.size&&Nat.ble 1 i.bytes) with
 |false=>rw[hb] at h;exact .inl h
 |true=>
 rw[hb] at h;simp only[cond_true] at h
 rcases Uo h with h| ⟨ys,h,hd⟩
 ·exact .inl h
 split at h
 ·exact absurd rfl hs
 ·rename_i k g l _;split at h
  ·rename_i g' sz xs hk;cases hb2:Nat.beq sz i.size with
   |false=>rw[hb2] at h;exact .inl h
   |true=>
    rw[hb2] at h;obtain⟨h1,h2,h3,h⟩:=h;rw[Bz] at h;refine .inr ⟨_,k,_,by simp[vloc],h,λT' hT hT2 F' K' hk'=> ?_⟩;unfold appK;simp only[ht,hi,hz,hb,cond_true];refine hd T' hT2 F' _ ?_;rw[Af,hT _ (by simp[vloc]),←Af,hk];simp only[hb2,cond_true];refine⟨h1,h2,h3,?_⟩;rw[Bz];exact hk'
  ·exact .inl h
 ·exact .inl h
variable {c:Cx} {E E':Env} {T:Heap} {F:Prop} {K:V->Heap->Prop}
def isNilsl:V->Bool
 | .nilsl=>true
 |_=>false
def makes (E:Env):Op->Bool
 | .box .. | .alloc _| .buildSlice .. | .makeSlice .. =>true
 | .call {callee:=.builtin .append,args,.. }=>match args.toList with
  |x::_=>isNilsl (opd E x)
  | []=>false
 |_=>false
theorem Alt {o:Op}(hm:makes E o=false)(h:evOp c o E T F K):
  F∨ ∃x eff,K x (app T eff)∧(∀p∈eff,p.1∈wr E o)∧ ∀T',(∀k∈touch E o,T'[k]?=T[k]?)-> ∀F' K',K' x (app T' eff)->evOp c o E T' F' K':=by
 have none_: ∀(x:V),K x T->(∀T',(∀k∈touch E o,T'[k]?=T[k]?)-> ∀(F':Prop) (K':V->Heap->Prop),K' x T'->evOp c o E T' F' K')->
   F∨ ∃x eff,K x (app T eff)∧(∀p∈eff,p.1∈wr E o)∧ ∀T',(∀k∈touch E o,T'[k]?=T[k]?)-> ∀F' K',K' x (app T' eff)->evOp c o E T' F' K':=
  λx h1 h2=>.inr ⟨x,[],h1,by simp,h2⟩
 cases o with
 |move x=>simp only[evOp,Bq] at h;exact none_ _ h λT' _ F' K' hk=>by simp only[evOp,Bq];exact hk
 |assign x=>simp only[evOp,Bq] at h;exact none_ _ h λT' _ F' K' hk=>by simp only[evOp,Bq];exact hk
 |pick x y z=>
  simp only[evOp] at h;simp only[Bq] at h;split at h
  ·rename_i hx;exact none_ _ h λT' _ F' K' hk=>by simp only[evOp,hx,Bq];exact hk
  ·rename_i hx;exact none_ _ h λT' _ F' K' hk=>by simp only[evOp,hx,Bq];exact hk
  ·rename_i t hx;cases t with
   |true=>exact none_ _ (h.1 rfl) λT' _ F' K' hk=>by simp only[evOp,hx,Bq];exact⟨λ_=>hk,λh=>by cases h⟩
   |false=>exact none_ _ (h.2 rfl) λT' _ F' K' hk=>by simp only[evOp,hx,Bq];exact⟨λh=>by(cases h),λ_=>hk⟩
  ·exact .inl h
 |box t x=>cases hm
 |alloc t=>cases hm
 |buildSlice t l ps=>cases hm
 |makeSlice t xl xc=>cases hm
 |build t ps=>
  simp only[evOp] at h;split at h
  ·rename_i fs z ht hz;split at h
   ·rename_i pl hpl
    rcases Oa _ _ _ h with h| ⟨ys,h1,h2⟩
    ·exact .inl h
    ·exact none_ _ h1 λT' _ F' K' hk=>by simp only[evOp,ht,hz,hpl];exact h2 F' _ hk
   ·exact .inl h
  ·rename_i n e z ht hz;split at h
   ·rename_i ti hti
    rcases Oa _ _ _ h with h| ⟨ys,h1,h2⟩
    ·exact .inl h
    ·exact none_ _ h1 λT' _ F' K' hk=>by simp only[evOp,ht,hz,hti];exact h2 F' _ hk
   ·exact .inl h
  ·exact .inl h
 |load t x=>
  simp only[evOp] at h
  rcases Aij h with h| ⟨v,h1,h2⟩
  ·exact .inl h
  ·exact none_ _ h1 λT' hT F' K' hk=>by simp only[evOp];exact h2 T' hT F' _ hk
 |store t x y=>
  simp only[evOp] at h;rw[Bq] at h
  rcases Agi h with h| ⟨k,ob,hk,h1,h2⟩
  ·exact .inl h
  ·exact .inr ⟨_,[(k,ob)],h1,by simpa[wr] using hk,λT' hT F' K' hk'=>by simp only[evOp,Bq];exact h2 T' hT F' _ hk'⟩
 |nilCheck x=>
  simp only[evOp] at h;split at h
  ·rename_i k of hx;split at h
   ·rename_i cs hk;exact none_ _ h λT' hT F' K' hk'=>by
     simp only[evOp,hx];rw[Af,hT k (by simp[touch,hx,vloc]),←Af,hk];exact hk'
   ·exact .inl h
  ·rename_i r of hx;exact none_ _ h.2.2 λT' hT F' K' hk'=>by simp only[evOp,hx];exact⟨h.1,h.2.1,hk'⟩
  ·rename_i hx;exact none_ _ h λT' hT F' K' hk'=>by simp only[evOp,hx];exact hk'
  ·rename_i f a cap hx;split at h
   ·exact none_ _ h λT' hT F' K' hk'=>by simp only[evOp,hx];exact hk'
   ·exact .inl h
  ·exact .inl h
 |binOp op t x y t'=>
  simp only[evOp] at h
  rcases Alr h with h| ⟨v,h1,h2⟩
  ·exact .inl h
  ·exact none_ _ h1 λT' _ F' K' hk=>by simp only[evOp];exact h2 F' _ hk
 |unOp op t x=>
  simp only[evOp] at h
  rcases An5 h with h| ⟨v,h1,h2⟩
  ·exact .inl h
  ·exact none_ _ h1 λT' _ F' K' hk=>by simp only[evOp];exact h2 F' _ hk
 |convert s d x=>
  simp only[evOp] at h;split at h
  ·rename_i h1 h2 h3;exact none_ _ h λT' _ F' K' hk=>by simp only[evOp,h1,h2,h3];exact hk
  ·exact .inl h
 |makeFunc f xs ys=>
  simp only[evOp,Jo] at h;exact none_ _ h λT' _ F' K' hk=>by simp only[evOp,Jo];exact hk
 |slice t x lo hi mx=>
  simp only[evOp] at h;split at h
  ·rename_i h1 h2
   rcases lo?_det h with h| ⟨l,h,k1⟩
   ·exact .inl h
   rcases lo?_det h with h| ⟨r,h,k2⟩
   ·exact .inl h
   exact none_ _ h.2.2.2 λT' _ F' K' hk=>by simp only[evOp,h1,h2];exact k1 _ F' (k2 _ F' ⟨h.1,h.2.1,h.2.2.1,hk⟩)
  ·rename_i h1 h2;split at h
   ·rename_i ti hti;rename_i sz xs _;cases hb:Nat.beq sz ti.size with
    |false=>rw[hb] at h;exact .inl h
    |true=>
     rw[hb] at h;simp only[cond_true] at h
     rcases lo?_det h with h| ⟨l,h,k1⟩
     ·exact .inl h
     rcases lo?_det h with h| ⟨r,h,k2⟩
     ·exact .inl h
     exact none_ _ h.2.2.2 λT' _ F' K' hk=>by simp only[evOp,h1,h2,hti,hb,cond_true];exact k1 _ F' (k2 _ F' ⟨h.1,h.2.1,h.2.2.1,hk⟩)
   ·exact .inl h
  ·exact .inl h
 |fieldAddr t x f=>
  simp only[evOp] at h;split at h
  case h_2=>exact .inl h
  rename_i fs ht;split at h
  case h_2=>exact .inl h
  rename_i fd hfd;split at h
  case h_2=>exact .inl h
  rename_i ti hti;cases hb:Nat.ble 1 ti.size with
  |false=>rw[hb] at h;exact .inl h
  |true=>
  rw[hb] at h;simp only[cond_true] at h;split at h
  ·rename_i k of hx;split at h
   ·rename_i cs hk;exact none_ _ h λT' hT F' K' hk'=>by
     simp only[evOp,ht,hfd,hti,hb,hx,cond_true];rw[Af,hT k (by simp[touch,hx,vloc]),←Af,hk];exact hk'
   ·exact .inl h
  ·rename_i r of hx;exact none_ _ h.2.2 λT' hT F' K' hk'=>by simp only[evOp,ht,hfd,hti,hb,hx,cond_true];exact⟨h.1,h.2.1,hk'⟩
  ·rename_i cs of hx;exact none_ _ h λT' hT F' K' hk'=>by simp only[evOp,ht,hfd,hti,hb,hx,cond_true];exact hk'
  ·rename_i k g i of hx;split at h
   ·rename_i g' sz xs hk;exact none_ _ h.2 λT' hT F' K' hk'=>by
     simp only[evOp,ht,hfd,hti,hb,hx,cond_true];rw[Af,hT k (by simp[touch,hx,vloc]),←Af,hk];exact⟨h.1,hk'⟩
   ·exact .inl h
  ·exact .inl h
 |field t x f=>
  simp only[evOp] at h;split at h
  ·rename_i fs cs h1 h2;split at h
   ·rename_i fd hfd
    rcases Ii h with h| ⟨v,h3,h4⟩
    ·exact .inl h
    ·exact none_ _ h3 λT' _ F' K' hk=>by simp only[evOp,h1,h2,hfd];exact h4 F' _ hk
   ·exact .inl h
  ·exact .inl h
 |indexAddr t x ix=>
  simp only[evOp] at h;split at h
  ·rename_i h1 h2 h3;split at h
   ·rename_i ti hti;rename_i e sz xs _ i _;cases hb:(Nat.beq sz ti.size&&Nat.ble 1 sz) with
    |false=>rw[hb] at h;exact .inl h
    |true=>
     rw[hb] at h;obtain⟨k1,v,k2,h⟩:=h;exact none_ _ h λT' _ F' K' hk=>by simp only[evOp,h1,h2,h3,hti,hb,cond_true];exact⟨k1,v,k2,hk⟩
   ·exact .inl h
  ·rename_i e k g off len kk i h1 h2 h3;split at h
   ·rename_i ti g' sz xs hti hk;cases hb:(Nat.beq sz ti.size&&Nat.ble 1 sz) with
    |false=>rw[hb] at h;exact .inl h
    |true=>
     rw[hb] at h;obtain⟨k1,k2,k3,h⟩:=h;exact none_ _ h λT' hT F' K' hk'=>by
      simp only[evOp,h1,h2,h3,hti];rw[Af,hT k (by simp[touch,h2,vloc]),←Af,hk];simp only[hb,cond_true];exact⟨k1,k2,k3,hk'⟩
   ·exact .inl h
  ·exact .inl h
 |index t x ix=>
  simp only[evOp] at h;split at h
  ·rename_i h1 h2 h3;obtain⟨k1,b,k2,h⟩:=h;exact none_ _ h λT' _ F' K' hk=>by simp only[evOp,h1,h2,h3];exact⟨k1,b,k2,hk⟩
  ·rename_i h1 h2 h3;split at h
   ·rename_i ti hti;obtain⟨k1,k2,h⟩:=h
    rcases Ii h with h| ⟨v,h4,h5⟩
    ·exact .inl h
    ·exact none_ _ h4 λT' _ F' K' hk=>by simp only[evOp,h1,h2,h3,hti];exact⟨k1,k2,h5 F' _ hk⟩
   ·exact .inl h
  ·exact .inl h
 |extract x i=>
  simp only[evOp] at h;split at h
  ·rename_i vs h1;split at h
   ·rename_i v h2;rw[Bq] at h;exact none_ _ h λT' _ F' K' hk=>by simp only[evOp,h1,h2,Bq];exact hk
   ·exact .inl h
  ·exact .inl h
 |call cl=>
  obtain⟨callee,args,ts⟩:=cl;cases callee with
  |builtin b=>
   obtain⟨args⟩:=args;obtain⟨ts⟩:=ts;simp only[evOp] at h;split at h
   ·rename_i x t;split at h
    ·rename_i h1 h2;exact none_ _ h λT' _ F' K' hk=>by simp only[evOp,h1,h2];exact hk
    ·rename_i h1 h2;exact none_ _ h λT' _ F' K' hk=>by simp only[evOp,h1,h2];exact hk
    ·rename_i e k g of l h1 h2;split at h
     ·rename_i g' sz xs hk;exact none_ _ h.2 λT' hT F' K' hk'=>by
       simp only[evOp,h1,h2];rw[Af,hT k (by simp[touch,h2,vloc]),←Af,hk];exact⟨h.1,hk'⟩
     ·exact .inl h
    ·rename_i h1 h2;exact none_ _ h λT' _ F' K' hk=>by simp only[evOp,h1,h2];exact hk
    ·exact .inl h
   ·split at h
    ·rename_i h1 h2;exact none_ _ h λT' _ F' K' hk=>by simp only[evOp,h1,h2];exact hk
    ·exact .inl h
   ·split at h
    ·rename_i h1 h2;exact none_ _ h λT' _ F' K' hk=>by simp only[evOp,h1,h2];exact hk
    ·exact .inl h
   ·rename_i x y t t';split at h
    ·rename_i h1;have hne:opd E x≠ .nilsl:=λe=>by simp[makes,e,isNilsl] at hm
     rcases Als hne h with h| ⟨v,k,ob,hk,h2,h3⟩
     ·exact .inl h
     ·refine .inr ⟨v,[(k,ob)],h2,?_,λT' hT F' K' hk'=> ?_⟩
      ·simp[wr,hk]
      ·simp only[evOp,h1];exact h3 T' (λk hk=>hT k (by simp[touch,hk])) (λk hk=>hT k (by simp[touch,hk])) F' K' hk'
    ·exact .inl h
   ·exact .inl h
  |_=>exact .inl h
 |_=>exact .inl h
theorem lo?_congE {o:Option Operand}{d:Int}{K:Int->Prop}(h: ∀x,o=some x->opd E' x=opd E x):lo? E' o d K F=lo? E o d K F:=by
 cases o with
 |none=>rfl
 |some x=>simp only[lo?,h x rfl]
theorem P6 {pl:List (Nat×Nat)}: ∀(ps:List (Nat×Operand)) (cs:List V) (K:List V->Prop),(∀p∈ps,opd E' p.2=opd E p.2)->buildK pl E' ps cs F K=buildK pl E ps cs F K
 | [],cs,K,_=>rfl
 | (i,x)::ps,cs,K,h=>by
  have hx:opd E' x=opd E x:=h (i,x) Ari;rw[buildK,buildK,hx];have ih: ∀cs K,buildK pl E' ps cs F K=buildK pl E ps cs F K:=λcs K=>P6 ps cs K λp hp=>h p (Are _ hp);simp only[ih]
theorem Sg: ∀(ps:List (Nat×Operand)) (n:Nat) (K:List V->Prop),(∀p∈ps,opd E' p.2=opd E p.2)->elems E' ps n K F=elems E ps n K F
 | [],n,K,_=>rfl
 | (i,x)::ps,n,K,h=>by
  have hx:opd E' x=opd E x:=h (i,x) Ari;rw[elems,elems,hx];have ih: ∀n K,elems E' ps n K F=elems E ps n K F:=λn K=>Sg ps n K λp hp=>h p (Are _ hp);simp only[ih]
theorem Agj {o:Op}(h: ∀x∈o.operands.toList,opd E' x=opd E x):evOp c o E' T F K=evOp c o E T F K:=by
 cases o with
 |move x=>simp only[evOp,h x (by simp[Op.operands])]
 |assign x=>simp only[evOp,h x (by simp[Op.operands])]
 |pick x y z=>simp only[evOp,h x (by simp[Op.operands]),h y (by simp[Op.operands]),h z (by simp[Op.operands])]
 |box t x=>simp only[evOp,h x (by simp[Op.operands])]
 |build t ps=>
  have hk: ∀(pl:List (Nat×Nat)) (cs:List V) (K:List V->Prop),buildK pl E' ps.toList cs F K=buildK pl E ps.toList cs F K:=λpl cs K=>P6 _ _ _ λp hp=>h _ (by simp only[Op.operands];exact Ato.2 ⟨p,hp,rfl⟩);simp only[evOp,hk]
 |buildSlice t l ps=>
  have hk: ∀(n:Nat) (K:List V->Prop),elems E' ps.toList n K F=elems E ps.toList n K F:=λn K=>Sg _ _ _ λp hp=>h _ (by simp only[Op.operands];exact Ato.2 ⟨p,hp,rfl⟩);simp only[evOp,hk]
 |load t x=>simp only[evOp,h x (by simp[Op.operands])]
 |store t x y=>simp only[evOp,h x (by simp[Op.operands]),h y (by simp[Op.operands])]
 |nilCheck x=>simp only[evOp,h x (by simp[Op.operands])]
 |binOp op t x y t'=>simp only[evOp,h x (by simp[Op.operands]),h y (by simp[Op.operands])]
 |unOp op t x=>simp only[evOp,h x (by simp[Op.operands])]
 |convert s d x=>simp only[evOp,h x (by simp[Op.operands])]
 |makeFunc f xs ys=>
  have h1:xs.toList.map (opd E')=xs.toList.map (opd E):=Atj λx hx=>h x (by simp[Op.operands];exact .inl (by simpa using hx));have h2:ys.toList.map (opd E')=ys.toList.map (opd E):=Atj λx hx=>h x (by simp[Op.operands];exact .inr (by simpa using hx));simp only[evOp,Jo,h1,h2]
 |slice t x lo hi mx=>
  have h1: ∀(d:Int) (K:Int->Prop),lo? E' lo d K F=lo? E lo d K F:=λd K=>lo?_congE λx hx=>h x (by simp[Op.operands,hx]);have h2: ∀(d:Int) (K:Int->Prop),lo? E' hi d K F=lo? E hi d K F:=λd K=>lo?_congE λx hx=>h x (by simp[Op.operands,hx]);simp only[evOp,h x (by simp[Op.operands]),h1,h2]
 |fieldAddr t x f=>simp only[evOp,h x (by simp[Op.operands])]
 |field t x f=>simp only[evOp,h x (by simp[Op.operands])]
 |indexAddr t x ix=>simp only[evOp,h x (by simp[Op.operands]),h ix (by simp[Op.operands])]
 |index t x ix=>simp only[evOp,h x (by simp[Op.operands]),h ix (by simp[Op.operands])]
 |extract x i=>simp only[evOp,h x (by simp[Op.operands])]
 |call cl=>
  obtain⟨callee,args,ts⟩:=cl;cases callee with
  |builtin b=>
   obtain⟨args⟩:=args;obtain⟨ts⟩:=ts;simp only[Op.operands,Call.operands] at h;simp only[evOp];split
   ·rename_i x t;simp only[h x (by simp)]
   ·rename_i x y;simp only[h x (by simp),h y (by simp)]
   ·rename_i x y;simp only[h x (by simp),h y (by simp)]
   ·rename_i x y t t';simp only[h x (by simp),h y (by simp)]
   ·rfl
  |_=>rfl
 |_=>rfl
section
variable {imps:List Nat} {nt:Nat} {w w':World} {β β':Nat->Loc} {H:Heap} {m:List Nat} {E:Env} {T:Heap} {B:Base} {D:List Nat} {a:Act}
theorem SRel.setG (h:SRel imps nt w β H m ⟨E,T,B,D⟩ a){k r:Nat}{o':Option HObj}(hk:m[k]?=some r)(hsc: ∀o,o'=some o->o.sc m.length)(hD:k∉D)
  (f:Fr0 w β H w' β' (H.set r (o'.map (HObj.conv m)))) (hr:HRel w' β' (H.set r (o'.map (HObj.conv m)))) (hβ: ∀q,q≠r->β' q=β q):
  SRel imps nt w' β' (H.set r (o'.map (HObj.conv m))) m ⟨E,T.set k o',B,D⟩ a:=by
 have hml:m.length=T.length:=h.mlen;have hrl:=h.lt hk;have hrm:r∈m:=Aq7 hk;refine⟨hr,h.size,λj=>(h.env j).mono0 f,by simpa using hml,h.nodup,?_,h.imp,?_,λr hr=>h.fut r (by simpa using hr),h.own,?_,?_,h.defs,?_⟩
 ·intro j q o hj ho
  by_cases e:j=k
  ·subst e;have:q=r:=Option.some.inj (hj.symm.trans hk);subst this;have hjT:j<T.length:=by have:=Ab hk;omega
   simp only[As3,hjT,if_true] at ho;injection ho with ho
   subst ho;simp[hrl]
  ·have hne:q≠r:=λe'=>e (h.inj hj (e'▸hk));simp only at ho;rw[Arj (λx=>e x.symm)] at ho;rw[Arj (λx=>hne x.symm)];exact h.loc j q o hj ho
 ·intro q hq hqm;rw[Arj (λx:r=q=>hqm (x▸hrm))];exact h.base q (by simpa using hq) hqm
 ·intro p hp;simpa using h.scE p hp
 ·intro j o ho;simp only[Atp]
  by_cases e:j=k
  ·subst e;have hjT:j<T.length:=by have:=Ab hk;omega
   simp only[As3,hjT,if_true] at ho;injection ho with ho
   rw[←hml];exact hsc o ho
  ·simp only at ho;rw[Arj (λx=>e x.symm)] at ho;exact h.scT j o ho
 ·intro j q hj;obtain⟨r',b,N,h1,h2,h3,h4⟩:=h.marks j q hj;have hqk:q≠k:=λe=>hD (e▸Aq7 hj);have hne:r'≠r:=λe'=>hqk (h.inj h1 (e'▸hk));refine⟨r',b,N,h1,?_,by rw[hβ r' hne];exact h3,h4⟩;simp only;rw[Arj (λx=>hqk x.symm)];exact h2
theorem SRel.notD (h:SRel imps nt w β H m ⟨E,T,B,D⟩ a){k:Nat}{o:HObj}(hk:T[k]?=some (some o))(ho:o≠ .dfr):k∉D:=λhm=>by
 obtain⟨j,hj,e⟩:=Ata.1 hm;obtain⟨r',b,N,h1,h2,h3,h4⟩:=h.marks j k (by simp only;rw[Aq3 hj,e]);simp only at h2;rw[hk] at h2;injection h2 with h2
 injection h2 with h2
 exact ho h2
def Into (imps:List Nat)(nt:Nat)(w:World)(β:Nat->Loc)(H:Heap)(m:List Nat)(E:Env)(T:Heap)(B:Base)(D:List Nat)(a:Act)(p q:Nat)(w':World)(o':HObj)(x:V)(v:Value):Prop:=
 ∃β' H',SRel imps nt w' β' H' m ⟨E,T.set p (some o'),B,D⟩ a∧Fr0 w β H w' β' H'∧(∀r,r≠q->β' r=β r)∧Rep w' β' H' (x.conv m) v
theorem SRel.intoBox (h:SRel imps nt w β H m ⟨E,T,B,D⟩ a){p q:Nat}(hp:m[p]?=some q)(hv:β q=.none)(hd:T[p]?=some (some (.box [])))(cs:List V)(vs:Array Value)(e:TypeId)(hl:cs.length=vs.size)
  (hr: ∀(j:Nat) (c:V) (v:Value),(V.convL m cs)[j]?=some c->vs[j]?=some v->Rep w β H c v):
  Into imps nt w β H m E T B D a p q (w.alloc (.cells vs e)) (.box cs) (.ptr (.loc p) 0) (.pointer (some ⟨w.heap.size,0,none⟩)):=by
 have hq:=h.lt hp;have hH:H[q]?=some (some ((HObj.box []).conv m)):=h.loc p q _ hp hd;have hf:Fr0 w β H (w.alloc (.cells vs e)) (upd β q (.blk w.heap.size vs.size)) (H.set q (some ((HObj.box cs).conv m))):=Fr0.into _ _ hH hv trivial (λh=>h);have hrel:HRel (w.alloc (.cells vs e)) (upd β q (.blk w.heap.size vs.size)) (H.set q (some ((HObj.box cs).conv m))):=
  h.hrel.into _ _ hH hv trivial (λh=>h) ⟨vs,e,by show(w.heap.push _)[w.heap.size]?=_;simp,rfl,by rw[V.convL_eq];simpa using hl,λj c v h1 h2=>(hr j c v h1 h2).mono0 hf⟩
 have hsc:(HObj.box cs).sc m.length:=Sm hl hr;refine⟨_,_,h.setG (o':=some (.box cs)) hp (λo e=>by injection e with e;subst e;exact hsc) (h.notD hd (by intro e;cases e)) hf hrel (λr hr=>Am hr),hf,λr hr=>Am hr,?_⟩;simp only[V.conv,Ref.conv,hp];exact .ptrLive _ _ _ vs.size (V.convL m cs) (by simp[HObj.conv,hq]) (Aq _ _ _)
theorem SRel.intoVec (h:SRel imps nt w β H m ⟨E,T,B,D⟩ a){p q:Nat}(hp:m[p]?=some q)(hv:β q=.none)(hd:T[p]?=some (some (.vec 0 0 [])))(sz:Nat)(xs:List V)(vs:Array Value)(e:TypeId)(n cap:Nat)(hsz:0<sz)
  (hx: ∀x∈xs,okE sz x) (hn:n=xs.length) (hcap:n≤cap) (hmax:cap≤maxLen) (hl:cap*sz=vs.size)
  (hr: ∀(i:Nat) (x:V) (j:Nat) (c:V) (v:Value),xs[i]?=some x->x.cells[j]?=some c->vs[i*sz+j]?=some v->Rep w β H c v):
  Into imps nt w β H m E T B D a p q (w.alloc (.cells vs e)) (.vec 2 sz xs) (.osl (.loc p) 2 0 n) (.slice (some ⟨w.heap.size,0,none⟩) n cap):=by
 subst hn;have hq:=h.lt hp;have hle:xs.length*sz≤vs.size:=by rw[←hl];exact Arg _ hcap
 have hH:H[q]?=some (some (.vec 0 0 [])):=h.loc p q _ hp hd;have hev:Evo (.vec 0 0 []) (.vec 2 sz xs):=⟨by omega,λe=>by omega⟩;have hf:Fr0 w β H (w.alloc (.cells vs e)) (upd β q (.blk w.heap.size vs.size)) (H.set q (some (.vec 2 sz xs))):=Fr0.into _ _ hH hv hev (λh=>h);have hrel:HRel (w.alloc (.cells vs e)) (upd β q (.blk w.heap.size vs.size)) (H.set q (some (.vec 2 sz xs))):=
  h.hrel.into _ _ hH hv hev (λh=>h) ⟨vs,e,Afe _,by show(w.heap.push _)[w.heap.size]?=_;simp,rfl,hle,hsz,hx,λi x j c v h1 h2 h3=>(hr i x j c v h1 h2 h3).mono0 hf⟩
 refine⟨_,_,h.setG (o':=some (.vec 2 sz xs)) hp (λo e=>by injection e with e;subst e;trivial) (h.notD hd (by intro e;cases e)) hf hrel (λr hr=>Am hr),hf,λr hr=>Am hr,?_⟩;simp only[V.conv,Ref.conv,hp];exact .oslBlk _ _ _ _ sz xs w.heap.size vs.size _ _ (by simp[hq,HObj.conv]) (Aq _ _ _) hcap (by simpa using Avg hl) (by simpa using hmax) (λ_=>by simp) (by simp)
theorem SRel.intoNil (h:SRel imps nt w β H m ⟨E,T,B,D⟩ a){p q:Nat}(hp:m[p]?=some q)(hv:β q=.none)(hd:T[p]?=some (some (.vec 0 0 [])))(sz:Nat)(ad:Option Addr):
  Into imps nt w β H m E T B D a p q w (.vec 2 sz []) (.osl (.loc p) 2 0 0) (.slice ad 0 0):=by
 have hq:=h.lt hp;have hH:H[q]?=some (some (.vec 0 0 [])):=h.loc p q _ hp hd;have hf:Fr0 w β H w (upd β q .nil) (H.set q (some (.vec 2 sz []))):=by
  refine⟨rfl,rfl,rfl,Ara _,by simp,?_,λ_ _ _=>rfl,?_,λr hr=>Am (hr.ne hH (λh=>h)),λr s hs=> ?_⟩
  ·intro r o' _ ho
   rcases Ai ho with⟨h1,h2,_⟩| ⟨h1,h2⟩
   ·injection h2 with h2
    subst h1 h2;exact⟨_,hH,⟨by omega,λe=>by omega⟩,λhn=>absurd hv hn⟩
   ·exact⟨o',h2,Evo.refl _,λ_ _=>Am h1⟩
  ·rintro b ⟨r,M,⟨o,hl,hln⟩,hb⟩
   rcases Ai hl with⟨h1,_,_⟩| ⟨h1,h2⟩
   ·subst h1;rw[Aq] at hb;cases hb
   ·rw[Am h1] at hb;exact .inr ⟨r,M,⟨o,h2,hln⟩,hb⟩
  ·rcases Ai hs with⟨_,h2,_⟩| ⟨h1,h2⟩
   ·injection h2 with h2
    cases h2
   ·exact⟨h2,Am h1⟩
 have hrel:HRel w (upd β q .nil) (H.set q (some (.vec 2 sz []))):=by
  refine h.hrel.step0 hf ?_ ?_
  ·intro r o ho
   rcases Ai ho with⟨h1,h2,_⟩| ⟨h1,h2⟩
   ·injection h2 with h2
    subst h1 h2;rw[Aq];exact .inr rfl
   ·exact .inl ⟨h2,Am h1,λ_ _ _=>rfl⟩
  ·rintro r r' b M M' ⟨o,hl⟩ ⟨o',hl'⟩ hb hb'
   rcases Ai hl with⟨h1,_,_⟩| ⟨h1,h2⟩
   ·subst h1;rw[Aq] at hb;cases hb
   rcases Ai hl' with⟨k1,_,_⟩| ⟨k1,k2⟩
   ·subst k1;rw[Aq] at hb';cases hb'
   rw[Am h1] at hb;rw[Am k1] at hb';exact h.hrel.inj r r' b M M' ⟨o,h2⟩ ⟨o',k2⟩ hb hb'
 refine⟨_,_,h.setG (o':=some (.vec 2 sz [])) hp (λo e=>by injection e with e;subst e;trivial) (h.notD hd (by intro e;cases e)) hf hrel (λr hr=>Am hr),hf,λr hr=>Am hr,?_⟩;simp only[V.conv,Ref.conv,hp];exact .oslNil _ _ sz [] _ (by simp[hq,HObj.conv]) (Aq _ _ _)
theorem SRel.reserve (h:SRel imps nt w β H m ⟨E,T,B,D⟩ a)(d:HObj)(hd:d=.box []∨d=.vec 0 0 []):
  ∃β' H',SRel imps nt w β' H' (m++ [H.length]) ⟨E,T++ [some d],B,D⟩ a∧Fr w β H w β' H'∧β' H.length=.none∧(∀r,r<H.length->β' r=β r)∧H'.length=H.length+1:=by
 have hdc:d.conv m=d:=by rcases hd with rfl|rfl<;>rfl
 have hsc:d.sc m.length:=by rcases hd with rfl|rfl<;>exact trivial
 have hdn: ¬isSeal d:=by rcases hd with rfl|rfl<;>exact λh=>h
 have hf:Fr w β H w (upd β H.length .none) (H++ [some d]):=by
  refine⟨⟨rfl,rfl,rfl,Ara _,by simp,?_,λ_ _ _=>rfl,?_,λr hr=>Am (Aso hr.lt),λr s hs=>⟨(Ij hdn hs).2,Am (Aso (Ij hdn hs).1)⟩⟩,λr hr hn=>by rw[Am (Aso hr)];exact hn⟩
  ·intro r o' hr ho';rw[Aq9 hr] at ho';exact⟨o',ho',Evo.refl _,λ_ _=>Am (Aso hr)⟩
  ·rintro b ⟨r,M,hl,hb⟩
   rcases P7 hl with⟨h1,h2⟩| ⟨h1,h2⟩
   ·rw[Am (Aso h1)] at hb;exact .inr ⟨r,M,h2,hb⟩
   ·subst h1;rw[Aq] at hb;cases hb
 have hrel:HRel w (upd β H.length .none) (H++ [some d]):=by
  refine h.hrel.step hf ?_ ?_
  ·intro r o' ho'
   rcases Fh ho' with⟨h1,h2⟩| ⟨h1,h2⟩
   ·exact .inl ⟨h2,Am (Aso h1),λ_ _ _=>rfl⟩
   ·subst h1;rw[Aq];refine .inr ?_;injection h2 with h2
    subst h2
    rcases hd with rfl|rfl<;>trivial
  ·rintro r r' b M M' hl hl' hb hb'
   rcases Ik hl with⟨h1,h2⟩| ⟨h1,_⟩
   ·rcases Ik hl' with⟨k1,k2⟩| ⟨k1,_⟩
    ·rw[Am (Aso h1)] at hb;rw[Am (Aso k1)] at hb';exact h.hrel.inj r r' b M M' h2 k2 hb hb'
    ·subst k1;rw[Aq] at hb';cases hb'
   ·subst h1;rw[Aq] at hb;cases hb
 refine⟨_,_,h.snoc (o:=d) hsc (by rw[hdc];exact hf) (by rw[hdc];exact hrel),by rw[hdc];exact hf,Aq _ _ _,λr hr=>Am (Aso hr),by simp⟩
end
structure Rec where
 dst:Option Tmp
 reads:List Tmp
 touch:List Nat
 x:V
 eff:List (Nat×Option HObj)
 virt:Option Nat
def tmpsOf:List Operand->List Tmp
 | []=>[]
 | .tmp t::xs=>t::tmpsOf xs
 |_::xs=>tmpsOf xs
theorem Up: ∀(xs:List Operand) (t:Tmp),Operand.tmp t∈xs->t∈tmpsOf xs
 | [],t,h=>by cases h
 |x::xs,t,h=>by
  rcases Arl.1 h with rfl|h
  ·exact Ari
  ·have ih:=Up xs t h;cases x<;>first|exact ih|exact Are _ ih
theorem Gx {E E':Env}{xs:List Operand}(h: ∀t∈tmpsOf xs,lk E' t=lk E t): ∀x∈xs,opd E' x=opd E x:=by
 intro x hx;cases x with
 |tmp t=>exact h t (Up xs t hx)
 |_=>rfl
def Fact (c:Cx)(ops:Array Oper)(i:Nat)(E:Env)(T:Heap)(r:Rec):Prop:=
 ∀(E':Env) (T':Heap),T'.length=T.length->(∀t∈r.reads,lk E' t=lk E t)->(∀k∈r.touch,T'[k]?=T[k]?)->
 ∀(w:World) (β:Nat->Loc) (H:Heap) (m:List Nat) (a:Act) (b:Frame) (cs:List Frame) (rest:List Nat) (k:List Item),SRel c.imps c.nt w β H m ⟨E',T',c.B,c.D⟩ a->b.fn=c.fn->b.kind=.normal->
  (∀p,r.virt=some p-> ∃q,m[p]?=some q∧β q=.none∧T'[p]?=T[p]?)->
  ∃(v:Value) (w':World) (β':Nat->Loc) (H':Heap),Steps c.P (lone (b.atR a (.inRegion ops (i::rest)::k)) cs w) (lone (b.atR (a.put r.dst v) (.inRegion ops rest::k)) cs w')∧
   SRel c.imps c.nt w' β' H' m ⟨E',app T' r.eff,c.B,c.D⟩ a∧Fr0 w β H w' β' H'∧(∀q,q<H.length->β q=.none->(∀p,r.virt=some p->m[p]?≠some q)->β' q=.none)∧Rep w' β' H' (r.x.conv m) v
theorem Fact.tt {c:Cx}{ops:Array Oper}{i:Nat}{E:Env}{T:Heap}{r:Rec}(h:Fact c ops i E T r)(hx:r.x=.bool true):Fact c ops i E T {r with x:=.tt}:=by
 intro E' T' h1 h2 h3 w β H m a b cs rest k hs k1 k2 k4;obtain⟨v,w',β',H',g1,g2,g3,g4,g5⟩:=h E' T' h1 h2 h3 w β H m a b cs rest k hs k1 k2 k4;rw[hx] at g5;exact⟨v,w',β',H',g1,g2,g3,g4,by rw[Fi g5];exact .tt⟩
theorem Fact.ff {c:Cx}{ops:Array Oper}{i:Nat}{E:Env}{T:Heap}{r:Rec}(h:Fact c ops i E T r)(hx:r.x=.bool false):Fact c ops i E T {r with x:=.ff}:=by
 intro E' T' h1 h2 h3 w β H m a b cs rest k hs k1 k2 k4;obtain⟨v,w',β',H',g1,g2,g3,g4,g5⟩:=h E' T' h1 h2 h3 w β H m a b cs rest k hs k1 k2 k4;rw[hx] at g5;exact⟨v,w',β',H',g1,g2,g3,g4,by rw[Fi g5];exact .ff⟩
def Guarded (ops:Array Oper)(o:Oper)(E:Env)(gs:List Tmp)(want:Bool):Prop:=
 match o.guard with
 |none=>gs=[]∧want=true
 |some (j,t)=> ∃oj s,ops[j]?=some oj∧oj.dst=some s∧gs=[s]∧((lk E s=.tt∧want=t)∨(lk E s=.ff∧want= !t)∨(lk E s=.tup []∧want=false))
theorem Guarded.wanted {ops:Array Oper}{o:Oper}{E E':Env}{gs:List Tmp}{want:Bool}(h:Guarded ops o E gs want)(hE: ∀t∈gs,lk E' t=lk E t){imps:List Nat}{nt:Nat}{w:World}{β:Nat->Loc}{H:Heap}{m:List Nat}{T:Heap}{B:Base}{D:List Nat}{a:Act}
  (hs:SRel imps nt w β H m ⟨E',T,B,D⟩ a):Region.wanted o (yielded ops a.tmps)=want:=by
 unfold Guarded at h;unfold Region.wanted;split at h
 ·rename_i hg;simp only[hg,h.2]
 ·rename_i j t hg;obtain⟨oj,s,h1,h2,rfl,h3⟩:=h;simp only[hg,F8 h1 h2];have e:=hE s (by simp);have hv:=Ae hs (.tmp s);simp only[opd,e] at hv;have hav:a.tmps.getD s Go.undef=a.eval (.tmp s):=rfl;rw[hav]
  rcases h3 with⟨h4,rfl⟩| ⟨h4,rfl⟩| ⟨h4,rfl⟩
  ·rw[h4] at hv;rw[Kp hv];cases want<;>rfl
  ·rw[h4] at hv;rw[Kq hv];cases t<;>rfl
  ·rw[h4] at hv;simp only[V.conv,V.convL] at hv;generalize a.eval (.tmp s)=q at hv;cases hv with
   |tup _ vs hl _=>
    have:vs.size=0:=hl.symm;rw[Auk this];rfl
theorem Cc: ∀(es:List (Nat×Option HObj)) (T:Heap),(app T es).length=T.length
 | [],T=>rfl
 | (k,o)::es,T=>by rw[app,Cc es];simp
section
variable {c:Cx} {ops:Array Oper} {i:Nat} {o:Oper} {E:Env} {T:Heap} {gs:List Tmp} {F:Prop}
theorem Ail (ho:ops[i]?=some o)(hg:Guarded ops o E gs false):Fact c ops i E T ⟨o.dst,gs,[],.tup [],[],none⟩:=by
 intro E' T' h1 h2 h3 w β H m a b cs rest k hs k1 k2 _;refine⟨Go.undef,w,β,H,.one ?_,hs,Fr0.refl _ _ _,λ_ _ h _=>h,.tup [] #[] rfl λj z u h1 _=>by simp at h1⟩;have:=stepR_op_skip (P:=c.P) (b:=b) (a:=a) (k:=k) (cs:=cs) (w:=w) (ops:=ops) (i:=i) (rest:=rest) (by simp[ho,hg.wanted h2 hs]);simpa[ho] using this
theorem Xj {c:Cx}{w w':World}{a:Act}{b:Frame}{cs:List Frame}{rest:List Nat}{k:List Item}{nx:Next}{v:Value}(ho:ops[i]?=some o)(hw:Region.wanted o (yielded ops a.tmps)=true)(hnd: ∀cl,o.op≠ .defer cl)
  (hrun:(execOp a.eval o).run c.P w=.ok nx w') (hnx:nx=.value v∨nx=.skip∧v=Go.undef):
  Steps c.P (lone (b.atR a (.inRegion ops (i::rest)::k)) cs w) (lone (b.atR (a.put o.dst v) (.inRegion ops rest::k)) cs w'):=by
 have hfin:(b.atR a (.inRegion ops (i::rest)::k)).finish v=b.atR (a.put o.dst v) (.inRegion ops rest::k):=by
  rw[Frame.finish_atR];simp[ho]
 refine .one (step_lone_go ?_);rw[stepGR_op ho hw,Oper.semAt_eq _ _ _ hnd]
 rcases hnx with rfl| ⟨rfl,rfl⟩
 ·simp[stepG.apply,hrun,Sem.runT_eq,hfin]
 ·simp[stepG.apply,hrun,Sem.runT_eq,hfin]
theorem An6 {K:V->Heap->Prop}(ho:ops[i]?=some o)(hg:Guarded ops o E gs true)(hm:makes E o.op=false)(h:evOp c o.op E T F K):
  F∨ ∃x eff,K x (app T eff)∧Fact c ops i E T ⟨o.dst,gs++tmpsOf o.op.operands.toList,touch E o.op,x,eff,none⟩∧(∀p∈eff,p.1∈wr E o.op):=by
 by_cases hnd: ∃cl,o.op=.defer cl
 ·obtain⟨cl,hcl⟩:=hnd;rw[hcl] at h;exact .inl h
 have hnd: ∀cl,o.op≠ .defer cl:=λcl e=>hnd ⟨cl,e⟩
 rcases Alt hm h with h| ⟨x,eff,h1,hk,h2⟩
 ·exact .inl h
 refine .inr ⟨x,eff,h1,?_,hk⟩;intro E' T' e1 e2 e3 w β H m a b cs rest k hs k1 k2 _;have ho':evOp c o.op E' T' False (λy T1=>y=x∧T1=app T' eff):=by
  rw[Agj (Gx λt ht=>e2 t (Art _ ht))];exact h2 T' e3 _ _ ⟨rfl,rfl⟩
 rcases Un ho' with h| ⟨y,T1,⟨rfl,rfl⟩,hto⟩
 ·exact h.elim
 obtain⟨nx,v,w',β',H',m',hrun,hnx,g1,g2,g3,g4⟩:=hto o rfl w β H m a hs;have hmm:m=m':=g4.eq_of_length (by
  have a1:=hs.mlen;have a2:=g1.mlen;simp only[Cc] at a1 a2;rw[a1,a2])
 subst hmm;exact⟨v,w',β',H',Xj ho (hg.wanted (λt ht=>e2 t (Ar0 _ ht)) hs) hnd hrun hnx,g1,g2.toFr0,λq hq hn _=>g2.virt q hq hn,g3⟩
theorem Lf {c:Cx}{f:Operand}{args:Array Operand}{ts:Array TypeId}{g:FuncId}{va vc:Array Value}{w w':World}{a:Act}{b fr:Frame}{cs:List Frame}{rest:List Nat}{k:List Item}{v:Value}(ho:ops[i]?=some o)(hw:Region.wanted o (yielded ops a.tmps)=true)
  (hop:o.op=.call {callee:=.value f,args:=args,argTypes:=ts}) (hq:a.eval f=.func (.func g) va vc) (hen:Enterable c.P g)
  (hst:Steps c.P (lone (Frame.enter c.P g (va++args.map a.eval++vc) .normal) (b.atR a (.inRegion ops (i::rest)::k)::cs) w) (lone fr (b.atR a (.inRegion ops (i::rest)::k)::cs) w')) (hl:fr.leaving c.P w' (.returned v)):
  Steps c.P (lone (b.atR a (.inRegion ops (i::rest)::k)) cs w) (lone (b.atR (a.put o.dst v) (.inRegion ops rest::k)) cs w'):=by
 obtain⟨fn,hfn,hnm,hbd⟩:=hen;have hfin:(b.atR a (.inRegion ops (i::rest)::k)).finish v=b.atR (a.put o.dst v) (.inRegion ops rest::k):=by
  rw[Frame.finish_atR];simp[ho]
 have s1:step c.P (lone (b.atR a (.inRegion ops (i::rest)::k)) cs w)=.next (lone (Frame.enter c.P g (va++args.map a.eval++vc) .normal) (b.atR a (.inRegion ops (i::rest)::k)::cs) w):=by
  refine step_lone_go ?_;rw[stepGR_op ho hw,Oper.semAt_eq _ _ _ (by intro cl;rw[hop];exact λh=>by cases h)];have hrun:(execOp a.eval o).run c.P w=.ok (.enter g (va++args.map a.eval++vc)) w:=by
   have hne : fn.name ≠ "runtime.NumGoroutine" := by simpa using hnm
   have hbn:fn.body≠none:=by intro h;rw[h] at hbd;cases hbd
   simp[execOp,hop,resolve,Deferred.ofValue,hq,invoke,callFunc,hfn,hne,hbn]
  simp[stepG.apply,hrun,Sem.runT_eq,Frame.atR]
 have s2:step c.P (lone fr (b.atR a (.inRegion ops (i::rest)::k)::cs) w')=.next (lone (b.atR (a.put o.dst v) (.inRegion ops rest::k)) cs w'):=by
  rw[←hfin];exact step_leave_returned hl
 exact .head s1 (hst.trans (.one s2))
theorem Uq {w:World}{β:Nat->Loc}{H:Heap}{m:List Nat}{imps:List Nat}{nt:Nat}{E:Env}{T:Heap}{B:Base}{D:List Nat}{a:Act}(hs:SRel imps nt w β H m ⟨E,T,B,D⟩ a){f:Operand}{g:FuncId}{first cap:List V}(hf:opd E f=.fn (.func g) first cap)(args:Array Operand):
  ∃va vc,a.eval f=.func (.func g) va vc∧(first++args.toList.map (opd E)++cap).length=(va++args.map a.eval++vc).size∧
   ∀(j:Nat) (x:V) (v:Value),(first++args.toList.map (opd E)++cap)[j]?=some x->(va++args.map a.eval++vc)[j]?=some v->Rep w β H (x.conv m) v:=by
 have hfv:Rep w β H ((opd E f).conv m) (a.eval f):=Ae hs f;rw[hf] at hfv;simp only[V.conv] at hfv;generalize hq:a.eval f=q at hfv;cases hfv with
 |fn _ _ _ va vc hla hlc r1 r2=>
  refine⟨va,vc,rfl,by rw[V.convL_eq,Arf] at hla hlc;simp[hla,hlc],?_⟩;intro j x v hj hv;rw[V.convL_eq,Arf] at hla hlc
  rcases Ar3 j (va.size+args.size) with hlt|hge
  ·rw[Aq9 (by simp;omega)] at hj;rw[Ass (by simp;omega)] at hv
   rcases Ar3 j va.size with hlt2|hge2
   ·rw[Aq9 (by omega)] at hj;rw[Ass hlt2] at hv;exact r1 j _ v (by rw[V.convL_eq,Arv,hj];rfl) hv
   ·rw[Arh (by omega)] at hj;rw[Ats hge2] at hv;simp only[Arv,Asm,Asu,Au4] at hj hv;obtain⟨z,e1,e2⟩:=hj;obtain⟨z',e3,e4⟩:=hv;rw[hla] at e1;rw[e1] at e3;injection e3 with e3
    subst e3 e2 e4;exact Ae hs z
  ·rw[Arh (by simp;omega)] at hj;rw[Ats (by simp;omega)] at hv;refine r2 (j- (va.size+args.size)) _ v (by rw[V.convL_eq,Arv];simp only[Arb,Arf,As4,hla] at hj;rw[hj];rfl) (by simpa using hv)
theorem Kk {p:Nat}{x:V}{ob d:HObj}{kills:List (Nat×Option HObj)}{tc:List Nat}(ho:ops[i]?=some o)(hg:Guarded ops o E gs true)(hnd: ∀cl,o.op≠ .defer cl)(hd:T[p]?=some (some d))
  (h: ∀(E':Env) (T':Heap),T'.length=T.length->(∀z∈o.op.operands.toList,opd E' z=opd E z)->(∀k∈tc,T'[k]?=T[k]?)->T'[p]?=some (some d)->
   ∀(w:World) (β:Nat->Loc) (H:Heap) (m:List Nat) (a:Act) (q:Nat),SRel c.imps c.nt w β H m ⟨E',T',c.B,c.D⟩ a->m[p]?=some q->β q=.none->
    ∃v w' β' H',(execOp a.eval o).run c.P w=.ok (.value v) w'∧SRel c.imps c.nt w' β' H' m ⟨E',app T' (kills++ [(p,some ob)]),c.B,c.D⟩ a∧Fr0 w β H w' β' H'∧(∀r,r<H.length->r≠q->β r=.none->β' r=.none)∧Rep w' β' H' (x.conv m) v):
  Fact c ops i E T ⟨o.dst,gs++tmpsOf o.op.operands.toList,tc,x,kills++ [(p,some ob)],some p⟩:=by
 intro E' T' e1 e2 e3 w β H m a b cs rest k hs k1 k2 k4;obtain⟨q,q1,q2,q3⟩:=k4 p rfl;obtain⟨v,w',β',H',g1,g2,g3,g4,g5⟩:=h E' T' e1 (Gx λt ht=>e2 t (Art _ ht)) e3 (by rw[q3];exact hd) w β H m a q hs q1 q2;exact⟨v,w',β',H',Xj ho (hg.wanted (λt ht=>e2 t (Ar0 _ ht)) hs) hnd g1 (.inl rfl),g2,g3,λr hr hn hne=>g4 r hr (λe=>hne p rfl (e▸q1)) hn,g5⟩
end
variable {c:Cx} {ops:Array Oper} {i:Nat} {o:Oper} {E:Env} {T:Heap} {gs:List Tmp} {F:Prop}
def kill1:V->List (Nat×Option HObj)
 | .osl (.loc k) _ _ _=>[(k,none)]
 |_=>[]
def killL:List V->List (Nat×Option HObj)
 | []=>[]
 |v::vs=>kill1 v++killL vs
def killV:V->List (Nat×Option HObj)
 | .agg cs=>killL cs
 | .tup cs=>killL cs
 |v=>kill1 v
def killsOf:List V->List (Nat×Option HObj)
 | []=>[]
 |v::vs=>killV v++killsOf vs
def keysOf:List (Nat×Option HObj)->List Nat
 | []=>[]
 |e::es=>e.1::keysOf es
theorem Hc: ∀(e1 e2:List (Nat×Option HObj)) (T:Heap),app T (e1++e2)=app (app T e1) e2
 | [],_,_=>rfl
 | (k,o)::e1,e2,T=>by rw[Arx,app,app,Hc e1 e2]
theorem Lu: ∀(es:List (Nat×Option HObj)) (T T':Heap) (k:Nat),T.length=T'.length->T[k]?=T'[k]?->(app T es)[k]?=(app T' es)[k]?
 | [],_,_,_,_,h=>h
 | (j,o)::es,T,T',k,hl,h=>by
  rw[app,app];refine Lu es _ _ k (by simp[hl]) ?_
  by_cases e:j=k
  ·subst e;simp[As3,hl]
  ·rw[Arj e,Arj e,h]
theorem Gy: ∀(es:List (Nat×Option HObj)) (T:Heap) (k:Nat),k∉keysOf es->(app T es)[k]?=T[k]?
 | [],_,_,_=>rfl
 | (j,o)::es,T,k,h=>by
  simp only[keysOf,Arl,not_or] at h;rw[app,Gy es _ k h.2,Arj (λe=>h.1 e.symm)]
theorem K4 (a b:List (Nat×Option HObj)):keysOf (a++b)=keysOf a++keysOf b:=by
 induction a with
 |nil=>rfl
 |cons x a ih=>simp[keysOf,ih]
theorem Abb {v:V}{T:Heap}{K:V->Heap->Prop}(h:frz1 v T F K):F∨ ∃v',K v' (app T (kill1 v))∧ ∀T',(∀k∈keysOf (kill1 v),T'[k]?=T[k]?)-> ∀F' K',K' v' (app T' (kill1 v))->frz1 v T' F' K':=by
 unfold frz1 at h;split at h
 ·rename_i k g l;split at h
  ·rename_i g' sz xs hk;obtain⟨h1,h2,h⟩:=h;rw[Bz] at h;refine .inr ⟨_,h,λT' hT F' K' hk'=> ?_⟩;unfold frz1;simp only;rw[Af,hT k (by simp[kill1,keysOf]),←Af,hk];refine⟨h1,h2,?_⟩;rw[Bz];exact hk'
  ·exact .inl h
 ·rename_i hv;cases hp:v.pureB with
  |false=>rw[hp] at h;exact .inl h
  |true=>
   rw[hp] at h;have hkl:kill1 v=[]:=by
    cases v with
    |osl r _ _ _=>cases r<;>first|rfl|cases hp
    |_=>rfl
   rw[hkl];refine .inr ⟨_,h,λT' _ F' K' hk'=> ?_⟩;unfold frz1;split
   ·rename_i k g l;cases hp
   ·rw[hp];exact hk'
theorem Tm: ∀(vs:List V) (T:Heap) (K:List V->Heap->Prop),frzL vs T F K->F∨ ∃vs',K vs' (app T (killL vs))∧ ∀T',T'.length=T.length->(∀k∈keysOf (killL vs),T'[k]?=T[k]?)-> ∀F' K',K' vs' (app T' (killL vs))->frzL vs T' F' K'
 | [],T,K,h=>.inr ⟨[],h,λT' _ _ F' K' hk=>hk⟩
 |v::vs,T,K,h=>by
  rw[frzL,Bq] at h
  rcases Abb h with h| ⟨v',h,h1⟩
  ·exact .inl h
  rcases Tm vs _ _ h with h| ⟨vs',h,h2⟩
  ·exact .inl h
  refine .inr ⟨v'::vs',by rw[killL,Hc];exact h,λT' hl hT F' K' hk=> ?_⟩;rw[killL,K4] at hT;rw[killL,Hc] at hk;rw[frzL,Bq];exact h1 T' (λk hk=>hT k (Ar0 _ hk)) F' _ (h2 _ (by rw[Cc,Cc];exact hl) (λk hk=>Lu _ _ _ k hl (hT k (Art _ hk))) F' _ hk)
theorem An7 {v:V}{T:Heap}{K:V->Heap->Prop}(h:frz v T F K):F∨ ∃v',K v' (app T (killV v))∧ ∀T',T'.length=T.length->(∀k∈keysOf (killV v),T'[k]?=T[k]?)-> ∀F' K',K' v' (app T' (killV v))->frz v T' F' K':=by
 have gen: ∀u:V,frz u T F K->(frz u T F K=frz1 u T F K)->killV u=kill1 u->(∀T' F' K',frz u T' F' K'=frz1 u T' F' K')->
   F∨ ∃v',K v' (app T (killV u))∧ ∀T',T'.length=T.length->(∀k∈keysOf (killV u),T'[k]?=T[k]?)-> ∀F' K',K' v' (app T' (killV u))->frz u T' F' K':=by
  intro u hu e1 e2 e3;rw[e1] at hu
  rcases Abb hu with h| ⟨v',h,h1⟩
  ·exact .inl h
  ·refine .inr ⟨v',by rw[e2];exact h,λT' hl hT F' K' hk=> ?_⟩;rw[e3];rw[e2] at hT hk;exact h1 T' hT F' _ hk
 cases v with
 |agg cs=>
  rcases Tm _ _ _ h with h| ⟨vs',h,h1⟩
  ·exact .inl h
  ·exact .inr ⟨_,h,λT' hl hT F' K' hk=>h1 T' hl hT F' _ hk⟩
 |tup cs=>
  rcases Tm _ _ _ h with h| ⟨vs',h,h1⟩
  ·exact .inl h
  ·exact .inr ⟨_,h,λT' hl hT F' K' hk=>h1 T' hl hT F' _ hk⟩
 |_=>exact gen _ h rfl rfl λ_ _ _=>rfl
theorem Ob: ∀(vs:List V) (T:Heap) (K:List V->Heap->Prop),frzAll vs T F K->F∨ ∃vs',K vs' (app T (killsOf vs))∧ ∀T',T'.length=T.length->(∀k∈keysOf (killsOf vs),T'[k]?=T[k]?)-> ∀F' K',K' vs' (app T' (killsOf vs))->frzAll vs T' F' K'
 | [],T,K,h=>.inr ⟨[],h,λT' _ _ F' K' hk=>hk⟩
 |v::vs,T,K,h=>by
  rw[frzAll,Bq] at h
  rcases An7 h with h| ⟨v',h,h1⟩
  ·exact .inl h
  rcases Ob vs _ _ h with h| ⟨vs',h,h2⟩
  ·exact .inl h
  refine .inr ⟨v'::vs',by rw[killsOf,Hc];exact h,λT' hl hT F' K' hk=> ?_⟩;rw[killsOf,K4] at hT;rw[killsOf,Hc] at hk;rw[frzAll,Bq];exact h1 T' hl (λk hk=>hT k (Ar0 _ hk)) F' _ (h2 _ (by rw[Cc,Cc];exact hl) (λk hk=>Lu _ _ _ k hl (hT k (Art _ hk))) F' _ hk)
def memB:List Nat->Nat->Bool
 | [],_=>false
 |x::xs,n=>Nat.beq x n||memB xs n
theorem L3: ∀(xs:List Nat) (n:Nat),memB xs n=true↔n∈xs
 | [],n=>by simp[memB]
 |x::xs,n=>by
  have h:Nat.beq x n=true↔n=x:=⟨λh=>(Arn h).symm,λh=>by subst h;exact Av3 n⟩;simp[memB,L3 xs n,h]
def evMk (c:Cx)(o:Op)(E:Env)(T:Heap)(p:Nat)(K:V->HObj->List (Nat×Option HObj)->List Nat->Prop):Prop:=
 match o with
 | .box t x=>match tyI c.P t,lget T p with
  |some _,some (some (.box []))=>fv (opd E x) λv=>onesB v.cells=true∧K (.ptr (.loc p) 0) (.box v.cells) [] []
  |_,_=>False
 | .alloc t=>match zeroOf c.P t,lget T p with
  |some z,some (some (.box []))=>onesB z.cells=true∧K (.ptr (.loc p) 0) (.box z.cells) [] []
  |_,_=>False
 | .buildSlice t len ps=>match tyU c.P t,lget T p with
  |some (.slice e),some (some (.vec 0 0 []))=>match tyI c.P e with
   |some i=>match i.zero with
    |some _=>(Nat.beq (lcount ps.toList 0) len&&Nat.ble (len*i.size) 16777216&&Nat.ble 1 i.size)=true∧elems E ps.toList 0 (λvs=>frzAll vs T False λvs' _=>
     okEs i.size vs'∧memB (keysOf (killsOf vs)) p=false∧K (.osl (.loc p) 2 0 len) (.vec 2 i.size vs') (killsOf vs) (keysOf (killsOf vs))) False
    |none=>False
   |none=>False
  |_,_=>False
 | .makeSlice t xl xc=>match tyU c.P t,lget T p,opd E xl,opd E xc with
  |some (.slice e),some (some (.vec 0 0 [])),.int .i64 n,.int .i64 n'=>match tyI c.P e with
   |some ti=>match ti.zero with
    |some z=>(0≤n∧n'=n∧ti.bytes*n.toNat≤281474976710656)∧(Nat.beq z.cells.size ti.size&&Nat.ble 1 ti.size&&Nat.ble 1 ti.bytes&&onesB (ofVal z).cells&&Nat.beq (lcount (ofVal z).cells 0) ti.size)=true∧K (.osl (.loc p) 2 0 n.toNat) (.vec 2 ti.size (List.replicate n.toNat (ofVal z))) [] []
    |none=>False
   |none=>False
  |_,_,_,_=>False
 | .call {callee:=.builtin .append,args,argTypes}=>match args.toList,argTypes.toList,lget T p with
  | [x,y],[t,t'],some (some (.vec 0 0 []))=>match tyU c.P t',tyU c.P t with
   |some (.slice _),some (.slice e)=>match tyI c.P e with
    |some i=>match i.zero with
     |some z=>isNilsl (opd E x)=true∧(Nat.ble 1 i.size&&Nat.beq z.cells.size i.size&&Nat.ble 1 i.bytes)=true∧appSrc (opd E y) i.size T False λys=>room ys.length i.bytes∧K (.osl (.loc p) 2 0 ys.length) (.vec 2 i.size ys) [] (vloc (opd E y))
     |none=>False
    |none=>False
   |_,_=>False
  |_,_,_=>False
 |_=>False
theorem Alu {t:TypeId}{x:Operand}{p:Nat}(ho:ops[i]?=some o)(hop:o.op=.box t x)(hg:Guarded ops o E gs true)(hd:T[p]?=some (some (.box [])))(h1:onesB (opd E x).cells=true):
  Fact c ops i E T ⟨o.dst,gs++tmpsOf o.op.operands.toList,[],.ptr (.loc p) 0,[]++ [(p,some (.box (opd E x).cells))],some p⟩:=by
 refine Kk ho hg (λcl e=>by rw[hop] at e;cases e) hd λE' T' _ hE _ hT' w β H m a q hs hp hv=> ?_;have hx:opd E' x=opd E x:=hE x (by rw[hop];simp[Op.operands]);have hr:Rep w β H ((opd E' x).conv m) (a.eval x):=Ae hs x;rw[hx] at hr;obtain⟨hl,hc,_⟩:=F3 hr (by rw[C1,Hh];exact h1);rw[C1] at hl hc;obtain⟨β',H',k1,k2,k3,k4⟩:=hs.intoBox hp hv hT' (opd E x).cells (a.eval x).cells t (by rw[V.convL_eq] at hl;simpa using hl) hc;exact⟨_,_,β',H',by simp[execOp,hop,Instr.box,newVar,newRow],k1,k2,λr _ hne hn=>by rw[k3 r hne];exact hn,k4⟩
theorem Agk {t:TypeId}{z:V}{p:Nat}(ho:ops[i]?=some o)(hop:o.op=.alloc t)(hg:Guarded ops o E gs true)(hd:T[p]?=some (some (.box [])))(hz:zeroOf c.P t=some z)(h1:onesB z.cells=true):
  Fact c ops i E T ⟨o.dst,gs++tmpsOf o.op.operands.toList,[],.ptr (.loc p) 0,[]++ [(p,some (.box z.cells))],some p⟩:=by
 obtain⟨it,v,hi,hv,rfl⟩:=I8 hz;refine Kk ho hg (λcl e=>by rw[hop] at e;cases e) hd λE' T' _ hE _ hT' w β H m a q hs hp hvq=> ?_;have hzr:RowRep w β H (V.convL m (ofVal v).cells) v.cells.toList:=Mm m v;obtain⟨β',H',k1,k2,k3,k4⟩:=hs.intoBox hp hvq hT' (ofVal v).cells v.cells t (by have:=hzr.1;rw[V.convL_eq] at this;simpa using this) (λj c u e1 e2=>hzr.2 j c u e1 (by simpa using e2));exact⟨_,_,β',H',by simp[execOp,hop,Instr.alloc,Nr hi hv,newVar,newRow],k1,k2,λr _ hne hn=>by rw[k3 r hne];exact hn,k4⟩
theorem Ur {t e:TypeId}{len:Nat}{ps:Array (Nat×Operand)}{ti:TypeInfo}{z:Value}{vs':List V}{p:Nat}(ho:ops[i]?=some o)(hop:o.op=.buildSlice t len ps)(hg:Guarded ops o E gs true)(hd:T[p]?=some (some (.vec 0 0 [])))
  (ht:tyU c.P t=some (.slice e)) (hi:tyI c.P e=some ti) (hz:ti.zero=some z) (hlen:ps.toList.length=len) (hsm:len*ti.size≤16777216) (hsz:0<ti.size)
  (hparts: ∀f:Operand->Value,(ps.toList.map λp=>(p.1,f p.2))=((ps.toList.map λp=>f p.2).zipIdx 0).map λx=>(x.2,x.1))
  (hfz: ∀T',T'.length=T.length->(∀k∈keysOf (killsOf (ps.toList.map λp=>opd E p.2)),T'[k]?=T[k]?)-> ∀F' K',K' vs' (app T' (killsOf (ps.toList.map λp=>opd E p.2)))->frzAll (ps.toList.map λp=>opd E p.2) T' F' K')
  (hok:okEs ti.size vs') (hp:p∉keysOf (killsOf (ps.toList.map λp=>opd E p.2))):
  Fact c ops i E T ⟨o.dst,gs++tmpsOf o.op.operands.toList,keysOf (killsOf (ps.toList.map λp=>opd E p.2)),.osl (.loc p) 2 0 len,killsOf (ps.toList.map λp=>opd E p.2)++ [(p,some (.vec 2 ti.size vs'))],some p⟩:=by
 intro E' T' e1 e2 e3 w β H m a b cs rest k hs k1 k2 k4;have key:=Kk (c:=c) (ops:=ops) (i:=i) (o:=o) (E:=E) (T:=T) (gs:=gs) (p:=p) (x:=.osl (.loc p) 2 0 len) (ob:=.vec 2 ti.size vs') (d:=.vec 0 0 []) (kills:=killsOf (ps.toList.map λp=>opd E p.2))
  (tc:=keysOf (killsOf (ps.toList.map λp=>opd E p.2))) ho hg (λcl e=>by rw[hop] at e;cases e) hd
 refine key ?_ E' T' e1 e2 e3 w β H m a b cs rest k hs k1 k2 k4;intro E' T' hl hE htc hT' w β H m a q hs hpq hv;have hvs:(ps.toList.map λp=>opd E' p.2)=ps.toList.map λp=>opd E p.2:=Atj λp hp=>hE _ (by rw[hop];simp only[Op.operands];exact Ato.2 ⟨p,hp,rfl⟩)
 rcases Dq (F:=False) _ T' (λys T1=>ys=vs'∧T1=app T' (killsOf (ps.toList.map λp=>opd E p.2))) (hfz T' hl htc False _ ⟨rfl,rfl⟩) with h| ⟨ys,T1,⟨rfl,rfl⟩,hto⟩
 ·exact h.elim
 rw[←hvs] at hto;obtain⟨H',cells,g1,g2,hrun,c1,c2,c3,c4⟩:=Ml (c:=c) ht hi hz hlen hsm hsz hparts hto (N7 hok) hop hs;have hTp:(app T' (killsOf (ps.toList.map λp=>opd E p.2)))[p]?=some (some (.vec 0 0 [])):=by rw[Gy _ _ _ hp];exact hT'
 rw[hvs] at g1;obtain⟨β',H'',q1,q2,q3,q4⟩:=g1.intoVec hpq hv hTp ti.size ys cells e len len hsz (N7 hok) c1 (Ara _) c2 c3 c4;rw[Hc];exact⟨_,_,β',H'',hrun,q1,g2.toFr0.trans q2,λr _ hne hn=>by rw[q3 r hne];exact hn,q4⟩
theorem Us {t t':TypeId}{x y:Operand}{e:TypeId}{ti:TypeInfo}{z:Value}{ys:List V}(ht:tyU c.P t=some (.slice e)){e':TypeId}(ht':tyU c.P t'=some (.slice e'))(hi:tyI c.P e=some ti)(hz:ti.zero=some z)
  (hb:(Nat.ble 1 ti.size&&Nat.beq z.cells.size ti.size&&Nat.ble 1 ti.bytes)=true) (hx:opd E x=.nilsl) (hroom:room ys.length ti.bytes)
  {o:Oper} (ho:o.op=.call {callee:=.builtin .append,args:= #[x,y],argTypes:= #[t,t']}) {w:World} {β:Nat->Loc} {H:Heap} {m:List Nat} {a:Act} (hs:SRel c.imps c.nt w β H m ⟨E,T,c.B,c.D⟩ a)
  (hsrc:(∀y∈ys,okE ti.size y)∧ ∃news,SrcIs c.P w ti.size (a.eval y) ys.length news∧(∀(k:Nat) (c:V) (u:Value),(flat ys)[k]?=some c->news[k]?=some u->Rep w β H c u)):
  (ys=[]∧(execOp a.eval o).run c.P w=.ok (.value (.slice none 0 0)) w)∨
  ∃(vs:Array Value) (cap:Nat),(execOp a.eval o).run c.P w=.ok (.value (.slice (some ⟨w.heap.size,0,none⟩) ys.length cap)) (w.drew.alloc (.cells vs e))∧ys.length≤cap∧cap≤maxLen∧cap*ti.size=vs.size∧
   (∀(i:Nat) (x:V) (j:Nat) (c:V) (v:Value),ys[i]?=some x->x.cells[j]?=some c->vs[i*ti.size+j]?=some v->Rep w β H c v):=by
 have ht:=Al ht;have ht':=Al ht';have hI:=A4 hi;simp only[Aq6] at hb;have hsz:0<ti.size:=Arp hb.1.1;have hzs:z.cells.size=ti.size:=Arn hb.1.2;have hby:1≤ti.bytes:=Arp hb.2;have exec: ∀(w w':World) (v:Value),(Builtin.append_ #[t,t'] o.type #[a.eval x,a.eval y]).run c.P w=.ok v w'->(execOp a.eval o).run c.P w=.ok (.value v) w':=by
  intro w w' v hr;simp[execOp,ho,resolve,invoke,builtin,hr]
 have small: ∀n,room n ti.bytes->n≤70368744177664:=λn hn=>by
  unfold room at hn;exact Ark (Au7 n hby) hn
 obtain⟨hok,news,hsI,hrep⟩:=hsrc;have hv:=Ae hs x;simp only[hx,V.conv] at hv;generalize hq:a.eval x=q at hv;cases hv
 by_cases hm:ys.length=0
 ·have hys:ys=[]:=As2 hm;subst hys;have hnews:news=[]:=As2 (by simpa using hsI.size);subst hnews;exact .inl ⟨rfl,exec w w _ (by rw[hq];exact Gw ht ht' hI o.type hsI (Aq4 _))⟩
 ·have hfl:=Gk ys hok;have hro:RowRep w β H (flat ys) news:=⟨by rw[hfl,hsI.size],hrep⟩;have hle:=small _ hroom;have hroom':(0+ys.length)*ti.bytes≤70368744177664:=by rw[Ary];exact hroom
  have holds:SrcIs c.P w ti.size (.slice none 0 0) 0 []:=SrcIs.of_cells (by simp) (λhne=>absurd rfl hne);have hrun:=I4 (P:=c.P) (w:=w) ht ht' hI hz o.type hsI holds (by omega) (by omega) (growslice_fits (by omega) (by omega));simp only[Ary,Ar9] at hrun;have hge:=grownCap_ge w ys.length 0 e;have hcm:=grownCap_le_maxLen w ys.length 0 e (by unfold maxLen;omega);obtain⟨cap,hcap⟩: ∃cap,cap=grownCap w ys.length 0 e:=⟨_,rfl⟩;rw[←hcap] at hge hcm hrun;have hvec:=Ld (vs:=news.toArray++Builtin.zeroCells z.cells (cap-ys.length)) hok hro (λk hk=>by rw[Ass (by simpa using hk)];simp);have hvsz:(news.toArray++Builtin.zeroCells z.cells (cap-ys.length)).size=cap*ti.size:=by
   simp only[Auo,Avx,E2,hzs,hsI.size,←Asn]
   congr 1
   omega
  exact .inr ⟨_,cap,exec w _ _ (by rw[hq];exact hrun),hge,hcm,hvsz.symm,hvec.2⟩
theorem Aeb {t t' e e':TypeId}{x y:Operand}{ti:TypeInfo}{z:Value}{ys:List V}{p:Nat}(ho:ops[i]?=some o)(hop:o.op=.call {callee:=.builtin .append,args:= #[x,y],argTypes:= #[t,t']})(hg:Guarded ops o E gs true)
  (hd:T[p]?=some (some (.vec 0 0 []))) (ht:tyU c.P t=some (.slice e)) (ht':tyU c.P t'=some (.slice e')) (hi:tyI c.P e=some ti) (hz:ti.zero=some z) (hb:(Nat.ble 1 ti.size&&Nat.beq z.cells.size ti.size&&Nat.ble 1 ti.bytes)=true)
  (hx:opd E x=.nilsl) (hroom:room ys.length ti.bytes) (hsrc: ∀T',(∀k∈vloc (opd E y),T'[k]?=T[k]?)-> ∀F' K',K' ys->appSrc (opd E y) ti.size T' F' K'):
  Fact c ops i E T ⟨o.dst,gs++tmpsOf o.op.operands.toList,vloc (opd E y),.osl (.loc p) 2 0 ys.length,[]++ [(p,some (.vec 2 ti.size ys))],some p⟩:=by
 refine Kk ho hg (λcl e=>by rw[hop] at e;cases e) hd λE' T' _ hE htc hT' w β H m a q hs hp hv=> ?_;have hx':opd E' x=.nilsl:=by rw[hE x (by rw[hop];simp[Op.operands,Call.operands])];exact hx
 have hy':opd E' y=opd E y:=hE y (by rw[hop];simp[Op.operands,Call.operands]);have hsz:0<ti.size:=by
  simp only[Aq6] at hb;exact Arp hb.1.1
 have hs1:=hsrc T' htc False (λzs=>zs=ys) rfl;rw[←hy'] at hs1
 rcases P0 hsz hs1 with h| ⟨zs,rfl,hs2⟩
 ·exact h.elim
 have hs3:=hs2 _ _ w β H m _ _ a c.P hs
 rcases Us (c:=c) ht ht' hi hz hb hx' hroom hop hs hs3 with⟨rfl,hrun⟩| ⟨vs,cap,hrun,c1,c2,c3,c4⟩
 ·obtain⟨β',H',k1,k2,k3,k4⟩:=hs.intoNil hp hv hT' ti.size none;exact⟨_,_,β',H',hrun,k1,k2,λr _ hne hn=>by rw[k3 r hne];exact hn,k4⟩
 ·have hf0:Fr w β H w.drew β H:=Fr.of_heap rfl rfl rfl rfl;have hsame:SRel c.imps c.nt w.drew β H m ⟨E',T',c.B,c.D⟩ a:=hs.same hf0 (hs.hrel.of_heap rfl rfl rfl rfl);obtain⟨β',H',k1,k2,k3,k4⟩:=hsame.intoVec hp hv hT' ti.size zs vs e zs.length cap hsz hs3.1 rfl c1 c2 c3 (λi x j c v h1 h2 h3=>(c4 i x j c v h1 h2 h3).mono hf0);exact⟨_,_,β',H',hrun,k1,hf0.toFr0.trans k2,λr _ hne hn=>by rw[k3 r hne];exact hn,k4⟩
theorem Aar (z:Array Value)(n j:Nat)(hj:j<n)(_hz:0<z.size):(madeCells z n)[j]?=some z[j % z.size]! :=by
 simp[madeCells,hj]
theorem Aim {t e:TypeId}{xl xc:Operand}{ti:TypeInfo}{z:Value}{N p:Nat}(ho:ops[i]?=some o)(hop:o.op=.makeSlice t xl xc)(hg:Guarded ops o E gs true)(hd:T[p]?=some (some (.vec 0 0 [])))
  (h1:opd E xl=.int .i64 N) (h2:opd E xc=.int .i64 N) (ht:tyU c.P t=some (.slice e)) (hi:tyI c.P e=some ti) (hz:ti.zero=some z)
  (hsz:(Nat.beq z.cells.size ti.size&&Nat.ble 1 ti.size&&Nat.ble 1 ti.bytes&&onesB (ofVal z).cells&&Nat.beq (lcount (ofVal z).cells 0) ti.size)=true) (hb:ti.bytes*N≤281474976710656):
  Fact c ops i E T ⟨o.dst,gs++tmpsOf o.op.operands.toList,[],.osl (.loc p) 2 0 N,[]++ [(p,some (.vec 2 ti.size (List.replicate N (ofVal z))))],some p⟩:=by
 simp only[Aq6,C5,As1] at hsz;obtain⟨⟨⟨⟨s1,s2⟩,s3⟩,s4⟩,s5⟩:=hsz;have s1:=Arn s1;have s2:1≤ti.size:=Arp s2;have s3:1≤ti.bytes:=Arp s3;have s5:=Arn s5;have hN:N≤281474976710656:=by
  have:1*N≤ti.bytes*N:=Arg _ s3;omega
 refine Kk ho hg (λcl e=>by rw[hop] at e;cases e) hd λE' T' _ hE _ hT' w β H m a q hs hp hv=> ?_;have h1':opd E' xl=.int .i64 N:=by rw[hE xl (by rw[hop];simp[Op.operands])];exact h1
 have h2':opd E' xc=.int .i64 N:=by rw[hE xc (by rw[hop];simp[Op.operands])];exact h2
 have e1:=A8 (by have:=Ae hs xl;rwa [h1'] at this);have e2:=A8 (by have:=Ae hs xc;rwa [h2'] at this);have hb':(ti.bytes:Int)* (N:Int)≤281474976710656:=by
  have h:((ti.bytes*N:Nat):Int)≤281474976710656:=by omega
  rwa [Int.natCast_mul] at h
 have hrun:=run_make (P:=c.P) w t e ti z (Al ht) (A4 hi) hz .i64 .i64 N N (by omega) (by omega) hb' (by omega);simp only[Int.toNat_natCast] at hrun;have hzr:RowRep w β H (V.convL m (ofVal z).cells) z.cells.toList:=Mm m z;have hzp:V.convL m (ofVal z).cells=(ofVal z).cells:=by
  refine E5 m _ ?_;have key1: ∀v,(ofVal1 v).pureB=true:=λv=>by
   unfold ofVal1;split<;>first|rfl|skip;cases(Nat.ble _ 1000000)<;>rfl
  have key: ∀l:List Value,V.pureL (lmap ofVal1 l)=true:=λl=>by
   induction l with
   |nil=>rfl
   |cons x l ih=>simp only[lmap,V.pureL,key1,ih,Ast]
  unfold ofVal;split
  ·exact key _
  ·rw[L2];simp[V.pureL,key1]
 rw[hzp] at hzr;obtain⟨β',H',k1,k2,k3,k4⟩:=hs.intoVec hp hv hT' ti.size (List.replicate N (ofVal z)) (madeCells z.cells (N*ti.size)) e N N s2 (λx hx=>by rw[Aug hx];exact⟨s5,s4⟩) (by simp) (Ara _) (by unfold maxLen;omega) (by simp[madeCells])
  (λix x j cc v hx hj hv=>by
   have hxl:=Ab hx;rw[Awa] at hxl;have hxe:=Aug (Aq7 hx);subst hxe;have hjl:=Ab hj;have hlt:ix*ti.size+j<N*ti.size:=by
    have:(ix+1)*ti.size≤N*ti.size:=Arg _ hxl;rw[Asn] at this;omega
   rw[Aar z.cells _ _ hlt (by omega)] at hv;injection hv with hv
   have hmod:(ix*ti.size+j) % z.cells.size=j:=by rw[s1,Auf,Avr,Av2 (by omega)]
   rw[hmod] at hv;refine hzr.2 j cc v hj ?_;rw[←hv];have:j<z.cells.size:=by omega
   simp[this])
 refine⟨_,_,β',H',?_,k1,k2,λr _ hne hn=>by rw[k3 r hne];exact hn,k4⟩;simp only[execOp,hop,Sem.run_bind,e1,e2,hrun,Result.andThen_ok];rfl
theorem An8 {p:Nat}{K:V->HObj->List (Nat×Option HObj)->List Nat->Prop}(ho:ops[i]?=some o)(hg:Guarded ops o E gs true)(h:evMk c o.op E T p K):
  ∃x ob kills tc,K x ob kills tc∧Fact c ops i E T ⟨o.dst,gs++tmpsOf o.op.operands.toList,tc,x,kills++ [(p,some ob)],some p⟩∧p<T.length:=by
 unfold evMk at h;split at h
 ·rename_i t x hop;split at h
  ·rename_i hi hd;rw[Bq] at h;rw[Af] at hd;exact⟨_,_,_,_,h.2,Alu ho hop hg hd h.1,Ab hd⟩
  ·exact h.elim
 ·rename_i t hop;split at h
  ·rename_i z hz hd;rw[Af] at hd;exact⟨_,_,_,_,h.2,Agk ho hop hg hd hz h.1,Ab hd⟩
  ·exact h.elim
 ·rename_i t len ps hop;split at h
  case h_2=>exact h.elim
  rename_i e ht hd;rw[Af] at hd;split at h
  case h_2=>exact h.elim
  rename_i ti hi;split at h
  case h_2=>exact h.elim
  rename_i z hz;obtain⟨hb,h⟩:=h;simp only[Aq6] at hb;obtain⟨⟨hb1,hb2⟩,hb3⟩:=hb;have hlen:=Arn hb1;rw[C5,As1] at hlen
  rcases M1 _ _ _ h with h| ⟨h,hparts⟩
  ·exact h.elim
  rcases Ob _ _ _ h with h| ⟨vs',⟨hok,hm,hK⟩,hfz⟩
  ·exact h.elim
  refine⟨_,_,_,_,hK,Ur ho hop hg hd ht hi hz hlen (Arp hb2) (Arp hb3) hparts hfz hok λhmem=> ?_,Ab hd⟩;rw[(L3 _ _).2 hmem] at hm;cases hm
 ·rename_i t xl xc hop;split at h
  case h_2=>exact h.elim
  rename_i e n n' ht hd h1 h2;rw[Af] at hd;split at h
  case h_2=>exact h.elim
  rename_i ti hi;split at h
  case h_2=>exact h.elim
  rename_i z hz;obtain⟨⟨h0,hn,hb⟩,hsz,hK⟩:=h;subst hn;have e0:((n'.toNat:Nat):Int)=n':=by omega
  exact⟨_,_,_,_,hK,Aim ho hop hg hd (N:=n'.toNat) (by rw[h1,e0]) (by rw[h2,e0]) ht hi hz hsz hb,Ab hd⟩
 ·rename_i args ts hop;split at h
  case h_2=>exact h.elim
  rename_i x y t t' hx ht0 hd;rw[Af] at hd;have hx:args= #[x,y]:=by rw[←Avh (xs:=args),hx]
  have ht0:ts= #[t,t']:=by rw[←Avh (xs:=ts),ht0]
  subst hx ht0;split at h
  case h_2=>exact h.elim
  rename_i e' e ht' ht;split at h
  case h_2=>exact h.elim
  rename_i ti hi;split at h
  case h_2=>exact h.elim
  rename_i z hz;obtain⟨hn,hb,h⟩:=h;have hx:opd E x=.nilsl:=by
   revert hn
   cases opd E x<;>simp[isNilsl]
  rcases Uo h with h| ⟨ys,⟨hroom,hK⟩,hs⟩
  ·exact h.elim
  exact⟨_,_,_,_,hK,Aeb ho hop hg hd ht ht' hi hz hb hx hroom hs,Ab hd⟩
 ·exact h.elim
structure Sig where
 dst:Option Tmp
 reads:List Nat
 touch:List Nat
 keys:List Nat
def disjB:List Nat->List Nat->Bool
 | [],_=>true
 |x::xs,ys=> !memB ys x&&disjB xs ys
theorem Mn: ∀(xs ys:List Nat),disjB xs ys=true-> ∀x∈xs,x∉ys
 | [],_,_,x,hx,_=>by cases hx
 |y::xs,ys,h,x,hx,hy=>by
  simp only[disjB,Aq6,Atn] at h
  rcases Arl.1 hx with rfl|hx
  ·rw[(L3 _ _).2 hy] at h;cases h.1
  ·exact Mn xs ys h.2 x hx hy
def optMem (d:Option Tmp)(ys:List Nat):Bool:=
 match d with
 |none=>false
 |some t=>memB ys t
def optEq (d e:Option Tmp):Bool:=
 match d,e with
 |some a,some b=>Nat.beq a b
 |_,_=>false
def indB (r s:Sig):Bool:= !optMem r.dst s.reads&& !optMem s.dst r.reads&& !optEq r.dst s.dst&&disjB r.keys s.touch&&disjB s.keys r.touch&&disjB r.keys s.keys
structure Ind (r s:Sig):Prop where
 rs: ∀t,r.dst=some t->t∉s.reads
 sr: ∀t,s.dst=some t->t∉r.reads
 dd: ∀t,r.dst=some t->s.dst≠some t
 kt: ∀k∈r.keys,k∉s.touch
 tk: ∀k∈s.keys,k∉r.touch
 kk: ∀k∈r.keys,k∉s.keys
theorem Ind.symm {r s:Sig}(h:Ind r s):Ind s r:=⟨h.sr,h.rs,λt ht hr=>h.dd t hr ht,h.tk,h.kt,λk hk hk'=>h.kk k hk' hk⟩
theorem Alv {r s:Sig}(h:indB r s=true):Ind r s:=by
 simp only[indB,Aq6,Atn] at h;obtain⟨⟨⟨⟨⟨h1,h2⟩,h3⟩,h4⟩,h5⟩,h6⟩:=h;refine⟨λt ht hm=> ?_,λt ht hm=> ?_,λt ht hs=> ?_,Mn _ _ h4,Mn _ _ h5,Mn _ _ h6⟩
 ·rw[ht] at h1;simp only[optMem] at h1;rw[(L3 _ _).2 hm] at h1;cases h1
 ·rw[ht] at h2;simp only[optMem] at h2;rw[(L3 _ _).2 hm] at h2;cases h2
 ·rw[ht,hs] at h3;simp only[optEq,Av3] at h3;cases h3
def maskOf (ms:List Nat):List Edge->Nat
 | []=>0
 |e::es=>bif Region.binds .any e then Nat.lor (Nat.lor (2^e.on) ((lget ms e.on).getD 0)) (maskOf ms es) else maskOf ms es
def edgesOk (i:Nat):List Edge->Bool
 | []=>true
 |e::es=>bif Region.binds .text e then(Nat.blt e.on i&&edgesOk i es) else edgesOk i es
def rdyE (done:List Nat):List Edge->Bool
 | []=>true
 |e::es=>bif Region.binds .gc e then(memN done e.on&&rdyE done es) else rdyE done es
def firstR (done:List Nat):List Oper->Nat->Option Nat
 | [],_=>none
 |o::os,i=>bif !memN done i&&rdyE done o.after.toList then some i else firstR done os (i+1)
def gcOrd (ops:List Oper):Nat->List Nat->List Nat
 |0,done=>done
 |n+1,done=>match firstR done ops 0 with
  |some i=>gcOrd ops n (i::done)
  |none=>done
def coversB (done:List Nat):Nat->Bool
 |0=>true
 |n+1=>memN done n&&coversB done n
theorem L4: ∀(xs:List Nat) (n:Nat),memN xs n=true↔n∈xs
 | [],n=>by simp[memN]
 |x::xs,n=>by
  rw[memN];cases hb:Nat.beq x n with
  |true=>have:=Arn hb;subst this;simp
  |false=>
   have hne:n≠x:=λe=>by subst e;simp at hb
   simp only[cond_false,L4 xs n,Arl];exact⟨.inr,λh=>h.resolve_left hne⟩
theorem Tp {done:List Nat}: ∀(es:List Edge),rdyE done es=true-> ∀e∈es,Region.binds .gc e=true->e.on∈done
 | [],_,e,he,_=>by cases he
 |x::es,h,e,he,hb=>by
  rw[rdyE] at h;cases hx:Region.binds .gc x with
  |true=>
   rw[hx] at h;simp only[cond_true,Aq6] at h
   rcases Arl.1 he with rfl|he
   ·exact(L4 _ _).1 h.1
   ·exact Tp es h.2 e he hb
  |false=>
   rw[hx] at h
   rcases Arl.1 he with rfl|he
   ·rw[hx] at hb;cases hb
   ·exact Tp es h e he hb
theorem Ut {done:List Nat}: ∀(os:List Oper) (i0 i:Nat),firstR done os i0=some i-> ∃k o,i=i0+k∧os[k]?=some o∧rdyE done o.after.toList=true
 | [],_,_,h=>by cases h
 |o::os,i0,i,h=>by
  rw[firstR] at h;cases hb:(!memN done i0&&rdyE done o.after.toList) with
  |true=>
   rw[hb] at h;injection h with h
   simp only[Aq6] at hb;exact⟨0,o,h.symm,rfl,hb.2⟩
  |false=>
   rw[hb] at h;obtain⟨k,o',h1,h2,h3⟩:=Ut os (i0+1) i h;exact⟨k+1,o',by omega,by simpa using h2,h3⟩
inductive GcChain (ops:List Oper):List Nat->Prop
 |nil:GcChain ops []
 |cons {i o L} (ho:ops[i]?=some o) (hr:rdyE L o.after.toList=true) (h:GcChain ops L):GcChain ops (i::L)
theorem Sh {ops:List Oper}: ∀(n:Nat) (L:List Nat),GcChain ops L->GcChain ops (gcOrd ops n L)
 |0,L,h=>h
 |n+1,L,h=>by
  rw[gcOrd];split
  ·rename_i i hi;obtain⟨k,o,h1,h2,h3⟩:=Ut _ _ _ hi;rw[Ary] at h1;subst h1;exact Sh n _ (.cons h2 h3 h)
  ·exact h
theorem GcChain.next {ops:List Oper}{S:Nat->Bool}: ∀ {L:List Nat},GcChain ops L->(∀i∈L,S i=true)∨ ∃i o,ops[i]?=some o∧S i=false∧ ∀e∈o.after.toList,Region.binds .gc e=true->S e.on=true
 | [],_=>.inl (by simp)
 |i::L,h=>by
  cases h with
  |cons ho hr h=>
   rcases GcChain.next (S:=S) h with h1|h1
   ·cases hS:S i with
    |true=>exact .inl λj hj=>by rcases Arl.1 hj with rfl|hj;exact hS;exact h1 j hj
    |false=>exact .inr ⟨i,_,ho,hS,λe he hb=>h1 _ (Tp _ hr e he hb)⟩
   ·exact .inr h1
theorem Si {done:List Nat}: ∀(n:Nat),coversB done n=true-> ∀i,i<n->i∈done
 |0,_,i,hi=>by omega
 |n+1,h,i,hi=>by
  simp only[coversB,Aq6] at h
  rcases Ar3 i n with h1|h1
  ·exact Si n h.2 i h1
  ·obtain rfl:i=n:=by omega
   exact(L4 _ _).1 h.1
def hasGcE:List Edge->Bool
 | []=>false
 |e::es=>bif Region.binds .gc e&& !Region.binds .text e then true else hasGcE es
def hasGc:List Oper->Bool
 | []=>false
 |o::os=>bif hasGcE o.after.toList then true else hasGc os
theorem Uu: ∀(es:List Edge),hasGcE es=false-> ∀e∈es,Region.binds .gc e=true->Region.binds .text e=true
 | [],_,e,he,_=>by cases he
 |x::es,h,e,he,hb=>by
  rw[hasGcE] at h;cases hx:(Region.binds .gc x&& !Region.binds .text x) with
  |true=>rw[hx] at h;cases h
  |false=>
   rw[hx] at h
   rcases Arl.1 he with rfl|he
   ·rw[hb] at hx;simpa using hx
   ·exact Uu es h e he hb
theorem Yl: ∀(os:List Oper),hasGc os=false-> ∀o∈os,hasGcE o.after.toList=false
 | [],_,o,ho=>by cases ho
 |x::os,h,o,ho=>by
  rw[hasGc] at h;cases hx:hasGcE x.after.toList with
  |true=>rw[hx] at h;cases h
  |false=>
   rw[hx] at h
   rcases Arl.1 ho with rfl|ho
   ·exact hx
   ·exact Yl os h o ho
def gcOk (ops:List Oper):Bool:=bif hasGc ops then coversB (gcOrd ops (lcount ops 0) []) (lcount ops 0) else true
def pairsB (mk:Nat)(s:Sig):Nat->List Sig->Bool
 |_,[]=>true
 |j,e::es=>(Nat.testBit mk j||indB e s)&&pairsB mk s (j+1) es
def chk0:List Oper->List Sig->Nat->List Nat->List Sig->Bool
 | [],[],_,_,_=>true
 |o::os,s::ss,i,ms,es=>edgesOk i o.after.toList&& (pairsB (maskOf ms o.after.toList) s 0 es&&chk0 os ss (i+1) (ms++ [maskOf ms o.after.toList]) (es++ [s]))
 |_,_,_,_,_=>false
def chk (os:List Oper)(ss:List Sig)(i:Nat)(ms:List Nat)(es:List Sig):Bool:=chk0 os ss i ms es&&gcOk os
def Ready (ops:List Oper)(S:Nat->Bool)(i:Nat):Prop:= ∀o,ops[i]?=some o-> ∀e∈o.after.toList,Region.binds .any e=true->S e.on=true
def Closed (ops:List Oper)(S:Nat->Bool):Prop:= ∀i,S i=true->Ready ops S i
def Anc (ops:List Oper)(j i:Nat):Prop:= ∀S,Closed ops S->Ready ops S i->S j=true
theorem Uv {ops:List Oper}{ms:List Nat}{S:Nat->Bool}(hS:Closed ops S)(hms: ∀l mk,ms[l]?=some mk->S l=true-> ∀j,Nat.testBit mk j=true->S j=true):
  ∀(es:List Edge),(∀e∈es,Region.binds .any e=true->S e.on=true)-> ∀j,Nat.testBit (maskOf ms es) j=true->S j=true
 | [],_,j,h=>by simp[maskOf] at h
 |e::es,he,j,h=>by
  rw[maskOf] at h;have ih:=Uv hS hms es (λe' h'=>he e' (Are _ h')) j;cases hb:Region.binds .any e with
  |false=>rw[hb] at h;exact ih h
  |true=>
   rw[hb] at h;have hon:=he e Ari hb;have h:Nat.testBit ((2^e.on||| (lget ms e.on).getD 0)|||maskOf ms es) j=true:=h;rw[Nat.testBit_or,Nat.testBit_or,Nat.testBit_two_pow] at h;simp only[At0,decide_eq_true_eq] at h
   rcases h with(h|h)|h
   ·rw[←h];exact hon
   ·rw[Af] at h;cases hm:ms[e.on]? with
    |none=>rw[hm] at h;simp at h
    |some mk=>
     rw[hm] at h;exact hms e.on mk hm hon j h
   ·exact ih h
theorem Uw {mk:Nat}{s:Sig}: ∀(es:List Sig) (j0:Nat),pairsB mk s j0 es=true-> ∀j e,es[j]?=some e->Nat.testBit mk (j0+j)=true∨Ind e s
 | [],_,_,j,e,h=>by simp at h
 |x::es,j0,h,j,e,hj=>by
  simp only[pairsB,Aq6,At0] at h;cases j with
  |zero=>
   simp only[Ar2,Option.some.injEq] at hj;subst hj
   rcases h.1 with h1|h1
   ·exact .inl h1
   ·exact .inr (Alv h1)
  |succ j=>
   have:=Uw es (j0+1) h.2 j e hj;rwa [Avq,Auf 1 j] at this
theorem M3 {i:Nat}: ∀(es:List Edge),edgesOk i es=true-> ∀e∈es,Region.binds .text e=true->e.on<i
 | [],_,e,h,_=>by cases h
 |x::es,h,e,he,hb=>by
  rw[edgesOk] at h;cases hx:Region.binds .text x with
  |true=>
   rw[hx] at h;simp only[cond_true,Aq6] at h
   rcases Arl.1 he with rfl|he
   ·exact Arp h.1
   ·exact M3 es h.2 e he hb
  |false=>
   rw[hx] at h
   rcases Arl.1 he with rfl|he
   ·rw[hx] at hb;cases hb
   ·exact M3 es h e he hb
theorem Ym {ops:List Oper}: ∀(os:List Oper) (ss:List Sig) (i:Nat) (ms:List Nat) (es:List Sig),chk0 os ss i ms es=true->(∀k,os[k]?=ops[i+k]?)->ms.length=i->es.length=i->
  (∀l mk,ms[l]?=some mk-> ∀S,Closed ops S->Ready ops S l-> ∀j,Nat.testBit mk j=true->S j=true)->
  os.length=ss.length∧(∀k o,os[k]?=some o-> ∀e∈o.after.toList,Region.binds .text e=true->e.on<i+k)∧
   ∀(k j:Nat) (sj sk:Sig),ss[k]?=some sk->j<i+k->(es++ss)[j]?=some sj->Ind sj sk∨Anc ops j (i+k)
 | [],[],i,ms,es,h,_,_,_,_=>⟨rfl,by simp,by simp⟩
 | [],_::_,i,ms,es,h,_,_,_,_=>by simp[chk0] at h
 |_::_,[],i,ms,es,h,_,_,_,_=>by simp[chk0] at h
 |o::os,s::ss,i,ms,es,h,hos,hml,hel,hms=>by
  simp only[chk0,Aq6] at h;obtain⟨h1,h2,h3⟩:=h;have ho:ops[i]?=some o:=by have:=hos 0;simpa using this.symm
  have hmask: ∀S,Closed ops S->Ready ops S i-> ∀j,Nat.testBit (maskOf ms o.after.toList) j=true->S j=true:=λS hS hR=>
   Uv hS (λl mk hl hSl j hj=>hms l mk hl S hS (hS l hSl) j hj) _ (λe he hb=>hR o ho e he hb)
  obtain⟨g1,g2,g3⟩:=Ym os ss (i+1) (ms++ [maskOf ms o.after.toList]) (es++ [s]) h3 (λk=>by have:=hos (k+1);rw[Asx] at this;rw[this];congr 1;omega) (by simp[hml]) (by simp[hel]) (λl mk hl=>by
   rcases Fh hl with⟨_,h⟩| ⟨h,e⟩
   ·exact hms l mk h
   ·subst e;rw[h,hml];exact hmask)
  refine⟨by simp[g1],λk o' hk e he hb=> ?_,λk j sj sk hk hj hsj=> ?_⟩
  ·cases k with
   |zero=>
    simp only[Ar2,Option.some.injEq] at hk;subst hk;exact M3 _ h1 e he hb
   |succ k=>
    have:=g2 k o' hk e he hb;omega
  ·cases k with
   |zero=>
    simp only[Ar2,Option.some.injEq] at hk;subst hk;have hje:j<es.length:=by omega
    rw[Aq9 hje] at hsj
    rcases Uw es 0 h2 j sj hsj with h|h
    ·right;intro S hS hR;rw[Ary] at h;exact hmask S hS hR j h
    ·exact .inl h
   |succ k=>
    have:=g3 k j sj sk hk (by omega) (by simpa using hsj);have e:i+1+k=i+ (k+1):=by omega
    rwa [e] at this
theorem Yn {ops:List Oper}{ss:List Sig}(h:chk ops ss 0 [] []=true):
  ops.length=ss.length∧(∀(md:Region.Mode) (S:Nat->Bool),(∃j,j<ops.length∧S j=false)-> ∃i o,ops[i]?=some o∧S i=false∧ ∀e∈o.after.toList,Region.binds md e=true->S e.on=true)∧
   ∀(i j:Nat) (si sj:Sig),j<i->ss[i]?=some si->ss[j]?=some sj->Ind sj si∨Anc ops j i:=by
 simp only[chk,Aq6] at h;obtain⟨h,hg⟩:=h;obtain⟨h1,h2,h3⟩:=Ym (ops:=ops) ops ss 0 [] [] h (λk=>by rw[Ary]) rfl rfl (λl mk hl=>by simp at hl);refine⟨h1,λmd S hS=> ?_,λi j si sj hji hi hj=> ?_⟩
 ·
  have text:(∀(i:Nat) (o:Oper),ops[i]?=some o-> ∀e∈o.after.toList,Region.binds md e=true->Region.binds .text e=true)-> ∃i o,ops[i]?=some o∧S i=false∧ ∀e∈o.after.toList,Region.binds md e=true->S e.on=true:=by
   intro hm;obtain⟨j,hj,hSj⟩:=hS
   induction j using Nat.strongRecOn with
   |_ j ih=>
    have ho:ops[j]?=some ops[j]:=Aq3 hj
    by_cases hall: ∀e∈ (ops[j]).after.toList,Region.binds md e=true->S e.on=true
    ·exact⟨j,_,ho,hSj,hall⟩
    ·have: ∃e,e∈ (ops[j]).after.toList∧Region.binds md e=true∧S e.on=false:=by
      refine Classical.byContradiction λhn=>hall λe he hb=> ?_;cases hx:S e.on with
      |true=>rfl
      |false=>exact absurd ⟨e,he,hb,hx⟩ hn
     obtain⟨e,he,hb,hx⟩:=this;have hlt:=h2 j _ ho e he (hm j _ ho e he hb);exact ih e.on (by omega) (by omega) hx
  cases md with
  |text=>exact text λ_ _ _ _ _ hb=>hb
  |any=>
   refine text λ_ _ _ e _ hb=> ?_;unfold Region.binds at hb ⊢;split at hb<;>first|rfl| (cases hb)
  |gc=>
   unfold gcOk at hg;cases hh:hasGc ops with
   |false=>
    refine text λi o ho e he hb=> ?_;exact Uu _ (Yl _ hh o (Aq7 ho)) e he hb
   |true=>
    rw[hh] at hg;simp only[cond_true,C5,As1] at hg
    rcases GcChain.next (S:=S) (Sh (ops:=ops) ops.length [] .nil) with h4|h4
    ·obtain⟨j,hj,hSj⟩:=hS;have:=h4 j (Si _ hg j hj);rw[hSj] at this;cases this
    ·exact h4
 ·have:=h3 i j sj si hi (by omega) (by simpa using hj);rwa [Ary] at this
theorem sa (i k:Nat):i+1+k=i+ (k+1):=by omega
def putD (d:Option Tmp)(x:V)(E:Env):Env:=
 match d with
 |none=>E
 |some t=>(t,x)::E
def envS (S:Nat->Bool):Nat->List Rec->Env->Env
 |_,[],E=>E
 |i,r::rs,E=>envS S (i+1) rs (if S i=true then putD r.dst r.x E else E)
def heapS (S:Nat->Bool):Nat->List Rec->Heap->Heap
 |_,[],T=>T
 |i,r::rs,T=>heapS S (i+1) rs (if S i=true then app T r.eff else T)
theorem Jm (d:Option Tmp)(x:V)(E:Env)(t:Tmp):lk (putD d x E) t=if d=some t then x else lk E t:=by
 cases d with
 |none=>simp[putD]
 |some s=>
  simp only[putD,lk,Option.some.injEq];cases hb:Nat.beq s t with
  |true=>rw[if_pos (Arn hb)];rfl
  |false=>rw[if_neg (Aun hb)];rfl
theorem Xk {S S':Nat->Bool}{t:Tmp}: ∀(rs:List Rec) (i:Nat) (E E':Env),lk E t=lk E' t->(∀(k:Nat) (r:Rec),rs[k]?=some r->r.dst=some t->S (i+k)=S' (i+k))->lk (envS S i rs E) t=lk (envS S' i rs E') t
 | [],_,_,_,h,_=>h
 |r::rs,i,E,E',h,hS=>by
  rw[envS,envS];refine Xk rs (i+1) _ _ ?_ (λk r' hk hd=>by rw[sa i k];exact hS (k+1) r' (by simpa using hk) hd)
  by_cases hd:r.dst=some t
  ·have:=hS 0 r rfl hd;rw[As1] at this;rw[this];split
   ·rw[Jm,Jm,if_pos hd,if_pos hd]
   ·exact h
  ·have e1: ∀(b:Bool) (E:Env),lk (if b=true then putD r.dst r.x E else E) t=lk E t:=λb E=>by
    split
    ·rw[Jm,if_neg hd]
    ·rfl
   rw[e1,e1,h]
theorem Gz {S:Nat->Bool}: ∀(rs:List Rec) (i:Nat) (T:Heap),(heapS S i rs T).length=T.length
 | [],_,_=>rfl
 |r::rs,i,T=>by
  rw[heapS,Gz rs];split
  ·exact Cc _ _
  ·rfl
theorem Yo {S S':Nat->Bool}{k:Nat}: ∀(rs:List Rec) (i:Nat) (T T':Heap),T.length=T'.length->T[k]?=T'[k]?->(∀(j:Nat) (r:Rec),rs[j]?=some r->k∈keysOf r.eff->S (i+j)=S' (i+j))->(heapS S i rs T)[k]?=(heapS S' i rs T')[k]?
 | [],_,_,_,_,h,_=>h
 |r::rs,i,T,T',hl,h,hS=>by
  rw[heapS,heapS];refine Yo rs (i+1) _ _ ?_ ?_ (λj r' hj hk=>by rw[sa i j];exact hS (j+1) r' (by simpa using hj) hk)
  ·split<;>split<;>simp[Cc,hl]
  ·by_cases hk:k∈keysOf r.eff
   ·have:=hS 0 r rfl hk;rw[As1] at this;rw[this];split
    ·exact Lu _ _ _ k hl h
    ·exact h
   ·have e1: ∀(b:Bool) (T:Heap),(if b=true then app T r.eff else T)[k]?=T[k]?:=λb T=>by
     split
     ·exact Gy _ _ _ hk
     ·rfl
    rw[e1,e1,h]
theorem Abc {e1 e2:List (Nat×Option HObj)}(h: ∀k∈keysOf e1,k∉keysOf e2)(T:Heap):app (app T e1) e2=app (app T e2) e1:=by
 refine List.ext_getElem? λk=> ?_
 by_cases h1:k∈keysOf e1
 ·have h2:=h k h1;rw[Gy e2 _ k h2];exact Lu e1 _ _ k (by rw[Cc]) (by rw[Gy e2 _ k h2])
 ·rw[Gy e1 (app T e2) k h1];exact Lu e2 _ _ k (by rw[Cc]) (Gy e1 T k h1)
theorem Yp {S:Nat->Bool}{e:List (Nat×Option HObj)}: ∀(rs:List Rec) (i:Nat) (T:Heap),(∀(j:Nat) (r:Rec),rs[j]?=some r->S (i+j)=true-> ∀k∈keysOf r.eff,k∉keysOf e)->heapS S i rs (app T e)=app (heapS S i rs T) e
 | [],_,_,_=>rfl
 |r::rs,i,T,h=>by
  rw[heapS,heapS];have ih:=λT=>Yp (S:=S) (e:=e) rs (i+1) T λj r' hj hS k hk=>by
   have e0:i+1+j=i+ (j+1):=by omega
   rw[e0] at hS;exact h (j+1) r' (by simpa using hj) hS k hk
  by_cases hs:S i=true
  ·rw[if_pos hs,if_pos hs,←ih];rw[Abc (λk hk hk'=>h 0 r rfl (by simpa using hs) k hk' hk)]
  ·rw[if_neg hs,if_neg hs,ih]
def addS (S:Nat->Bool)(i:Nat):Nat->Bool:=λj=>S j||Nat.beq j i
theorem Kl (S:Nat->Bool)(i:Nat):addS S i i=true:=by simp[addS]
theorem Il {S:Nat->Bool}{i j:Nat}(h:j≠i):addS S i j=S j:=by
 unfold addS;cases hb:Nat.beq j i with
 |true=>exact absurd (Arn hb) h
 |false=>simp
theorem J8 {S S':Nat->Bool}: ∀(rs:List Rec) (i:Nat) (T:Heap),(∀j,j<rs.length->S (i+j)=S' (i+j))->heapS S i rs T=heapS S' i rs T
 | [],_,_,_=>rfl
 |r::rs,i,T,h=>by
  have h0:=h 0 (by simp);rw[As1] at h0;rw[heapS,heapS,h0];exact J8 rs (i+1) _ λj hj=>by
   have:=h (j+1) (by simpa using hj);have e:i+1+j=i+ (j+1):=by omega
   rwa [e]
theorem Oc {S S':Nat->Bool}: ∀(rs:List Rec) (i:Nat) (E:Env),(∀j,j<rs.length->S (i+j)=S' (i+j))->envS S i rs E=envS S' i rs E
 | [],_,_,_=>rfl
 |r::rs,i,E,h=>by
  have h0:=h 0 (by simp);rw[As1] at h0;rw[envS,envS,h0];exact Oc rs (i+1) _ λj hj=>by
   have:=h (j+1) (by simpa using hj);have e:i+1+j=i+ (j+1):=by omega
   rwa [e]
theorem Ain {S:Nat->Bool}{n:Nat}{r:Rec}: ∀(rs:List Rec) (i:Nat) (T:Heap),rs[n]?=some r->S (i+n)=false->(∀(j:Nat) (r':Rec),rs[j]?=some r'->n<j->S (i+j)=true-> ∀k∈keysOf r'.eff,k∉keysOf r.eff)->
  heapS (addS S (i+n)) i rs T=app (heapS S i rs T) r.eff:=by
 induction n with
 |zero=>
  intro rs i T hr hS h;cases rs with
  |nil=>simp at hr
  |cons x rs=>
   simp only[Ar2,Option.some.injEq] at hr;subst hr;rw[As1] at hS ⊢;rw[heapS,heapS,if_pos (Kl S i),if_neg (by simp[hS])];rw[J8 rs (i+1) (app T x.eff) (S':=S) (λj _=>Il (by omega))];refine Yp rs (i+1) T λj r' hj hs k hk=> ?_;have e0:i+1+j=i+ (j+1):=by omega
   rw[e0] at hs;exact h (j+1) r' (by simpa using hj) (by omega) hs k hk
 |succ n ih=>
  intro rs i T hr hS h;cases rs with
  |nil=>simp at hr
  |cons x rs=>
   have e0:i+ (n+1)=i+1+n:=by omega
   rw[heapS,heapS,Il (by omega),e0];exact ih rs (i+1) _ (by simpa using hr) (by rw[←e0];exact hS) λj r' hj hn hs k hk=>by
    have e1:i+1+j=i+ (j+1):=by omega
    rw[e1] at hs;exact h (j+1) r' (by simpa using hj) (by omega) hs k hk
theorem Alw {S:Nat->Bool}{n:Nat}{r:Rec}{t:Tmp}: ∀(rs:List Rec) (i:Nat) (E:Env),rs[n]?=some r->S (i+n)=false->(∀(j:Nat) (r':Rec),rs[j]?=some r'->n<j->S (i+j)=true-> ∀t,r'.dst=some t->r.dst≠some t)->
  lk (envS (addS S (i+n)) i rs E) t=lk (putD r.dst r.x (envS S i rs E)) t:=by
 intro rs i E hr hS h
 by_cases hd:r.dst=some t
 ·rw[Jm,if_pos hd];have gen: ∀(rs:List Rec) (i n:Nat) (E:Env),rs[n]?=some r->(∀(j:Nat) (r':Rec),rs[j]?=some r'->n<j->addS S (i+n) (i+j)=true->r'.dst≠some t)->addS S (i+n) (i+n)=true->lk (envS (addS S (i+n)) i rs E) t=r.x:=by
   intro rs
   induction rs with
   |nil=>intro i n E hr;simp at hr
   |cons x rs ih=>
    intro i n E hr hg hn;cases n with
    |zero=>
     simp only[Ar2,Option.some.injEq] at hr;subst hr;simp only[As1] at hn hg ⊢;rw[envS,if_pos hn];have stay: ∀(rs:List Rec) (i0:Nat) (S:Nat->Bool) (E:Env),(∀(j:Nat) (r':Rec),rs[j]?=some r'->S (i0+j)=true->r'.dst≠some t)->lk (envS S i0 rs E) t=lk E t:=by
      intro rs
      induction rs with
      |nil=>intro _ _ _ _;rfl
      |cons y rs ih=>
       intro i0 S E h;rw[envS,ih (i0+1) S _ λj r' hj hs=>h (j+1) r' (by simpa using hj) (by rw[←sa i0 j];exact hs)];split
       ·rename_i hs;rw[Jm,if_neg (h 0 y rfl (by simpa using hs))]
       ·rfl
     rw[stay rs (i+1) _ _ λj r' hj hs=>hg (j+1) r' (by simpa using hj) (by omega) (by rw[←sa i j];exact hs),Jm,if_pos hd]
    |succ n=>
     have e0:i+ (n+1)=i+1+n:=by omega
     rw[envS,e0];refine ih (i+1) n _ (by simpa using hr) (λj r' hj hn' hs=> ?_) (by rw[←e0];exact hn);have e1:i+1+j=i+ (j+1):=by omega
     rw[e1,←e0] at hs;exact hg (j+1) r' (by simpa using hj) (by omega) hs
  refine gen rs i n E hr (λj r' hj hn hs hd'=> ?_) (Kl _ _);rw[Il (by omega)] at hs;exact h j r' hj hn hs t hd' hd
 ·rw[Jm,if_neg hd];refine Xk rs i E E rfl λk r' hk hd'=> ?_;refine Il λe=> ?_;have:k=n:=by omega
  subst this;rw[hr] at hk;injection hk with hk
  subst hk;exact hd hd'
theorem Abd {S:Nat->Bool}: ∀(rs:List Rec) (i:Nat) (E:Env) (p:Nat×V),p∈envS S i rs E->p∈E∨ ∃j r,rs[j]?=some r∧S (i+j)=true∧p.2=r.x
 | [],_,_,_,h=>.inl h
 |r::rs,i,E,p,h=>by
  rw[envS] at h
  rcases Abd rs (i+1) _ p h with h| ⟨j,r',h1,h2,h3⟩
  ·split at h
   ·rename_i hs;unfold putD at h;split at h
    ·exact .inl h
    ·rcases Arl.1 h with rfl|h
     ·exact .inr ⟨0,r,rfl,by simpa using hs,rfl⟩
     ·exact .inl h
   ·exact .inl h
  ·refine .inr ⟨j+1,r',by simpa using h1,?_,h3⟩;have e:i+1+j=i+ (j+1):=by omega
   rw[←e];exact h2
def ltS (i:Nat):Nat->Bool:=λj=>Nat.blt j i
theorem Abe {i j:Nat}(h:j<i):ltS i j=true:=Av9 h
theorem Np {i j:Nat}(h:i≤j):ltS i j=false:=by
 unfold ltS;cases hb:Nat.blt j i with
 |false=>rfl
 |true=>have:=Arp hb;omega
structure SigOf (r:Rec)(s:Sig):Prop where
 dst:s.dst=r.dst
 reads: ∀t∈r.reads,t∈s.reads
 touch: ∀k∈r.touch,k∈s.touch
 keys: ∀k∈keysOf r.eff,k∈s.keys
 virt: ∀p,r.virt=some p->p∈s.touch
structure Good (c:Cx)(ops:Array Oper)(rs:List Rec)(ss:List Sig)(E:Env)(T:Heap)(p0:Nat):Prop where
 len:rs.length=ops.size
 slen:ss.length=ops.size
 fact: ∀(i:Nat) (r:Rec),rs[i]?=some r->Fact c ops i (envS (ltS i) 0 rs E) (heapS (ltS i) 0 rs T) r
 dst: ∀(i:Nat) (r:Rec),rs[i]?=some r->(r.dst=none∨ ∃t,r.dst=some t∧t<c.nt)
 sig: ∀(i:Nat) (r:Rec) (s:Sig),rs[i]?=some r->ss[i]?=some s->SigOf r s
 virt: ∀(i:Nat) (r:Rec) (p:Nat),rs[i]?=some r->r.virt=some p->p0≤p
 apart: ∀(i j:Nat) (r r':Rec) (p:Nat),rs[i]?=some r->rs[j]?=some r'->r.virt=some p->r'.virt=some p->i=j
theorem Aio {md:Region.Mode}{e:Edge}(h:Region.binds .any e=true):Region.binds md e=true:=by
 unfold Region.binds at h ⊢;split at h<;>first|rfl| (cases h)
section
variable {c:Cx} {ops:Array Oper} {rs:List Rec} {ss:List Sig} {E:Env} {T:Heap} {p0:Nat}
theorem Apu {S:Nat->Bool}(hc:chk ops.toList ss 0 [] []=true)(hS:Closed ops.toList S){i k:Nat}(hi:S i=false)(hr:Ready ops.toList S i){si sk:Sig}(hsi:ss[i]?=some si)(hsk:ss[k]?=some sk)(hne:S k≠ltS i k):Ind sk si:=by
 obtain⟨_,_,h⟩:=Yn hc
 rcases Aup k i with hk|hk|hk
 ·rw[Abe hk] at hne
  rcases h i k si sk hk hsi hsk with h1|h1
  ·exact h1
  ·exact absurd (h1 S hS hr) hne
 ·subst hk;rw[Np (Ara _)] at hne;exact absurd hi hne
 ·rw[Np (Aty hk)] at hne;have hkt:S k=true:=by simpa using hne
  rcases h k i sk si hk hsk hsi with h1|h1
  ·exact h1.symm
  ·have:=h1 S hS (hS k hkt);rw[hi] at this;cases this
def unl (n:Nat)(S:Nat->Bool):Nat:=((List.range n).filter λi=> !S i).length
theorem An9 {n i:Nat}{S:Nat->Bool}(hi:i<n)(hS:S i=false):unl n (addS S i)<unl n S:=by
 unfold unl;have e:(List.range n).filter (λj=> !addS S i j)=((List.range n).filter λj=> !S j).filter λj=> !addS S i j:=by
  rw[Avo];refine List.filter_congr λj _=> ?_;cases h:S j<;>simp[addS,h]
 rw[e];refine List.length_filter_lt_length_iff_exists.2 ⟨i,?_,by simp[Kl]⟩;simp[Avi,hi,hS]
theorem Alx (md:Region.Mode)(hG:Good c ops rs ss E T p0)(hc:chk ops.toList ss 0 [] []=true)(hE: ∀p∈E,p.2.sc T.length):
  ∀(fuel t:Nat) (listed:Array Bool) (S:Nat->Bool) (w:World) (β:Nat->Loc) (H:Heap) (m:List Nat) (a:Act) (b:Frame) (cs:List Frame) (k:List Item),
   (∀j,S j=listed.getD j false)->listed.size=ops.size->unl ops.size S≤fuel->Closed ops.toList S->SRel c.imps c.nt w β H m ⟨envS S 0 rs E,heapS S 0 rs T,c.B,c.D⟩ a->
   (∀(j:Nat) (r:Rec) (p:Nat),rs[j]?=some r->S j=false->r.virt=some p-> ∃q,m[p]?=some q∧β q=.none)->(∀(j:Nat) (r:Rec),rs[j]?=some r->S j=true->r.x.sc T.length)->b.fn=c.fn->b.kind=.normal->
   ∃(w':World) (β':Nat->Loc) (H':Heap) (a':Act),Steps c.P (lone (b.atR a (.inRegion ops (Region.linearise.go md ops fuel t listed [])::k)) cs w) (lone (b.atR a' (.inRegion ops []::k)) cs w')∧
    SRel c.imps c.nt w' β' H' m ⟨envS (λ_=>true) 0 rs E,heapS (λ_=>true) 0 rs T,c.B,c.D⟩ a'∧Fr0 w β H w' β' H'∧(∀q,q<H.length->β q=.none->(∀p,p0≤p->m[p]?≠some q)->β' q=.none):=by
 obtain⟨hlen,hprog,_⟩:=Yn hc;intro fuel
 induction fuel with
 |zero=>
  intro t listed S w β H m a b cs k hS hsz hun hcl hs _ _ _ _;have hall: ∀j,j<ops.size->S j=true:=λj hj=>by
   have:((List.range ops.size).filter λi=> !S i)=[]:=Ard.1 (by unfold unl at hun;omega);have:=List.filter_eq_nil_iff.1 this j (Avl.2 hj);simpa using this
  have e1:envS S 0 rs E=envS (λ_=>true) 0 rs E:=Oc rs 0 E λj hj=>by rw[Ary];exact hall j (by rw[←hG.len];exact hj)
  have e2:heapS S 0 rs T=heapS (λ_=>true) 0 rs T:=J8 rs 0 T λj hj=>by rw[Ary];exact hall j (by rw[←hG.len];exact hj)
  rw[e1,e2] at hs;exact⟨w,β,H,a,by simp only[Region.linearise.go,List.reverse_nil];exact .refl _ _,hs,Fr0.refl _ _ _,λ_ _ h _=>h⟩
 |succ fuel ih=>
  intro t listed S w β H m a b cs k hS hsz hun hcl hs hv hx h1 h2;have hgo:Region.linearise.go md ops (fuel+1) t listed []=match(Region.ready md ops listed)[t % (Region.ready md ops listed).length]? with
    |some i=>Region.linearise.go md ops fuel (t / (Region.ready md ops listed).length) (listed.setIfInBounds i true) [i]
    |none=>[]:=by
   simp only[Region.linearise.go];rfl
  rw[hgo];cases hi:(Region.ready md ops listed)[t % (Region.ready md ops listed).length]? with
  |none=>
   have hnil:Region.ready md ops listed=[]:=by
    cases hr:Region.ready md ops listed with
    |nil=>rfl
    |cons x xs=>
     rw[hr] at hi;have hlt:t % (x::xs).length< (x::xs).length:=Nat.mod_lt _ (by simp);simp at hi;simp at hlt;omega
   have hall: ∀j,j<ops.size->S j=true:=by
    intro j hj;refine Classical.byContradiction λhne=> ?_;have hSj:S j=false:=by simpa using hne
    obtain⟨i,o,ho,hSi,he⟩:=hprog md S ⟨j,by rw[As4];exact hj,hSj⟩;have hil:i<ops.size:=by have:=Ab ho;rwa [As4] at this
    have:i∈Region.ready md ops listed:=by
     unfold Region.ready;rw[Avi];refine⟨Avl.2 hil,?_⟩;have hl:listed.getD i true=false:=by
      have:=hS i;rw[hSi] at this;have hjl:i<listed.size:=by omega
      simp[Array.getD,hjl] at this ⊢;exact this
     rw[Asm] at ho;simp only[hl,ho,Atq,Ath,Ash,Asb];rw[Array.all_eq_true'];intro e hee;have:=he e (by simpa using hee);rw[hS] at this;cases hb:Region.binds md e with
     |false=>simp
     |true=>simp[this hb]
    rw[hnil] at this;cases this
   have e1:envS S 0 rs E=envS (λ_=>true) 0 rs E:=Oc rs 0 E λj hj=>by rw[Ary];exact hall j (by rw[←hG.len];exact hj)
   have e2:heapS S 0 rs T=heapS (λ_=>true) 0 rs T:=J8 rs 0 T λj hj=>by rw[Ary];exact hall j (by rw[←hG.len];exact hj)
   rw[e1,e2] at hs;exact⟨w,β,H,a,.refl _ _,hs,Fr0.refl _ _ _,λ_ _ h _=>h⟩
  |some i=>
   simp only[];rw[linearise_go_acc,List.reverse_singleton,List.singleton_append];have hmem:=Aq7 hi;unfold Region.ready at hmem;rw[Avi] at hmem;obtain⟨hir,hmem⟩:=hmem;have hin:=Avl.1 hir;have ho:ops[i]?=some ops[i]:=Ase hin;simp only[ho,Atq,Ath,Aq6,Atn] at hmem;obtain⟨hl,hedges⟩:=hmem;have hil:i<listed.size:=by omega
   have hSi:S i=false:=by
    rw[hS];simp[Array.getD,hil] at hl ⊢;exact hl
   have hready:Ready ops.toList S i:=by
    intro o ho' e he hb;rw[Asm,ho] at ho';injection ho' with ho'
    subst ho';rw[Array.all_eq_true'] at hedges;have:=hedges e (by simpa using he);rw[Aio hb] at this;rw[hS];simpa using this
   have hri:i<rs.length:=by rw[hG.len];exact hin
   have hsi':i<ss.length:=by rw[hG.slen];exact hin
   have hr:rs[i]?=some rs[i]:=Aq3 hri;have hsg:ss[i]?=some ss[i]:=Aq3 hsi';have hsig:=hG.sig i _ _ hr hsg;have sep: ∀(j:Nat) (r':Rec),rs[j]?=some r'->S j≠ltS i j-> ∃sj,ss[j]?=some sj∧SigOf r' sj∧Ind sj ss[i]:=λj r' hj hne=>by
    have hjl:j<ss.length:=by have:=Ab hj;rw[hG.len] at this;rw[hG.slen];exact this
    have hsj:ss[j]?=some ss[j]:=Aq3 hjl;exact⟨_,hsj,hG.sig j _ _ hj hsj,Apu hc hcl hSi hready hsg hsj hne⟩
   have heap_at: ∀k,k∈ (ss[i]).touch->(heapS S 0 rs T)[k]?=(heapS (ltS i) 0 rs T)[k]?:=λk hk=>
    Yo rs 0 T T rfl rfl λj r' hj hkr=>by
     rw[Ary];exact Classical.byContradiction λhne=>by
      obtain⟨sj,_,q2,q3⟩:=sep j r' hj hne;exact q3.kt k (q2.keys k hkr) hk
   obtain⟨v,w1,β1,H1,f1,f2,f3,f4,f5⟩:=hG.fact i _ hr (envS S 0 rs E) (heapS S 0 rs T) (by rw[Gz,Gz])
    (λt ht=>Xk rs 0 E E rfl λj r' hj hd=>by
     rw[Ary];exact Classical.byContradiction λhne=>by
      obtain⟨sj,_,q2,q3⟩:=sep j r' hj hne;exact q3.rs t (q2.dst.trans hd) (hsig.reads t ht))
    (λk hk=>heap_at k (hsig.touch k hk)) w β H m a b cs (Region.linearise.go md ops fuel (t / (Region.ready md ops listed).length) (listed.setIfInBounds i true) []) k hs h1 h2
    (λp hp=>by
     obtain⟨q,q1,q2⟩:=hv i _ p hr hSi hp;exact⟨q,q1,q2,heap_at p (hsig.virt p hp)⟩)
   have hml:m.length=T.length:=by have:=hs.mlen;simp only[Gz] at this;exact this
   have hxs:(rs[i]).x.sc T.length:=by rw[←hml];exact De _ f5
   have hput:=f2.putTo (d:=(rs[i]).dst) (E':=putD (rs[i]).dst (rs[i]).x (envS S 0 rs E)) f5 (by
    rcases hG.dst i _ hr with h| ⟨t,h,h'⟩
    ·exact .inl ⟨h,by rw[h];rfl⟩
    ·exact .inr ⟨t,h,h',by rw[h];rfl⟩)
   have hxs': ∀(j:Nat) (r:Rec),rs[j]?=some r->addS S i j=true->r.x.sc T.length:=λj r hj hSj=>by
    by_cases e:j=i
    ·subst e;rw[hr] at hj;injection hj with hj
     subst hj;exact hxs
    ·rw[Il e] at hSj;exact hx j r hj hSj
   have hheap:heapS (addS S i) 0 rs T=app (heapS S 0 rs T) (rs[i]).eff:=by
    have:=Ain (S:=S) (n:=i) rs 0 T hr (by rw[Ary];exact hSi) (λj r' hj hn hSj k hk hk'=>by
     rw[Ary] at hSj;obtain⟨sj,_,q2,q3⟩:=sep j r' hj (by rw[hSj,Np (Aty hn)];simp);exact q3.kk k (q2.keys k hk) (hsig.keys k hk'))
    rwa [Ary] at this
   have henv: ∀t,lk (envS (addS S i) 0 rs E) t=lk (putD (rs[i]).dst (rs[i]).x (envS S 0 rs E)) t:=λt=>by
    have:=Alw (S:=S) (n:=i) (t:=t) rs 0 E hr (by rw[Ary];exact hSi) (λj r' hj hn hSj t ht ht'=>by
     rw[Ary] at hSj;obtain⟨sj,_,q2,q3⟩:=sep j r' hj (by rw[hSj,Np (Aty hn)];simp);exact q3.dd t (q2.dst.trans ht) (hsig.dst.trans ht'))
    rwa [Ary] at this
   have hs':SRel c.imps c.nt w1 β1 H1 m ⟨envS (addS S i) 0 rs E,heapS (addS S i) 0 rs T,c.B,c.D⟩ (a.put (rs[i]).dst v):=by
    rw[hheap];refine hput.forget (λt=>.inl (henv t)) λp hp=> ?_;rw[Cc,Gz]
    rcases Abd rs 0 E p hp with h| ⟨j,r,q1,q2,q3⟩
    ·exact hE p h
    ·rw[q3];exact hxs' j r q1 (by rw[Ary] at q2;exact q2)
   have hsS: ∀j,addS S i j=(listed.setIfInBounds i true).getD j false:=λj=>by
    by_cases e:j=i
    ·subst e;rw[Kl];simp[Array.getD,hil]
    ·rw[Il e,hS]
     by_cases hjl:j<listed.size
     ·have hne:i≠j:=λx=>e x.symm;simp[Array.getD,hjl,hne]
     ·simp[Array.getD,hjl]
   obtain⟨w2,β2,H2,a2,g1,g2,g3,g4⟩:=ih (t / (Region.ready md ops listed).length) (listed.setIfInBounds i true) (addS S i) w1 β1 H1 m (a.put (rs[i]).dst v) b cs k hsS (by simpa using hsz)
    (by have:=An9 (n:=ops.size) hin hSi;omega)
    (λj hj o ho' e he hb=>by
     by_cases ej:j=i
     ·subst ej;have hon:=hready o ho' e he hb;unfold addS;rw[hon];rfl
     ·rw[Il ej] at hj;have hon:=hcl j hj o ho' e he hb;unfold addS;rw[hon];rfl)
    hs'
    (λj r p hj hSj hp=>by
     have ej:j≠i:=λe=>by subst e;rw[Kl] at hSj;cases hSj
     rw[Il ej] at hSj;obtain⟨q,q1,q2⟩:=hv j r p hj hSj hp;refine⟨q,q1,f4 q (hs.lt q1) q2 λp' hp' hq'=> ?_⟩;have:=hs.inj q1 hq';subst this;exact ej (hG.apart j i r _ p hj hr hp hp'))
    hxs' h1 h2
   refine⟨w2,β2,H2,a2,f1.trans g1,g2,f3.trans g3,λq hq hn hp=> ?_⟩;exact g4 q (Asl hq f3.len) (f4 q hq hn λp hp'=>hp p (hG.virt i _ p hr hp')) hp
end
def RunP (c:Cx)(ops:Array Oper):Nat->Nat->Env->Heap->List Rec->List Sig->Env->Heap->Prop
 |i,_,E,T,[],[],En,Tn=>i=ops.size∧En=E∧Tn=T
 |i,p,E,T,r::rs,s::ss,En,Tn=>Fact c ops i E T r∧(r.dst=none∨ ∃t,r.dst=some t∧t<c.nt)∧SigOf r s∧i<ops.size∧ ∃p',p≤p'∧(∀q,r.virt=some q->q=p∧p+1≤p'∧p<T.length)∧RunP c ops (i+1) p' (putD r.dst r.x E) (app T r.eff) rs ss En Tn
 |_,_,_,_,_,_,_,_=>False
theorem P8 {S:Nat->Bool}: ∀(rs:List Rec) (i:Nat) (E:Env),(∀j,i≤j->S j=false)->envS S i rs E=E
 | [],_,_,_=>rfl
 |r::rs,i,E,h=>by
  rw[envS,if_neg (by rw[h i (Ara _)];simp)];exact P8 rs (i+1) E λj hj=>h j (by omega)
theorem Od {S:Nat->Bool}: ∀(rs:List Rec) (i:Nat) (T:Heap),(∀j,i≤j->S j=false)->heapS S i rs T=T
 | [],_,_,_=>rfl
 |r::rs,i,T,h=>by
  rw[heapS,if_neg (by rw[h i (Ara _)];simp)];exact Od rs (i+1) T λj hj=>h j (by omega)
theorem Abf {c:Cx}{ops:Array Oper}: ∀(rs:List Rec) (ss:List Sig) (i p:Nat) (E:Env) (T:Heap) (En:Env) (Tn:Heap),RunP c ops i p E T rs ss En Tn->
  i+rs.length=ops.size∧ss.length=rs.length∧En=envS (λ_=>true) i rs E∧Tn=heapS (λ_=>true) i rs T∧
   (∀(n:Nat) (r:Rec),rs[n]?=some r->Fact c ops (i+n) (envS (ltS (i+n)) i rs E) (heapS (ltS (i+n)) i rs T) r∧(r.dst=none∨ ∃t,r.dst=some t∧t<c.nt)∧(∀q,r.virt=some q->p≤q∧q<T.length))∧
   (∀(n:Nat) (r:Rec) (s:Sig),rs[n]?=some r->ss[n]?=some s->SigOf r s)∧
   (∀(n n':Nat) (r r':Rec) (q:Nat),rs[n]?=some r->rs[n']?=some r'->r.virt=some q->r'.virt=some q->n=n')
 | [],[],i,p,E,T,En,Tn,h=>by
  obtain⟨h1,h2,h3⟩:=h;exact⟨by simpa using h1,rfl,h2,h3,by simp,by simp,by simp⟩
 | [],_::_,i,p,E,T,En,Tn,h=>h.elim
 |_::_,[],i,p,E,T,En,Tn,h=>h.elim
 |r::rs,s::ss,i,p,E,T,En,Tn,h=>by
  obtain⟨h1,h2,h3,h4,p',h5,h6,h7⟩:=h;obtain⟨g1,g2,g3,g4,g5,g6,g7⟩:=Abf rs ss (i+1) p' _ _ En Tn h7;refine⟨by simp;omega,by simp[g2],by rw[envS,if_pos rfl];exact g3,by rw[heapS,if_pos rfl];exact g4,?_,?_,?_⟩
  ·intro n x hn;cases n with
   |zero=>
    simp only[Ar2,Option.some.injEq] at hn;subst hn;rw[As1,P8 _ _ _ λj hj=>Np hj,Od _ _ _ λj hj=>Np hj];exact⟨h1,h2,λq hq=>by have:=h6 q hq;omega⟩
   |succ n=>
    obtain⟨k1,k2,k3⟩:=g5 n x (by simpa using hn);rw[sa] at k1;refine⟨?_,k2,λq hq=>by have:=k3 q hq;rw[Cc] at this;omega⟩;rw[envS,heapS,if_pos (Abe (by omega)),if_pos (Abe (by omega))];exact k1
  ·intro n x y hn hy;cases n with
   |zero=>
    simp only[Ar2,Option.some.injEq] at hn hy;subst hn hy;exact h3
   |succ n=>exact g6 n x y (by simpa using hn) (by simpa using hy)
  ·intro n n' x x' q hn hn' hv hv';cases n with
   |zero=>
    cases n' with
    |zero=>rfl
    |succ n'=>
     simp only[Ar2,Option.some.injEq] at hn;subst hn;have a1:=h6 q hv;have a2:=(g5 n' x' (by simpa using hn')).2.2 q hv';omega
   |succ n=>
    cases n' with
    |zero=>
     simp only[Ar2,Option.some.injEq] at hn';subst hn';have a1:=h6 q hv';have a2:=(g5 n x (by simpa using hn)).2.2 q hv;omega
    |succ n'=>rw[g7 n n' x x' q (by simpa using hn) (by simpa using hn') hv hv']
theorem Aec {c:Cx}{ops:Array Oper}{rs:List Rec}{ss:List Sig}{p0:Nat}{E:Env}{T:Heap}{En:Env}{Tn:Heap}(h:RunP c ops 0 p0 E T rs ss En Tn):
  Good c ops rs ss E T p0∧En=envS (λ_=>true) 0 rs E∧Tn=heapS (λ_=>true) 0 rs T∧ ∀(i:Nat) (r:Rec) (p:Nat),rs[i]?=some r->r.virt=some p->p<T.length:=by
 obtain⟨g1,g2,g3,g4,g5,g6,g7⟩:=Abf rs ss 0 p0 E T En Tn h;refine⟨⟨by omega,by omega,λi r hr=> ?_,λi r hr=>(g5 i r hr).2.1,g6,λi r p hr hp=>((g5 i r hr).2.2 p hp).1,g7⟩,g3,g4,λi r p hr hp=>((g5 i r hr).2.2 p hp).2⟩;have:=(g5 i r hr).1;rwa [Ary] at this
def makesS:Op->Bool
 | .box .. | .alloc _| .buildSlice .. | .makeSlice .. =>true
 | .call {callee:=.builtin .append,.. }=>true
 |_=>false
def dummyOf:Op->HObj
 | .box .. | .alloc _=>.box []
 |_=>.vec 0 0 []
theorem reserveAll {imps:List Nat}{nt:Nat}{w:World}{E:Env}{B:Base}{D:List Nat}{a:Act}: ∀(ds:Heap) {β:Nat->Loc} {H:Heap} {m:List Nat} {T:Heap},(∀x∈ds,∃d,x=some d∧(d=.box []∨d=.vec 0 0 []))->SRel imps nt w β H m ⟨E,T,B,D⟩ a->
  ∃β' H' m',SRel imps nt w β' H' m' ⟨E,T++ds,B,D⟩ a∧Fr w β H w β' H'∧m<+:m'∧ ∀p,T.length≤p->p<T.length+ds.length-> ∃q,m'[p]?=some q∧β' q=.none∧H.length≤q
 | [],β,H,m,T,_,h=>⟨β,H,m,by rw[Asc];exact h,Fr.refl _ _ _,Ar6 _,λp h1 h2=>by simp at h2;omega⟩
 |x::ds,β,H,m,T,hd,h=>by
  obtain⟨d,rfl,hd1⟩:=hd x Ari;obtain⟨β1,H1,k1,k2,k3,k4,k5⟩:=h.reserve d hd1;obtain⟨β2,H2,m2,g1,g2,g3,g4⟩:=reserveAll ds (λx hx=>hd x (Are _ hx)) k1;refine⟨β2,H2,m2,by simpa using g1,k2.trans g2,(Atl _ _).trans g3,λp h1 h2=> ?_⟩
  rcases Nat.eq_or_lt_of_le h1 with e|h1
  ·subst e;refine⟨H.length,?_,g2.virt _ (by omega) k3,Ara _⟩;have hml:m.length=T.length:=h.mlen;have:(m++ [H.length])[T.length]?=some H.length:=by rw[←hml];simp
   obtain⟨l,rfl⟩:=g3;rw[Aq9 (by simp;omega)];exact this
  ·obtain⟨q,q1,q2,q3⟩:=g4 p (by simp;omega) (by simp at h2 ⊢;omega);exact⟨q,q1,q2,by omega⟩
def lfix:List Nat->(List Nat->Prop)->Prop
 | [],K=>K []
 |x::xs,K=>lfix xs λys=>K (x::ys)
theorem Im: ∀(xs:List Nat) (K:List Nat->Prop),lfix xs K=K xs
 | [],_=>rfl
 |x::xs,K=>by rw[lfix,Im xs]
def appC:Heap->List (Nat×Option HObj)->(Heap->Prop)->Prop
 |T,[],K=>K T
 |T,(k,o)::es,K=>lset T k o λT'=>appC T' es K
theorem Rr: ∀(es:List (Nat×Option HObj)) (T:Heap) (K:Heap->Prop),appC T es K=K (app T es)
 | [],_,_=>rfl
 | (k,o)::es,T,K=>by rw[appC,Bz,Rr es];rfl
def catC:Heap->Heap->(Heap->Prop)->Prop
 | [],ys,K=>K ys
 |x::xs,ys,K=>catC xs ys λzs=>K (x::zs)
theorem Rs: ∀(xs ys:Heap) (K:Heap->Prop),catC xs ys K=K (xs++ys)
 | [],_,_=>rfl
 |x::xs,ys,K=>by rw[catC,Rs xs];rfl
def gK (ops:List Oper)(o:Oper)(E:Env)(skip:List Nat->Prop)(go:List Nat->Prop):Prop:=
 match o.guard with
 |none=>go []
 |some (j,want)=>match lget ops j with
  |none=>False
  |some oj=>match oj.dst with
   |none=>False
   |some s=>match lk E s with
    | .tt=>bif want then go [s] else skip [s]
    | .ff=>bif want then skip [s] else go [s]
    | .tup []=>skip [s]
    |_=>False
theorem Aly {ops:Array Oper}{o:Oper}{E:Env}{skip go:List Nat->Prop}(h:gK ops.toList o E skip go):
  (∃gs,Guarded ops o E gs false∧skip gs)∨(∃gs,Guarded ops o E gs true∧go gs):=by
 unfold gK at h;split at h
 ·rename_i hg;exact .inr ⟨[],by unfold Guarded;rw[hg];exact⟨rfl,rfl⟩,h⟩
 ·rename_i j want hg;rw[Af,Asm] at h;split at h
  ·exact h.elim
  rename_i oj hoj;split at h
  ·exact h.elim
  rename_i s hs;have mk: ∀b:Bool,((lk E s=.tt∧b=want)∨(lk E s=.ff∧b= !want)∨(lk E s=.tup []∧b=false))->Guarded ops o E [s] b:=λb hb=>by
   unfold Guarded;rw[hg];exact⟨oj,s,hoj,hs,rfl,hb⟩
  split at h
  ·rename_i hx;cases want with
   |true=>exact .inr ⟨_,mk true (.inl ⟨hx,rfl⟩),h⟩
   |false=>exact .inl ⟨_,mk false (.inl ⟨hx,rfl⟩),h⟩
  ·rename_i hx;cases want with
   |true=>exact .inl ⟨_,mk false (.inr (.inl ⟨hx,rfl⟩)),h⟩
   |false=>exact .inr ⟨_,mk true (.inr (.inl ⟨hx,rfl⟩)),h⟩
  ·rename_i hx;exact .inl ⟨_,mk false (.inr (.inr ⟨hx,rfl⟩)),h⟩
  ·exact h.elim
def putR (nt:Nat)(gt:List Tmp)(d:Option Tmp)(x:V)(E:Env)(K:Env->Prop):Prop:=
 match d with
 |none=>K E
 |some t=>bif Nat.blt t nt then(match x with
  | .bool b=>bif memB gt t then(b=true->K ((t,.tt)::E))∧(b=false->K ((t,.ff)::E)) else K ((t,.bool b)::E)
  |x=>K ((t,x)::E)) else False
theorem Agl {nt:Nat}{gt:List Tmp}{d:Option Tmp}{x:V}{E:Env}{K:Env->Prop}(h:putR nt gt d x E K):
  ∃x',K (putD d x' E)∧(d=none∨ ∃t,d=some t∧t<nt)∧(x'=x∨(x=.bool true∧x'=.tt)∨(x=.bool false∧x'=.ff)):=by
 unfold putR at h;cases d with
 |none=>exact⟨x,h,.inl rfl,.inl rfl⟩
 |some t=>
  simp only at h;cases hb:Nat.blt t nt with
  |false=>rw[hb] at h;exact h.elim
  |true=>
   rw[hb] at h;have ht:t<nt:=Arp hb;simp only[cond_true] at h;split at h
   ·rename_i b;cases hm:memB gt t with
    |false=>rw[hm] at h;exact⟨_,h,.inr ⟨t,rfl,ht⟩,.inl rfl⟩
    |true=>
     rw[hm] at h;cases b with
     |true=>exact⟨_,h.1 rfl,.inr ⟨t,rfl,ht⟩,.inr (.inl ⟨rfl,rfl⟩)⟩
     |false=>exact⟨_,h.2 rfl,.inr ⟨t,rfl,ht⟩,.inr (.inr ⟨rfl,rfl⟩)⟩
   ·exact⟨_,h,.inr ⟨t,rfl,ht⟩,.inl rfl⟩
def guardTmps (ops:List Oper):List Oper->List Tmp
 | []=>[]
 |o::os=>match o.guard with
  |none=>guardTmps ops os
  |some (j,_)=>match lget ops j with
   |none=>guardTmps ops os
   |some oj=>match oj.dst with
    |none=>guardTmps ops os
    |some s=>s::guardTmps ops os
def flatB:V->Bool
 | .int .. =>true
 | .bool _=>true
 | .str _=>true
 |_=>false
theorem Oe: ∀(l:List V),V.pureL l=true-> ∀x∈l,x.pureB=true
 | [],_,x,hx=>by cases hx
 |y::l,h,x,hx=>by
  simp only[V.pureL,Aq6] at h
  rcases Arl.1 hx with rfl|hx
  ·exact h.1
  ·exact Oe l h.2 x hx
theorem Fact.put {c:Cx}{ops:Array Oper}{i:Nat}{E:Env}{T:Heap}{r:Rec}{x':V}(h:Fact c ops i E T r)(hx:x'=r.x∨(r.x=.bool true∧x'=.tt)∨(r.x=.bool false∧x'=.ff)):Fact c ops i E T {r with x:=x'}:=by
 rcases hx with rfl| ⟨h1,rfl⟩| ⟨h1,rfl⟩
 ·exact h
 ·exact h.tt h1
 ·exact h.ff h1
theorem Aoa {E:Env}{o:Op}(h:makes E o=true):makesS o=true:=by
 unfold makes at h;split at h<;>first|rfl|cases h
theorem Aas {c:Cx}{ops:Array Oper}{i:Nat}{o:Oper}{E:Env}{T:Heap}{gs:List Tmp}{f:Operand}{args:Array Operand}{ts:Array TypeId}{g:FuncId}{first cap ws:List V}{x:V}(ho:ops[i]?=some o)(hg:Guarded ops o E gs true)
  (hop:o.op=.call {callee:=.value f,args:=args,argTypes:=ts}) (hf:opd E f=.fn (.func g) first cap) (ha:V.pureL ws=true)
  (hfz: ∀T',T'.length=T.length->(∀k∈keysOf (killsOf (first++args.toList.map (opd E)++cap)),T'[k]?=T[k]?)-> ∀(F':Prop) (K':List V->Heap->Prop),K' ws (app T' (killsOf (first++args.toList.map (opd E)++cap)))->frzAll (first++args.toList.map (opd E)++cap) T' F' K')
  (h:Pure c.P g ws (λy=>y=x)):Fact c ops i E T ⟨o.dst,gs++tmpsOf o.op.operands.toList,keysOf (killsOf (first++args.toList.map (opd E)++cap)),x,killsOf (first++args.toList.map (opd E)++cap),none⟩:=by
 intro E' T' e1 e2 e3 w β H m a b cs rest k hs k1 k2 _;have hag:=Gx (E:=E) (E':=E') (xs:=o.op.operands.toList) λt ht=>e2 t (Art _ ht);rw[hop] at hag;have hf':opd E' f=.fn (.func g) first cap:=by rw[hag f (by simp[Op.operands,Call.operands])];exact hf
 have ha':args.toList.map (opd E')=args.toList.map (opd E):=Atj λz hz=>hag z (by simp[Op.operands,Call.operands];exact .inr (by simpa using hz));obtain⟨va,vc,hq,hl,hr⟩:=Uq hs hf' args;rw[ha'] at hl hr;have hen:Enterable c.P g:=by
  unfold Pure Fun at h;exact h.1
 rcases Dq (F:=False) _ T' (λys T1=>ys=ws∧T1=app T' (killsOf (first++args.toList.map (opd E)++cap))) (hfz T' e1 e3 False _ ⟨rfl,rfl⟩) with hh| ⟨ys,T1,⟨rfl,rfl⟩,hto⟩
 ·exact hh.elim
 obtain⟨H1,q1,q2,q3⟩:=hto.2 _ _ _ _ _ _ _ _ _ _ hs;obtain⟨y,v,w',β',H',fr,rfl,hp,g1,g2,g3,g4,g5,g6⟩:=Ki h ha q1 (b.atR a (.inRegion ops (i::rest)::k)::cs) (by rw[hto.1];exact hl) (λj x v hj hv=>by
  have hjl:j< (first++args.toList.map (opd E)++cap).length:=by have:=Ab hj;rw[hto.1] at this;exact this
  have e:=Aq3 hjl;rw[Ao _ _ (Oe _ ha x (Aq7 hj))];exact q3 j _ x v e hj (hr j _ v e hv))
 have g2':=q2.trans g2;exact⟨v,w',β',H',Lf ho (hg.wanted (λt ht=>e2 t (Ar0 _ ht)) hs) hop hq hen g4 g6,g1,g2'.toFr0,λq hq hn _=>g2'.virt q hq hn,by rw[Ao _ _ hp];exact g3⟩
theorem Rep.flat {w w':World}{β β':Nat->Loc}{H H':Heap}{x:V}{v:Value}(hx:flatB x=true)(h:Rep w β H x v):Rep w' β' H' x v:=by
 cases h<;>first|exact Rep.int .. |exact Rep.bool _|exact Rep.str _ (by assumption)|cases hx
theorem Fr.of_below {w w':World}{β:Nat->Loc}{H:Heap}(h:RowKit.Below w.heap.size w w'):Fr w β H w' β H:=
 ⟨⟨h.os,h.tape,h.output,h.size,Ara _,λ_ o' _ ho=>⟨o',ho,Evo.refl o',λ_ _=>rfl⟩,λb hb _=>h.block b hb,λ_ hb=>.inr hb,λ_ _=>rfl,λ_ _ h=>⟨h,rfl⟩⟩,λ_ _ h=>h⟩
theorem HRel.of_below {w w':World}{β:Nat->Loc}{H:Heap}(hr:HRel w β H)(h:RowKit.Below w.heap.size w w'):HRel w' β H:=
 ⟨λr o ho=>(hr.obj r o ho).mono (Fr.of_below h).toFr0 (λb N hb=>h.block b (by
  have:=hr.obj r o ho;rw[hb] at this;exact this.lt)),hr.inj⟩
theorem Ux {P:Program}{g:FuncId}{args:List V}{Q:V->Prop}(hf:Pure P g args Q)(ha:V.pureL args=true){w:World}{β:Nat->Loc}{H:Heap}{vals:Array Value}(cs:List Frame)(hl:args.length=vals.size)
  (hr: ∀(j:Nat) (x:V) (v:Value),args[j]?=some x->vals[j]?=some v->Rep w β H x v):
  ∃(x:V) (v:Value) (w':World) (β':Nat->Loc) (H':Heap) (fr:Frame),Q x∧x.pureB=true∧Rep w' β' H' x v∧RowKit.Below w.heap.size w w'∧Steps P (lone (Frame.enter P g vals .normal) cs w) (lone fr cs w')∧fr.fn=g∧fr.leaving P w' (.returned v):=by
 have hnone: ∀r o,(H.map λ_=>(none:Option HObj))[r]?≠some (some o):=λr o h=>by rw[Arv] at h;cases hh:H[r]?<;>rw[hh] at h<;>cases h
 have hno: ∀b,¬ownB β (H.map λ_=>none) b:=λb ⟨r,N,⟨o,h,_⟩,_⟩=>hnone r o h;have hfr:Fr0 w β H w β (H.map λ_=>none):=
  ⟨rfl,rfl,rfl,Ara _,by simp,λr o' _ ho=>absurd ho (hnone r o'),λ_ _ _=>rfl,λb hb=>absurd hb (hno b),λ_ _=>rfl,λr s h=>absurd h (hnone r _)⟩
 have hrel:HRel w β (H.map λ_=>none):=⟨λr o h=>absurd h (hnone r o),λr r' b N N' hl=>by obtain⟨o,h⟩:=hl;exact absurd h (hnone r o)⟩;have hs:SRel [] 0 w β (H.map λ_=>none) [] ⟨[],[],λ_=>none,[]⟩ bare:=by
  refine⟨hrel,rfl,λk=>by simp[lk,V.conv];exact .undef _,rfl,At5,by simp,rfl,λr h _=> ?_,λr _=>rfl,by simp,by simp,by simp,rfl,by simp⟩;have h:r< (H.map λ_=>(none:Option HObj)).length:=h;rw[Arf] at h;rw[Arv,Aq3 h];rfl
 obtain⟨x,v,w',β',H',fr,hq,hp,_,k2,k3,k4,k5,k6⟩:=Ki hf ha hs cs hl (λj x v hj hv=>by
  rw[Ao _ _ (Oe _ ha x (Aq7 hj))];exact(hr j x v hj hv).mono0 hfr)
 exact⟨x,v,w',β',H',fr,hq,hp,k3,⟨k2.os,k2.tape,k2.output,k2.size,λq hq=>k2.keep q hq (hno q)⟩,k4,k5,k6⟩
theorem Xl {c:Cx}{ops:Array Oper}{i:Nat}{o:Oper}{E:Env}{T:Heap}{gs:List Tmp}{f:Operand}{args:Array Operand}{ts:Array TypeId}{g:FuncId}{first cap ws:List V}{x:V}(ho:ops[i]?=some o)(hg:Guarded ops o E gs true)
  (hop:o.op=.call {callee:=.value f,args:=args,argTypes:=ts}) (hf:opd E f=.fn (.func g) first cap) (ha:V.pureL ws=true) (hx:flatB x=true)
  (hfz: ∀T',T'.length=T.length->(∀k∈keysOf (killsOf (first++args.toList.map (opd E)++cap)),T'[k]?=T[k]?)-> ∀(F':Prop) (K':List V->Heap->Prop),K' ws (app T' (killsOf (first++args.toList.map (opd E)++cap)))->frzAll (first++args.toList.map (opd E)++cap) T' F' K')
  (h:Pure c.P g ws (λy=>y=x)):Fact c ops i E T ⟨o.dst,gs++tmpsOf o.op.operands.toList,keysOf (killsOf (first++args.toList.map (opd E)++cap)),x,[],none⟩:=by
 intro E' T' e1 e2 e3 w β H m a b cs rest k hs k1 k2 _;have hag:=Gx (E:=E) (E':=E') (xs:=o.op.operands.toList) λt ht=>e2 t (Art _ ht);rw[hop] at hag;have hf':opd E' f=.fn (.func g) first cap:=by rw[hag f (by simp[Op.operands,Call.operands])];exact hf
 have ha':args.toList.map (opd E')=args.toList.map (opd E):=Atj λz hz=>hag z (by simp[Op.operands,Call.operands];exact .inr (by simpa using hz));obtain⟨va,vc,hq,hl,hr⟩:=Uq hs hf' args;rw[ha'] at hl hr;have hen:Enterable c.P g:=by
  unfold Pure Fun at h;exact h.1
 rcases Dq (F:=False) _ T' (λys T1=>ys=ws∧T1=app T' (killsOf (first++args.toList.map (opd E)++cap))) (hfz T' e1 e3 False _ ⟨rfl,rfl⟩) with hh| ⟨ys,T1,⟨rfl,rfl⟩,hto⟩
 ·exact hh.elim
 obtain⟨H1,q1,q2,q3⟩:=hto.2 _ _ _ _ _ _ _ _ _ _ hs;obtain⟨y,v,w',β',H',fr,rfl,hp,g3,hb,g4,g5,g6⟩:=Ux h ha (b.atR a (.inRegion ops (i::rest)::k)::cs) (by rw[hto.1];exact hl) (λj x v hj hv=>by
  have hjl:j< (first++args.toList.map (opd E)++cap).length:=by have:=Ab hj;rw[hto.1] at this;exact this
  have e:=Aq3 hjl;exact q3 j _ x v e hj (hr j _ v e hv))
 have g2':Fr w β H w' β H:=Fr.of_below hb;refine⟨v,w',β,H,Lf ho (hg.wanted (λt ht=>e2 t (Ar0 _ ht)) hs) hop hq hen g4 g6,hs.same g2' (hs.hrel.of_below hb),g2'.toFr0,λq _ hn _=>hn,?_⟩;rw[Ao _ _ hp];exact g3.flat hx
section
variable {imps:List Nat} {nt:Nat} {w:World} {β:Nat->Loc} {H:Heap} {m:List Nat} {E:Env} {T:Heap} {B:Base} {D:List Nat} {a:Act}
theorem SRel.newDfr (h:SRel imps nt w β H m ⟨E,T,B,D⟩ a):
  ∃β' H',SRel imps nt (w.alloc (.deferred (some []))) β' H' (m++ [H.length]) ⟨E,T++ [some .dfr],B,T.length::D⟩ {a with defers:= {target:=.collected w.heap.size,args:= #[]}::a.defers}∧Fr w β H (w.alloc (.deferred (some []))) β' H':=by
 have hf:Fr w β H (w.alloc (.deferred (some []))) (upd β H.length (.blk w.heap.size 0)) (H++ [some .dfr]):=Fr.new .dfr _ 0;have hr:=h.hrel.new .dfr (.deferred (some [])) 0 (World.alloc_heap_new w _);have hs:=h.snoc (o:=.dfr) trivial hf hr;have hml:m.length=T.length:=h.mlen;refine⟨_,_,⟨hs.hrel,hs.size,hs.env,hs.mlen,hs.nodup,hs.loc,hs.imp,hs.base,hs.fut,hs.own,hs.scE,hs.scT,by simpa using hs.defs,?_⟩,hf⟩;intro j k hj;cases j with
 |zero=>
  simp only[Ar2,Option.some.injEq] at hj;subst hj;exact⟨H.length,w.heap.size,0,by rw[←hml];simp,by simp,Aq _ _ _,by simp⟩
 |succ j=>exact hs.marks j k (by simpa using hj)
theorem SRel.newLoop (h:SRel imps nt w β H m ⟨E,T,B,D⟩ a)(fn:FuncId)(ps:Array Tmp)(assign body:Code)(db:Nat):
  ∃β' H',SRel imps nt (w.alloc (.loop {state:=.ready,pending:=none,fn:=fn,tmps:=a.tmps,params:=ps,assign:=assign,body:=body,defers:=db})) β' H' (m++ [H.length]) ⟨E,T++ [some (.loop .ready none fn E nt ps assign body)],B,D⟩ a∧
   Fr w β H (w.alloc (.loop {state:=.ready,pending:=none,fn:=fn,tmps:=a.tmps,params:=ps,assign:=assign,body:=body,defers:=db})) β' H'∧β' H.length=.blk w.heap.size 0∧H'[H.length]?=some (some ((HObj.loop .ready none fn E nt ps assign body).conv m)):=by
 have hscE: ∀p∈E,p.2.sc m.length:=λp hp=>by have:=h.scE p hp;rwa [←h.mlen] at this
 have hf:=Fr.new (w:=w) (β:=β) (H:=H) ((HObj.loop .ready none fn E nt ps assign body).conv m) (.loop {state:=.ready,pending:=none,fn:=fn,tmps:=a.tmps,params:=ps,assign:=assign,body:=body,defers:=db}) 0;have hr:=h.hrel.new ((HObj.loop .ready none fn E nt ps assign body).conv m) (.loop {state:=.ready,pending:=none,fn:=fn,tmps:=a.tmps,params:=ps,assign:=assign,body:=body,defers:=db}) 0
  ⟨a.tmps,db,World.alloc_heap_new w _,h.size,λk=>by rw[Rp];exact(h.env k).mono hf⟩
 have hs:=h.snoc (o:=.loop .ready none fn E nt ps assign body) hscE hf hr;exact⟨_,_,hs,hf,Aq _ _ _,by simp⟩
theorem SRel.turnLoop (h:SRel imps nt w β H m ⟨E,T,B,D⟩ a){k r l N:Nat}{st st':LoopState}{pe pe':Option Code}{fn:FuncId}{E0:Env}{nt0:Nat}{ps:Array Tmp}{asg bo:Code}(hk:m[k]?=some r)(hT:T[k]?=some (some (.loop st pe fn E0 nt0 ps asg bo)))(hβ:β r=.blk l N):
  ∃rl:Loop,w.heap[l]?=some (.loop rl)∧rl.state=st∧rl.pending=pe∧rl.fn=fn∧rl.params=ps∧rl.assign=asg∧rl.body=bo∧rl.tmps.size=nt0∧(∀j,Rep w β H ((lk E0 j).conv m) (rl.tmps.getD j Go.undef))∧
   ∃H',SRel imps nt (w.putObj l (.loop {rl with state:=st',pending:=pe'})) β H' m ⟨E,T.set k (some (.loop st' pe' fn E0 nt0 ps asg bo)),B,D⟩ a∧Fr w β H (w.putObj l (.loop {rl with state:=st',pending:=pe'})) β H':=by
 have hH:H[r]?=some (some ((HObj.loop st pe fn E0 nt0 ps asg bo).conv m)):=h.loc k r _ hk hT;have hob:=h.hrel.obj r _ hH;rw[hβ] at hob;obtain⟨tmps,db,h1,h2,h3⟩:=hob;have hlt:l<w.heap.size:=(Asz.1 h1).1;refine⟨_,h1,rfl,rfl,rfl,rfl,rfl,rfl,h2,λj=>by have:=h3 j;rwa [Rp] at this,?_⟩;have hother: ∀q,q≠l->(w.putObj l (.loop {state:=st',pending:=pe',fn:=fn,tmps:=tmps,params:=ps,assign:=asg,body:=bo,defers:=db})).heap[q]?=w.heap[q]?:=λq hq=>World.putObj_heap_other hq;have hf:Fr w β H (w.putObj l (.loop {state:=st',pending:=pe',fn:=fn,tmps:=tmps,params:=ps,assign:=asg,body:=bo,defers:=db})) β (H.set r (some ((HObj.loop st' pe' fn E0 nt0 ps asg bo).conv m))):=
  Fr.turn hH hβ trivial rfl rfl rfl (by simp) hother
 have hr:HRel (w.putObj l (.loop {state:=st',pending:=pe',fn:=fn,tmps:=tmps,params:=ps,assign:=asg,body:=bo,defers:=db})) β (H.set r (some ((HObj.loop st' pe' fn E0 nt0 ps asg bo).conv m))):=h.hrel.turn hH hβ (o':=(HObj.loop st' pe' fn E0 nt0 ps asg bo).conv m) trivial rfl rfl rfl (by simp) hother ⟨tmps,db,World.putObj_heap_same hlt,h2,λj=>(h3 j).mono hf⟩;have hsc:(HObj.loop st' pe' fn E0 nt0 ps asg bo).sc m.length:=by
  have:=h.scT k _ hT;rw[←h.mlen] at this;exact this
 exact⟨_,h.set (o':=some (.loop st' pe' fn E0 nt0 ps asg bo)) hk (λo e=>by injection e with e;subst e;exact hsc) (λo e1 e2=>by rw[hT] at e1;injection e1 with e1;injection e1 with e1;subst e1;cases e2) hf hr,hf⟩
end
def loopEnd (c:Cx)(n kl:Nat)(k:List Item)(s:St):Prop:=
 match lget s.T kl with
 |some (some (.loop st pend fn E' nt ps asg bo))=>(match st with| .busy=>False|_=>True)∧lset s.T kl (some (.loop .exhausted pend fn E' nt ps asg bo)) λT'=>evp {c with B:=s.B,D:=s.D} n ((match pend with|some j=>[.code j]|none=>[])++k) s.E T'
 |_=>False
theorem Xm {c:Cx}{f:Operand}{ps:Array Tmp}{assign body:Code}{k:List Item}{E:Env}{T:Heap}{g:FuncId}{first cap:List V}(n:Nat)(hro:c.ro=none)(hf:opd E f=.fn (.func g) first cap)
  (h:CallThen {c with D:=T.length::c.D} g (first++ [.yld (.loc (T.length+1))]++cap) E (T++ [some .dfr]++ [some (.loop .ready none c.fn E c.nt ps assign body)]) λ_ s'=>loopEnd c n (T.length+1) k s'):
  Goes c (.code (.rangeFunc f ps assign body)::k) E T:=by
 refine Bw λw β H m a b cs hs h1 h2 h3=> ?_;rw[hro] at h3;have hb:b.roundOf=none:=h3;have hml:m.length=T.length:=hs.mlen;obtain⟨β1,H1,k1,k2⟩:=hs.newDfr;obtain⟨β2,H2,k3,k4,k5,k6⟩:=k1.newLoop b.fn ps assign body w.heap.size;rw[h1] at k3 k4 k6;unfold CallThen at h;obtain⟨hen,h⟩:=h;obtain⟨fnc,hfn,hnm,hbd⟩:=hen;have hfv:Rep w β H ((opd E f).conv m) (a.eval f):=Ae hs f;have hsc:(opd E f).sc m.length:=De _ hfv;rw[hf] at hsc;have hff:Fr w β H _ β2 H2:=k2.trans k4;rw[hf] at hfv;simp only[V.conv] at hfv;generalize hq:a.eval f=q at hfv;cases hfv with
 |fn _ _ _ va vc hla hlc r1 r2=>
  rw[V.convL_eq,Arf] at hla hlc;have hkl:(m++ [H.length]++ [H1.length])[T.length+1]?=some H1.length:=by
   rw[Arh (by simp[hml])];simp[hml]
  have hext: ∀v:V,v.sc m.length->v.conv (m++ [H.length]++ [H1.length])=v.conv m:=λv hv=>by
   rw[Arz];exact V.conv_ext (Ara _) v hv
  have hscf:=(V.scL_iff _ _).1 hsc.1;have hscc:=(V.scL_iff _ _).1 hsc.2;obtain⟨a2,ha2⟩: ∃a2:Act,a2= {a with defers:= {target:=.collected w.heap.size,args:= #[]}::a.defers}:=⟨_,rfl⟩;obtain⟨l,hl⟩: ∃l,l=w.heap.size+1:=⟨_,rfl⟩;have hws:(w.alloc (.deferred (some []))).heap.size=l:=by rw[hl];simp
  rw[hws] at k5;rw[←ha2] at k3;have hat:a2.tmps=a.tmps:=by rw[ha2]
  rw[hat] at k3;have hyld:Rep ((w.alloc (.deferred (some []))).alloc (.loop {state:=.ready,pending:=none,fn:=c.fn,tmps:=a.tmps,params:=ps,assign:=assign,body:=body,defers:=w.heap.size})) β2 H2 ((V.yld (.loc (T.length+1))).conv (m++ [H.length]++ [H1.length])) (.func (.yield l) #[] #[]):=by
   simp only[V.conv,Ref.conv,hkl];exact Rep.yldLive _ _ _ _ _ _ _ _ _ _ _ k6 k5
  have hvals: ∀(j:Nat) (x:V) (v:Value),(first++ [V.yld (.loc (T.length+1))]++cap)[j]?=some x->(va++ #[.func (.yield l) #[] #[]]++vc)[j]?=some v->Rep ((w.alloc (.deferred (some []))).alloc (.loop {state:=.ready,pending:=none,fn:=c.fn,tmps:=a.tmps,params:=ps,assign:=assign,body:=body,defers:=w.heap.size})) β2 H2 (x.conv (m++ [H.length]++ [H1.length])) v:=by
   intro j x v hj hv
   rcases Ar3 j first.length with hlt|hge
   ·rw[Arz,Aq9 hlt] at hj;rw[Array.append_assoc,Ass (by omega)] at hv;rw[hext x (hscf x (Aq7 hj))];exact(r1 j _ v (by rw[V.convL_eq,Arv,hj];rfl) hv).mono hff
   ·rcases Nat.eq_or_lt_of_le hge with e|hgt
    ·subst e;simp at hj;have hvv:(va++ #[Value.func (.yield l) #[] #[]]++vc)[first.length]?=some (.func (.yield l) #[] #[]):=by
      rw[Ass (by simp;omega),Ats (by omega)];simp[hla]
     rw[hvv] at hv;injection hv with hv
     subst hj hv;exact hyld
    ·rw[Arh (by simp;omega)] at hj;rw[Ats (by simp;omega)] at hv;simp only[Arb,Aq8,Arc,Auo] at hj hv;rw[hext x (hscc x (Aq7 hj))];refine(r2 (j- (first.length+1)) _ v (by rw[V.convL_eq,Arv];simp only[Ary] at hj;rw[hj];rfl) (by rw[hla];simpa using hv)).mono hff
  obtain⟨x,s',v,w',β',H',m',fr,g1,g2,g3,g4,g5,g6,g7,g8⟩:=h _ β2 H2 _ a2 (va++ #[.func (.yield l) #[] #[]]++vc) (b.atR a2 (.inRangeFunc l::k)::cs) k3 (by simp[hla,hlc];omega) hvals;have hin:step c.P (lone (b.atR a (.code (.rangeFunc f ps assign body)::k)) cs w)=.next (lone (Frame.enter c.P g (va++ #[.func (.yield l) #[] #[]]++vc) .normal) (b.atR a2 (.inRangeFunc l::k)::cs)
    ((w.alloc (.deferred (some []))).alloc (.loop {state:=.ready,pending:=none,fn:=c.fn,tmps:=a.tmps,params:=ps,assign:=assign,body:=body,defers:=w.heap.size}))):=by
   have he:=run_enterLoop_outer (P:=c.P) (w:=w) b.fn a.tmps ps assign body;rw[←hl] at he;rw[←h1];have:=stepR_rangeFunc (P:=c.P) (b:=b) (a:=a) (k:=k) (cs:=cs) (w:=w) (g:=f) (ps:=ps) (assign:=assign) (body:=body) (l:=l) (mark:=[{target:=.collected w.heap.size,args:= #[]}]) (f:=g)
    (d:= {target:=.fn (.func g) vc,args:=va++ #[.func (.yield l) #[] #[]]}) (args:=va++ #[.func (.yield l) #[] #[]]++vc) (by rw[hb];exact he)
    (by
     have hre:resolve a.eval (rangeCall f l) 0=pure {target:=.fn (.func g) vc,args:=va++ #[.func (.yield l) #[] #[]]}:=by
      show Deferred.ofValue (a.eval f) (#[Operand.const (.func (.yield l) #[] #[])].map a.eval)=_;rw[hq];simp[Deferred.ofValue,Act.eval]
     rw[hre];rfl) (by
     have hne : fnc.name ≠ "runtime.NumGoroutine" := by simpa using hnm
     have hbn:fnc.body≠none:=by intro h;rw[h] at hbd;cases hbd
     simp[invoke,callFunc,hfn,hne,hbn];rfl)
   rw[ha2];exact this
  have hout:step c.P (lone fr (b.atR a2 (.inRangeFunc l::k)::cs) w')=.next (lone (b.atR a2 (.endRangeFunc l::k)) cs w'):=by
   rw[←finish_atR_inRangeFunc];exact step_leave_returned g7
  unfold loopEnd at g1;rw[Af] at g1;split at g1
  ·rename_i st pend fn' E' nt' ps' asg bo hT;obtain⟨hst,g1⟩:=g1;rw[Bz] at g1;obtain⟨E3,T3,B3,D3⟩:=s';have hkl':m'[T.length+1]?=some H1.length:=by
    obtain⟨z,rfl⟩:=g8;rw[Aq9 (by simp[hml])];exact hkl
   have hfix:β' H1.length=.blk l 0:=by
    rw[g3.fix H1.length (.inr ⟨_,k6,trivial⟩)];exact k5
   obtain⟨rl,e1,e2,e3,e4,e5,e6,e7,e8,e9,H'',e10,e11⟩:=g2.turnLoop (st':=.exhausted) (pe':=pend) hkl' hT hfix;have hend:=stepR_endRangeFunc (P:=c.P) (b:=b) (a:=a2) (k:=k) (cs:=cs) (run_endLoop (P:=c.P) e1 (by rw[e2];intro e;rw[e] at hst;exact hst));have hwe:(w'.putObj l (.loop {rl with state:=.exhausted,pending:=pend}))=(w'.putObj l (.loop {rl with state:=.exhausted})):=by
    rw[←e3]
   rw[hwe] at e10 e11;refine⟨_,β',H'',m',a2,_,⟨E3,_,B3,D3⟩,?_,e10,(hff.trans g3).trans e11,Av n _ _ _ _ g1⟩;refine .head hin (g5.trans (.head hout (.one ?_)));rw[hend,e3];cases pend<;>rfl
  ·exact g1.elim
structure Out (m:List Nat)(T:Heap)(B:Base):Prop where
 len:m.length=T.length
 nodup:m.Nodup
 at_: ∀k r:Nat,m[k]?=some r-> ∃o,T[k]?=some (some o)∧B r=some (o.conv m)∧o.sc m.length
def YieldOk (P:Program)(T:Heap)(kl:Nat)(y:List V)(b:Bool)(T':Heap):Prop:=
 T'.length=T.length∧(∀(k:Nat) (o:Option HObj),T'[k]?=some o->o≠none)∧
 ∀(w:World) (β:Nat->Loc) (H:Heap) (m:List Nat) (B:Base) (vals:Array Value) (c:Frame) (cs:List Frame) (r l N:Nat),SRel m 0 w β H m ⟨[],T,B,[]⟩ bare->m[kl]?=some r->β r=.blk l N->y.length=vals.size->
  (∀(j:Nat) (x:V) (v:Value),y[j]?=some x->vals[j]?=some v->Rep w β H x v)->
  ∃(rl:Loop) (w':World) (β':Nat->Loc) (H':Heap),w.heap[l]?=some (.loop rl)∧vals.size=rl.params.size∧SRel m 0 w' β' H' m ⟨[],T',B,[]⟩ bare∧Fr w β H w' β' H'∧
   Steps P (lone (Frame.round l rl.fn ((rl.params.zip vals).foldl (λtmps (t,a)=>tmps.setIfInBounds t a) rl.tmps) rl.assign rl.body .normal) (c::cs) w) (lone (c.finish (.bool b)) cs w')
theorem C3: ∀(l:List V),V.pureL l=true-> ∀x∈l,x.pureB=true
 | [],_,x,hx=>by cases hx
 |y::l,h,x,hx=>by
  simp only[V.pureL,Aq6] at h
  rcases Arl.1 hx with rfl|hx
  ·exact h.1
  ·exact C3 l h.2 x hx
open Classical in
theorem Uy {c:Cx}{ops:Array Oper}{i:Nat}{rest:List Nat}{k:List Item}{o:Oper}{E:Env}{Tw:Heap}{f:Operand}{args:Array Operand}{ts:Array TypeId}{m:List Nat}{T T':Heap}{kl r:Nat}{b:Bool}(n:Nat)
  (ho:ops[i]?=some o) (hg:o.guard=none) (hop:o.op=.call {callee:=.value f,args:=args,argTypes:=ts}) (hf:opd E f=.yld (.abs r)) (himp:c.imps=[]) (hout:Out m T c.B) (hr:m[kl]?=some r) (hlp: ∃ob,T[kl]?=some (some ob)∧isLoop ob)
  (ha:V.pureL (args.toList.map (opd E))=true) (hy:YieldOk c.P T kl (args.toList.map (opd E)) b T')
  (h: ∀B',Out m T' B'->(∀q,q∉m->B' q=c.B q)->putE c.nt o.dst (if b then .tt else .ff) E False λE'=>evp {c with B:=B'} n (.inRegion ops rest::k) E' Tw):
  Goes c (.inRegion ops (i::rest)::k) E Tw:=by
 refine Bw λw β H mw a fb cs hs h1 h2 h3=> ?_;rw[himp] at hs;have hHr: ∀(q:Nat) (ob:HObj),c.B q=some ob->H[q]?=some (some ob):=λq ob hq=>hs.baseAt (by simp) hq;have hnot: ∀q,q∈m->q∉mw:=λq hq=>by
  obtain⟨j,hj⟩:=Ar7 hq;obtain⟨ob,_,e2,_⟩:=hout.at_ j q hj;exact hs.notIn e2 (by simp)
 have hlt: ∀q,q∈m->q<H.length:=λq hq=>by
  obtain⟨j,hj⟩:=Ar7 hq;obtain⟨ob,_,e2,_⟩:=hout.at_ j q hj;exact Ab (hHr q _ e2)
 have hso:SRel m 0 w β H m ⟨[],T,λq=>(H[q]?).getD none,[]⟩ bare:=by
  refine⟨hs.hrel,rfl,λk=>by simp[lk,V.conv];exact .undef _,hout.len,hout.nodup,λj q ob hj hob=> ?_,by simp,λq hq _=>by simp[hq],λq hq=>by simp[Asq hq],λj q hj hq=>by have:=Ab hq;omega,by simp,λj ob hob=> ?_,rfl,by simp⟩
  ·obtain⟨ob',e1,e2,_⟩:=hout.at_ j q hj;simp only at hob;rw[e1] at hob;injection hob with hob
   subst hob;exact hHr q _ e2
  ·have hjm:j<m.length:=by have:=Ab hob;rw[hout.len];exact this
   obtain⟨ob',e1,_,e3⟩:=hout.at_ j m[j] (Aq3 hjm);simp only at hob ⊢;rw[e1] at hob;injection hob with hob
   injection hob with hob
   subst hob;rw[←hout.len];exact e3
 obtain⟨oblp,hlp1,hlp2⟩:=hlp;have hHl:H[r]?=some (some (oblp.conv m)):=by
  obtain⟨ob',e1,e2,_⟩:=hout.at_ kl r hr;rw[hlp1] at e1;injection e1 with e1
  injection e1 with e1
  subst e1;exact hHr r _ e2
 have hfv:Rep w β H ((opd E f).conv mw) (a.eval f):=Ae hs f;rw[hf] at hfv;simp only[V.conv,Ref.conv] at hfv;generalize hq:a.eval f=q at hfv;cases hfv with
 |yldDead _ _ hd=>rw[hHl] at hd;cases hd
 |yldLive _ l N st pe fn E0 nt ps asg bo hH hβ=>
  obtain⟨hT'l,hT'live,hy⟩:=hy;obtain⟨rl,w',β',H',g1,g2,g3,g4,g5⟩:=hy w β H m _ (args.map a.eval) (fb.atR a (.inRegion ops (i::rest)::k)) cs r l N hso hr hβ (by simp) (λj x v hj hv=>by
   simp only[Arv,Asm,Asu,Au4] at hj hv;obtain⟨z,e1,e2⟩:=hj;obtain⟨z',e3,e4⟩:=hv;rw[e1] at e3;injection e3 with e3
   subst e3 e2 e4;have hz:(opd E z).pureB=true:=C3 _ ha _ (Ato.2 ⟨z,by simpa using Array.mem_of_getElem? e1,rfl⟩);have:=Ae hs z;simp only at this;rwa [Ao _ _ hz] at this)
  have hlen:H.length≤H'.length:=g4.len;have hnew: ∀q,q<H'.length->q∉m->H'[q]?=some ((H[q]?).getD none):=λq hq hm=>g3.base q hq hm;have hold: ∀q,q<H.length->q∉m->H'[q]?=H[q]?:=λq hq hm=>by
   rw[hnew q (Asl hq hlen) hm];simp[hq]
  obtain⟨B',hB'⟩: ∃B':Base,B'=λq=>if q∈m then(H'[q]?).getD none else c.B q:=⟨_,rfl⟩
  have hBm: ∀q,q∈m->B' q=(H'[q]?).getD none:=λq hq=>by rw[hB'];simp[hq]
  have hBn: ∀q,q∉m->B' q=c.B q:=λq hq=>by rw[hB'];simp[hq]
  have hout':Out m T' B':=by
   refine⟨by rw[hT'l];exact hout.len,hout.nodup,λj q hj=> ?_⟩;have hjT:j<T'.length:=by have:=Ab hj;rw[hT'l,←hout.len];exact this
   have hTj:T'[j]?=some T'[j]:=Aq3 hjT;cases hx:T'[j] with
   |none=>exact absurd hx (hT'live j _ hTj)
   |some ob=>
    rw[hx] at hTj;refine⟨ob,hTj,?_,?_⟩
    ·rw[hBm q (Aq7 hj),g3.loc j q _ hj hTj];rfl
    ·have:=g3.scT j ob hTj;simp only at this;rw[hout.len,←hT'l];exact this
  have hsw:SRel c.imps c.nt w' β' H' mw ⟨E,Tw,B',c.D⟩ a:=by
   rw[himp];refine⟨g3.hrel,hs.size,λk=>(hs.env k).mono g4,hs.mlen,hs.nodup,λj q ob hj hob=> ?_,rfl,λq hq hqm=> ?_,λq hq=> ?_,λj q hj hq=> ?_,hs.scE,hs.scT,hs.defs,?_⟩
   ·have hqm:q∉m:=λhm=>hnot q hm (Aq7 hj);rw[hold q (hs.lt hj) hqm];exact hs.loc j q ob hj hob
   ·by_cases hm:q∈m
    ·simp only;rw[hBm q hm];simp[hq]
    ·simp only;rw[hBn q hm]
     rcases Ar3 q H.length with h1|h1
     ·rw[hold q h1 hm];exact hs.base q h1 hqm
     ·have e0:c.B q=none:=hs.fut q h1;rw[hnew q hq hm,e0,Asq h1];rfl
   ·have hm:q∉m:=λhm=>by have:=hlt q hm;omega
    simp only;rw[hBn q hm];exact hs.fut q (Ark hlen hq)
   ·have hqm:q∉m:=λhm=>hnot q hm (Aq7 hq);simp only;rw[hBn q hqm];exact hs.own j q hj hq
   ·intro j q hj;obtain⟨r',b',N',e1,e2,e3,e4⟩:=hs.marks j q hj;refine⟨r',b',N',e1,e2,?_,e4⟩;have hqm:r'∉m:=λhm=>hnot r' hm (Aq7 e1);have hH0:=hs.loc q r' _ e1 e2;have hH1:H'[r']?=some (some .dfr):=by rw[hold r' (hs.lt e1) hqm,hH0];rfl
    obtain⟨ob,hob,_,hb⟩:=g4.evo r' .dfr (hs.lt e1) hH1;rw[hH0] at hob;injection hob with hob
    injection hob with hob
    subst hob;exact(hb (by rw[e3];simp) trivial).trans e3
  obtain⟨E',hk,hd⟩:=(D8 (h B' hout' hBn)).resolve_left id;have hput:=hsw.putTo (d:=o.dst) (x:=if b then .tt else .ff) (v:=.bool b) (E':=E') (by cases b;exact .ff;exact .tt) hd;have hfin:(fb.atR a (.inRegion ops (i::rest)::k)).finish (.bool b)=fb.atR (a.put o.dst (.bool b)) (.inRegion ops rest::k):=by
   rw[Frame.finish_atR];simp[ho]
  rw[hfin] at g5;refine⟨w',β',H',mw,a.put o.dst (.bool b),_,⟨E',Tw,B',c.D⟩,.head ?_ g5,hput,g4,Av n _ _ _ _ hk⟩;refine step_lone_go ?_;rw[stepGR_op ho (J7 hg _),Oper.semAt_eq _ _ _ (by intro cl;rw[hop];exact λh=>by cases h)];have hrun:(execOp a.eval o).run c.P w=.ok (.round l rl.fn ((rl.params.zip (args.map a.eval)).foldl (λtmps (t,a)=>tmps.setIfInBounds t a) rl.tmps) rl.assign rl.body) w:=by
   have hyr:=run_yield (P:=c.P) (args:=args.map a.eval) g1 g2;have e0:(execOp a.eval o).run c.P w=(Instr.yield l (args.map a.eval)).run c.P w:=by simp[execOp,hop,resolve,Deferred.ofValue,hq,invoke]
   rw[e0];exact hyr
  simp[stepG.apply,hrun,Sem.runT_eq]
@[irreducible] def FunB (P:Program) (g:FuncId) (m:List Nat) (T:Heap) (args:List V) (Q:V->Heap->Prop):Prop:=
 Enterable P g∧ ∀(w:World) (β:Nat->Loc) (H:Heap) (B:Base) (vals:Array Value) (cs:List Frame),SRel [] 0 w β H [] ⟨[],[],B,[]⟩ bare->Out m T B->args.length=vals.size->
  (∀(j:Nat) (x:V) (v:Value),args[j]?=some x->vals[j]?=some v->Rep w β H x v)->
  ∃(x:V) (T':Heap) (v:Value) (w':World) (β':Nat->Loc) (H':Heap) (B':Base) (fr:Frame),Q x T'∧SRel [] 0 w' β' H' [] ⟨[],[],B',[]⟩ bare∧Out m T' B'∧(∀q,q∉m->B' q=B q)∧Fr w β H w' β' H'∧Rep w' β' H' x v∧x.pureB=true∧
   Steps P (lone (Frame.enter P g vals .normal) cs w) (lone fr cs w')∧fr.fn=g∧fr.leaving P w' (.returned v)
def XB (P:Program)(rs:Array ResultVar)(m:List Nat)(B:Base)(Q:V->Heap->Prop)(e:Exit)(s:St):Prop:=
 (match e with| .normal| .ret=>True|_=>False)∧s.D=[]∧(∀q,q∉m->s.B q=B q)∧ ∃T',Out m T' s.B∧resK P [] s.B rs.toList s.E s.T False λxs=>frz (resV xs) s.T False λx _=>x.pureB=true∧Q x T'
theorem L5 {P : Program} {g : FuncId} {fn : Func} {body : Code} {m : List Nat} {T : Heap} {args : List V} {Q : V → Heap → Prop} (n : Nat) (hf : P.funcs[g]? = some fn) (hn : (fn.name == "runtime.NumGoroutine") = false) (hb : fn.body = some body) (hnt : Nat.ble args.length fn.ntmps = true)
  (h: ∀B:Base,Out m T B->evp {P:=P,nt:=fn.ntmps,fn:=g,ro:=none,imps:=[],X:=XB P fn.results m B Q,B:=B,D:=[]} n [.code body] (env0 0 args) []):FunB P g m T args Q:=by
 unfold FunB;refine⟨⟨fn,hf,hn,by rw[hb];rfl⟩,λw β H B vals cs hs hout hl hr=> ?_⟩;have hnt:=Arp hnt;have gg:=Av _ _ _ _ _ (h B hout);unfold Goes at gg
 let b:Frame:= {fn:=g,tmps:= #[],todo:=[],defers:=[],mode:=.run,kind:=.normal}
 let a:Act:= {tmps:=vals++Array.replicate (fn.ntmps-vals.size) Go.undef,defers:=[]}
 have henter:Frame.enter P g vals .normal=b.atR a [.code body]:=by
  simp[Frame.enter,Frame.atR,hf,hb,b,a]
 have hasz:a.tmps.size=fn.ntmps:=by simp[a];omega
 have hrc: ∀(j:Nat) (x:V) (v:Value),args[j]?=some x->vals[j]?=some v->Rep w β H (x.conv []) v:=λj x v hj hv=>by
  rw[Gp [] x (hr j x v hj hv)];exact hr j x v hj hv
 have hget: ∀k,Rep w β H ((lk (env0 0 args) k).conv []) (a.tmps.getD k Go.undef):=by
  intro k;rw[Xi];simp only[Aq4,if_true,Av1];cases hk:args[k]? with
  |none=>exact .undef _
  |some x=>
   have hkl:=Ab hk;have hkv:k<vals.size:=by omega
   have e:a.tmps.getD k Go.undef=vals[k]:=by
    simp only[a,Atr];rw[Ass hkv];simp[hkv]
   rw[e];exact hrc k x vals[k] hk (Ase hkv)
 have hs0:SRel [] fn.ntmps w β H [] ⟨env0 0 args,[],B,[]⟩ a:=by
  refine⟨hs.hrel,hasz,hget,hs.mlen,hs.nodup,hs.loc,hs.imp,hs.base,hs.fut,hs.own,λp hp=> ?_,hs.scT,rfl,by simp⟩;obtain⟨k,hk,hx⟩:=Ata.1 (Tk 0 args p hp);have hkv:k<vals.size:=by omega
  exact De (m:=[]) p.2 (hrc k p.2 vals[k] (by rw[Aq3 hk,hx]) (Ase hkv))
 obtain⟨e,s',w',β',H',m',a',hX,hs',hfr,hend⟩:=gg w β H [] a b cs hs0 rfl rfl rfl;obtain⟨E',T1,B',D'⟩:=s';obtain⟨he,hD,hB,T',hout',hres⟩:=hX;simp only at hD hB hres hout';subst hD
 rcases Le (c:= {P:=P,nt:=fn.ntmps,fn:=g,ro:=none,imps:=[],X:=λ_ _=>True,B:=B',D:=[]}) _ _ _ _ hres with h| ⟨xs,hq,hx⟩
 ·exact h.elim
 obtain⟨vs,h1,h2,h3⟩:=hx w' β' H' m' a' hs';have hrun:=Sf h1;have hrep:Rep w' β' H' ((resV xs).conv m') (if h:vs.toArray.size=1 then vs.toArray[0] else .tuple vs.toArray):=by
  by_cases h1:vs.length=1
  ·rw[dif_pos (by simpa using h1)]
   match xs,h2,h3 with
   | [x],_,h3=>exact h3 0 x _ rfl (by simp[h1])
   | [],h2,_=>simp at h2;omega
   |_::_::_,h2,_=>simp at h2;omega
  ·rw[dif_neg (by simpa using h1)];have e:resV xs=.tup xs:=by
    match xs,h2 with
    | [x],h2=>simp at h2;omega
    | [],_=>rfl
    |_::_::_,_=>rfl
   rw[e];simp only[V.conv,V.convL_eq];refine .tup _ _ (by simp[h2]) λj c v hj hv=> ?_;simp only[Arv,Asu] at hj;obtain⟨x,hj,rfl⟩:=hj;exact h3 j x v hj (by simpa using hv)
 rcases P1 hq with hq| ⟨x',T2,hq,hfz⟩
 ·exact hq.elim
 obtain⟨H1,g1,g2,g3⟩:=hfz.2 _ _ _ _ _ _ _ _ _ _ hs'.bare;obtain⟨m2,H2,e1,e2,e3⟩:=SRel.dropTo (T:=[]) T2 g1 (by simp) (by simp) (by simp) (by simp);have hm2:m2=[]:=Ard.1 e1.mlen;subst hm2;have hrep':=(g3 0 _ x' _ rfl rfl hrep).mono e2;have hdef:a'.defers=[]:=Ard.1 hs'.defs;cases e with
 |normal=>
  refine⟨x',T',_,w',β',H2,B', {b.atR a' [] with mode:=.returning},hq.2,e1,hout',hB,(hfr.trans g2).trans e2,hrep',hq.1,?_,rfl,?_⟩
  ·rw[henter];exact Steps.trans hend (.one (stepR_end rfl))
  ·exact⟨rfl,hdef,rfl,fn,hf,hrun⟩
 |ret=>
  obtain⟨k,hend⟩:=hend;refine⟨x',T',_,w',β',H2,B', {b.atR a' (.code .ret::k) with mode:=.returning},hq.2,e1,hout',hB,(hfr.trans g2).trans e2,hrep',hq.1,?_,rfl,?_⟩
  ·rw[henter];exact Steps.trans hend (.one (stepR_ret rfl))
  ·exact⟨rfl,hdef,rfl,fn,hf,hrun⟩
 |exit id=>exact he.elim
 |goto l=>exact he.elim
 |panic ch=>exact he.elim
 |outgrown=>exact he.elim
theorem Uz {c:Cx}{body:Code}{k:List Item}{E:Env}{T:Heap}{ι:Type}(Inv:ι->Base->Prop)(μ:ι->Nat)(Eo:ι->Env)(To:ι->Heap)(i0:ι)(n:Nat)(hD: ∀i,c.D.all (Nat.blt · (To i).length)=true)(hi: ∀i,Nat.ble c.imps.length (To i).length=true)
  (h0:Inv i0 c.B∧envIs (To i0).length E (Eo i0)∧heapIs (To i0).length T (To i0))
  (step: ∀i B,Inv i B->(∀j B' E T,Inv j B'∧μ j<μ i∧envIs (To j).length E (Eo j)∧heapIs (To j).length T (To j)->Goes {c with B:=B'} (.inLoop body::k) E T)->evp {c with B:=B} n (.code body::.inLoop body::k) (Eo i) (To i)):Goes c (.code (.loop body)::k) E T:=by
 have key: ∀(m:Nat) (i:ι) (B:Base),μ i=m->Inv i B->Goes {c with B:=B} (.code body::.inLoop body::k) (Eo i) (To i):=by
  intro m
  induction m using Nat.strongRecOn with
  |_ m ih=>
   intro i B hm hinv;refine Av n _ _ _ _ (step i B hinv λj B' E T ⟨h1,h2,h3,h4⟩=>Ft (c:= {c with B:=B'}) (Eo j) (To j) (hD j) (Arp (hi j)) h3 h4 (Bp (λb a cs w=>stepR_inLoop) (ih (μ j) (by omega) j B' rfl h1)))
 exact Ft (Eo i0) (To i0) (hD i0) (Arp (hi i0)) h0.2.1 h0.2.2 (Bp (λb a cs w=>stepR_loop) (key _ i0 c.B rfl h0.1))
section
variable {w w':World} {β β':Nat->Loc} {H H':Heap}
theorem P9 (f:Fr w β H w' β' H'){r b N:Nat}(hH:H[r]?=some (some .dfr))(hβ:β r=.blk b N)(hH':H'[r]?=some (some .dfr)):β' r=.blk b N:=by
 obtain⟨o,ho,_,hb⟩:=f.evo r .dfr (Ab hH) hH';rw[hH] at ho;injection ho with ho
 injection ho with ho
 subst ho;exact(hb (by rw[hβ];simp) trivial).trans hβ
end
theorem Yq {c:Cx}{g:FuncId}{args:List V}{E:Env}{Tw:Heap}{m:List Nat}{T:Heap}{K:V->St->Prop}{Q:V->Heap->Prop}(hf:FunB c.P g m T args Q)(himp:c.imps=[])(hout:Out m T c.B)(ha:V.pureL args=true)
  (h: ∀x T' B',Q x T'->x.pureB=true->Out m T' B'->(∀q,q∉m->B' q=c.B q)->K x ⟨E,Tw,B',c.D⟩):CallThen c g args E Tw K:=by
 unfold FunB at hf;obtain⟨hen,hf⟩:=hf;unfold CallThen;refine⟨hen,λw β H mw a vals cs hs hl hr=> ?_⟩;rw[himp] at hs;have hHr: ∀(q:Nat) (ob:HObj),c.B q=some ob->H[q]?=some (some ob):=λq ob hq=>hs.baseAt (by simp) hq;have hnot: ∀q,q∈m->q∉mw:=λq hq=>by
  obtain⟨j,hj⟩:=Ar7 hq;obtain⟨ob,_,e2,_⟩:=hout.at_ j q hj;exact hs.notIn e2 (by simp)
 have hs0:SRel [] 0 w β H [] ⟨[],[],λr=>(H[r]?).getD none,[]⟩ bare:=by
  refine⟨hs.hrel,rfl,λk=>by simp[lk,V.conv];exact .undef _,rfl,At5,by simp,rfl,λr h _=> ?_,λr h1=> ?_,by simp,by simp,by simp,rfl,by simp⟩
  ·simp[h]
  ·simp[Asq h1]
 have hout0:Out m T (λr=>(H[r]?).getD none):=⟨hout.len,hout.nodup,λk r hk=>by
  obtain⟨o,e1,e2,e3⟩:=hout.at_ k r hk;exact⟨o,e1,by simp[hHr r _ e2],e3⟩⟩
 obtain⟨x,T',v,w',β',H',B',fr,hq,k1,k2,k3,k4,k5,k6,k7,k8,k9⟩:=hf w β H _ vals cs hs0 hout0 hl (λj x v hj hv=>by
  have h1:=hr j x v hj hv;rwa [Ao _ _ (C3 _ ha x (Aq7 hj))] at h1)
 have hH': ∀q,q<H'.length->H'[q]?=some (B' q):=λq hq=>k1.base q hq (by simp);have hlen:=k4.len;have hold: ∀q,q<H.length->q∉m->H'[q]?=H[q]?:=λq hq hm=>by
  rw[hH' q (Asl hq hlen),k3 q hm];simp[hq]
 obtain⟨B1,hB1⟩: ∃B1:Base,B1=λq=>if q∈m then B' q else c.B q:=⟨_,rfl⟩
 have hBm: ∀q,q∈m->B1 q=B' q:=λq hq=>by rw[hB1];simp[hq]
 have hBn: ∀q,q∉m->B1 q=c.B q:=λq hq=>by rw[hB1];simp[hq]
 have hout1:Out m T' B1:=⟨k2.len,k2.nodup,λk r hk=>by
  obtain⟨o,e1,e2,e3⟩:=k2.at_ k r hk;exact⟨o,e1,by rw[hBm r (Aq7 hk)];exact e2,e3⟩⟩
 refine⟨x,_,v,w',β',H',mw,fr,h x T' B1 hq k6 hout1 hBn,?_,k4,by rw[Ao _ _ k6];exact k5,k7,k8,k9,Ar6 _⟩;rw[himp];have hmlt: ∀q,q∈m->q<H.length:=λq hq=>by
  obtain⟨j,hj⟩:=Ar7 hq;obtain⟨ob,_,e2,_⟩:=hout.at_ j q hj;exact Ab (hHr q _ e2)
 refine⟨k1.hrel,hs.size,λk=>(hs.env k).mono k4,hs.mlen,hs.nodup,λj q ob hj hob=> ?_,rfl,λq hq hqm=> ?_,λq hq=> ?_,λj q hj hq=> ?_,hs.scE,hs.scT,hs.defs,?_⟩
 ·have hqm:q∉m:=λhm=>hnot q hm (Aq7 hj);rw[hold q (hs.lt hj) hqm];exact hs.loc j q ob hj hob
 ·by_cases hm:q∈m
  ·simp only;rw[hBm q hm];exact hH' q hq
  ·simp only;rw[hBn q hm]
   rcases Ar3 q H.length with h1|h1
   ·rw[hold q h1 hm];exact hs.base q h1 hqm
   ·have e0:c.B q=none:=hs.fut q h1;rw[hH' q hq,k3 q hm,e0,Asq h1];rfl
 ·have hm:q∉m:=λhm=>by have:=hmlt q hm;omega
  simp only;rw[hBn q hm];exact hs.fut q (Ark hlen hq)
 ·have hqm:q∉m:=λhm=>hnot q hm (Aq7 hq);simp only;rw[hBn q hqm];exact hs.own j q hj hq
 ·intro j q hj;obtain⟨r',b',N',e1,e2,e3,e4⟩:=hs.marks j q hj;refine⟨r',b',N',e1,e2,?_,e4⟩;have hqm:r'∉m:=λhm=>hnot r' hm (Aq7 e1);have hH0:=hs.loc q r' _ e1 e2;exact P9 k4 (by simpa[HObj.conv] using hH0) e3 (by rw[hold r' (hs.lt e1) hqm,hH0];rfl)
def allLive:Heap->Bool
 | []=>true
 |none::_=>false
 |some _::T=>allLive T
theorem J9: ∀ {T:Heap},allLive T=true-> ∀(k:Nat) (o:Option HObj),T[k]?=some o-> ∃ob,o=some ob
 | [],_,k,o,h=>by simp at h
 |none::_,hl,_,_,_=>by cases hl
 |some x::T,hl,k,o,h=>by
  cases k with
  |zero=>simp at h;exact⟨x,h.symm⟩
  |succ k=>exact J9 (T:=T) hl k o (by simpa using h)
theorem Aed {c:Cx}{g:FuncId}{first cap:List V}{kl:Nat}{E:Env}{T:Heap}{K:V->St->Prop}{Q:V->Heap->Prop}(hlive:allLive T=true)(hkl:kl<T.length)(ha:V.pureL (first++cap)=true)
  (hf: ∀(m:List Nat) (r:Nat),m[kl]?=some r->FunB c.P g m T (first++ [.yld (.abs r)]++cap) Q)
  (h: ∀x T',Q x T'->x.pureB=true->T'.length=T.length->(∀k∈c.D,T'[k]?=some (some .dfr))∧K x ⟨E,T',c.B,c.D⟩):CallThen c g (first++ [.yld (.loc kl)]++cap) E T K:=by
 have hen:Enterable c.P g:=by
  have h0:=hf (List.replicate T.length 0) 0 (by simp[hkl]);unfold FunB at h0;exact h0.1
 unfold CallThen;refine⟨hen,λw β H m a vals cs hs hl hr=> ?_⟩;have hml:m.length=T.length:=hs.mlen;have hklm:kl<m.length:=by omega
 have hrk:m[kl]?=some m[kl]:=Aq3 hklm;have hff:=hf m m[kl] hrk;unfold FunB at hff;have hs0:SRel [] 0 w β H [] ⟨[],[],λr=>(H[r]?).getD none,[]⟩ bare:=by
  refine⟨hs.hrel,rfl,λk=>by simp[lk,V.conv];exact .undef _,rfl,At5,by simp,rfl,λr h _=> ?_,λr h1=> ?_,by simp,by simp,by simp,rfl,by simp⟩
  ·simp[h]
  ·simp[Asq h1]
 have hout0:Out m T (λr=>(H[r]?).getD none):=⟨hml,hs.nodup,λk r hk=>by
  have hkT:k<T.length:=by have:=Ab hk;omega
  have e:=Aq3 hkT;obtain⟨ob,hob⟩:=J9 hlive k _ e;rw[hob] at e;have hH:=hs.loc k r _ hk e;refine⟨ob,e,by simp[hH],?_⟩;rw[hml];exact hs.scT k ob e⟩
 have hpa:=C3 _ ha;obtain⟨x,T',v,w',β',H',B',fr,hq,k1,k2,k3,k4,k5,k6,k7,k8,k9⟩:=hff.2 w β H _ vals cs hs0 hout0 (by simpa using hl) (λj x v hj hv=>by
  rcases Aup j first.length with h1|h1|h1
  ·rw[Arz,Aq9 h1] at hj;have h2:=hr j x v (by rw[Arz,Aq9 h1];exact hj) hv;rwa [Ao _ _ (hpa x (Ar0 _ (Aq7 hj)))] at h2
  ·subst h1;have h2:=hr first.length (.yld (.loc kl)) v (by simp) hv;simp at hj;subst hj;simpa[V.conv,Ref.conv,hrk] using h2
  ·have e: ∀y:V,(first++ [y]++cap)[j]?=cap[j- (first.length+1)]?:=λy=>by
    rw[Arh (by simp;omega)];simp
   rw[e] at hj;have h2:=hr j x v (by rw[e];exact hj) hv;rwa [Ao _ _ (hpa x (Art _ (Aq7 hj)))] at h2)
 have hH': ∀q,q<H'.length->H'[q]?=some (B' q):=λq hq=>k1.base q hq (by simp);have hlen:=k4.len;have hTl:T'.length=T.length:=by rw[←k2.len,hml]
 obtain⟨hD,hk⟩:=h x T' hq k6 hTl;have hloc': ∀(k r:Nat) (o:Option HObj),m[k]?=some r->T'[k]?=some o->H'[r]?=some (o.map (HObj.conv m)):=λk r o hk ho=>by
  obtain⟨ob,e1,e2,_⟩:=k2.at_ k r hk;rw[e1] at ho;injection ho with ho
  subst ho;rw[hH' r (Asl (hs.lt hk) hlen),e2];rfl
 refine⟨x,_,v,w',β',H',m,fr,hk,?_,k4,by rw[Ao _ _ k6];exact k5,k7,k8,k9,Ar6 _⟩;refine⟨k1.hrel,hs.size,λk=>(hs.env k).mono k4,by rw[hTl];exact hml,hs.nodup,hloc',hs.imp,λq hq hqm=> ?_,λq hq=>hs.fut q (Ark hlen hq),hs.own,λp hp=>by simp only;rw[hTl];exact hs.scE p hp,λk o ho=> ?_,hs.defs,?_⟩
 ·rw[hH' q hq,k3 q hqm]
  rcases Ar3 q H.length with h1|h1
  ·have:=hs.base q h1 hqm;rw[this];rfl
  ·have e0:c.B q=none:=hs.fut q h1;simp only;rw[e0,Asq h1];rfl
 ·have hkm:k<m.length:=by have:=Ab ho;simp only at this;omega
  obtain⟨ob,e1,_,e3⟩:=k2.at_ k m[k] (Aq3 hkm);simp only at ho ⊢;rw[e1] at ho;injection ho with ho
  injection ho with ho
  subst ho;rw[hTl,←hml];exact e3
 ·intro j q hj;obtain⟨r',b',N',e1,e2,e3,e4⟩:=hs.marks j q hj;have hT':=hD q (Aq7 hj);refine⟨r',b',N',e1,hT',?_,e4⟩;refine P9 k4 (by simpa[HObj.conv] using hs.loc q r' _ e1 e2) e3 ?_;simpa[HObj.conv] using hloc' q r' _ e1 hT'
theorem Mo {c:Cx}{k:List Item}{E:Env}{T:Heap}{r l kl:Nat}{pe:Option Code}{fn:FuncId}{E0:Env}{nt0:Nat}{ps:Array Tmp}{asg bo:Code}(n:Nat)(hro:c.ro=some (r,l))(hi:c.imps[kl]?=some r)
  (hT:lget T kl=some (some (.loop .ready pe fn E0 nt0 ps asg bo))) (h:lset T kl (some (.loop .busy pe fn E0 nt0 ps asg bo)) λT'=>evp c n k E T'):Goes c (.beginRound::k) E T:=by
 rw[Bz] at h;rw[Af] at hT;refine Bw λw β H m a b cs hs h1 h2 h3=> ?_;rw[hro] at h3;obtain⟨hb,_,N,hβ⟩:=h3;have hk:m[kl]?=some r:=by
  have:=hs.imp;rw[←this,Asv] at hi;split at hi
  ·exact hi
  ·cases hi
 obtain⟨rl,e1,e2,e3,e4,e5,e6,e7,e8,e9,H',e10,e11⟩:=hs.turnLoop (st':=.busy) (pe':=pe) hk hT hβ;have hwe:(w.putObj l (.loop {rl with state:=.busy,pending:=pe}))=(w.putObj l (.loop {rl with state:=.busy})):=by rw[←e3]
 rw[hwe] at e10 e11;exact⟨_,β,H',m,a,_,⟨E,_,c.B,c.D⟩,.one (stepR_beginRound hb (run_beginRound e1 e2)),e10,e11,Av n _ _ _ _ h⟩
def psEnv:List Tmp->List V->Env->Env
 |t::ts,v::vs,E=>psEnv ts vs ((t,v)::E)
 |_,_,E=>E
def roundEnd (T:Heap)(kl:Nat)(e:Exit):Option (Bool×Heap):=
 match T[kl]? with
 |some (some (.loop _ _ fn E0 nt ps asg bo))=>match e with
  | .normal=>some (true,T.set kl (some (.loop .ready none fn E0 nt ps asg bo)))
  | .ret=>some (false,T.set kl (some (.loop .done (some .ret) fn E0 nt ps asg bo)))
  | .exit id=>some (false,T.set kl (some (.loop .done (some (.exit id)) fn E0 nt ps asg bo)))
  | .goto t=>some (false,T.set kl (some (.loop .done (some (.goto t)) fn E0 nt ps asg bo)))
  |_=>none
 |_=>none
def XO (n:Nat)(kl:Nat)(B:Base)(b:Bool)(T':Heap)(e:Exit)(s:St):Prop:=
 s.D=[]∧s.B=B∧ ∃T1,T1.length=n∧heapIs n s.T T1∧roundEnd T1 kl e=some (b,T')
theorem Yr {w:World}{β:Nat->Loc}{H:Heap}{m:List Nat}{nt:Nat}: ∀(ts:List Tmp) (vs:List Value) (ys:List V) (E:Env) (tmps:Array Value),tmps.size=nt->(∀t∈ts,t<nt)->ts.length=vs.length->ys.length=vs.length->
  (∀(j:Nat) (x:V) (v:Value),ys[j]?=some x->vs[j]?=some v->Rep w β H (x.conv m) v)->(∀k,Rep w β H ((lk E k).conv m) (tmps.getD k Go.undef))->
  ((ts.zip vs).foldl (λtmps (t,a)=>tmps.setIfInBounds t a) tmps).size=nt∧ ∀k,Rep w β H ((lk (psEnv ts ys E) k).conv m) (((ts.zip vs).foldl (λtmps (t,a)=>tmps.setIfInBounds t a) tmps).getD k Go.undef)
 | [],[],[],E,tmps,hs,_,_,_,_,hE=>⟨hs,hE⟩
 |t::ts,v::vs,y::ys,E,tmps,hs,ht,hl,hl',hr,hE=>by
  refine Yr ts vs ys ((t,y)::E) (tmps.setIfInBounds t v) (by simpa using hs) (λt h=>ht t (Are _ h)) (by simpa using hl) (by simpa using hl') (λj x v hj hv=>hr (j+1) x v (by simpa using hj) (by simpa using hv)) λk=> ?_;have htn:=ht t Ari;rw[lk]
  by_cases e:t=k
  ·subst e;simp only[Av3,cond_true];have:(tmps.setIfInBounds t v).getD t Go.undef=v:=by simp[Array.getD,hs,htn]
   rw[this];exact hr 0 y v rfl rfl
  ·have hb:Nat.beq t k=false:=by
    cases hb:Nat.beq t k with
    |false=>rfl
    |true=>exact absurd (Arn hb) e
   rw[hb];have:(tmps.setIfInBounds t v).getD k Go.undef=tmps.getD k Go.undef:=by
    simp only[Atr];rw[Ave e]
   rw[this];exact hE k
 | [],v::vs,_,_,_,_,_,h,_,_,_=>by simp at h
 |t::ts,[],_,_,_,_,_,h,_,_,_=>by simp at h
 |_::_,_::_,[],_,_,_,_,_,h,_,_=>by simp at h
 | [],[],_::_,_,_,_,_,_,h,_,_=>by simp at h
theorem Ys: ∀(ts:List Tmp) (ys:List V) (E:Env) (p:Nat×V),p∈psEnv ts ys E->p∈E∨p.2∈ys
 | [],_,E,p,h=>by cases ‹List V› <;>exact .inl h
 |t::ts,[],E,p,h=>.inl h
 |t::ts,y::ys,E,p,h=>by
  rcases Ys ts ys _ p h with h|h
  ·rcases Arl.1 h with rfl|h
   ·exact .inr Ari
   ·exact .inl h
  ·exact .inr (Are _ h)
theorem pureSc (n:Nat): ∀v:V,v.pureB=true->v.sc n:=by
 have key: ∀v:V,v.pureB=true->v.sc n:=λv=>by
  refine V.rec (motive_1:=λv=>v.pureB=true->v.sc n) (motive_2:=λvs=>V.pureL vs=true->V.scL n vs) ?_ ?_ ?_ ?_ ?_ ?_ ?_ ?_ ?_ ?_ ?_ ?_ ?_ ?_ ?_ ?_ ?_ ?_ ?_ ?_ ?_ ?_ ?_ v
  all_goals first| (intros;trivial)|skip
  all_goals first
   | (intro r;intros;rename_i h;cases r<;>first|trivial|cases h)
   |skip
  ·intro cs ih h;exact ih h
  ·intro cs ih h;exact ih h
  ·intro f a c ih1 ih2 h;simp only[V.pureB,Aq6] at h;exact⟨ih1 h.1,ih2 h.2⟩
  ·intro t v ih h;exact ih h
  ·intro v vs ih1 ih2 h;simp only[V.pureL,Aq6] at h;exact⟨ih1 h.1,ih2 h.2⟩
 exact key
theorem Alz {P:Program}{T:Heap}{kl:Nat}{y:List V}{b:Bool}{T':Heap}{fn:FuncId}{E0:Env}{nt0:Nat}{ps:Array Tmp}{asg bo:Code}(n:Nat)(hT:T[kl]?=some (some (.loop .ready none fn E0 nt0 ps asg bo)))(hps:ps.size=y.length)(hpl:ps.toList.all (Nat.blt · nt0)=true)
  (hy:V.pureL y=true) (hlive:allLive T'=true) (hlen:T'.length=T.length)
  (h: ∀(imps:List Nat) (B:Base) (r l:Nat),imps.length=T.length->imps[kl]?=some r->evp {P:=P,nt:=nt0,fn:=fn,ro:=some (r,l),imps:=imps,X:=XO T.length kl B b T',B:=B,D:=[]} n [.code asg,.beginRound,.code bo] (psEnv ps.toList y E0) T):YieldOk P T kl y b T':=by
 have main: ∀(w:World) (β:Nat->Loc) (H:Heap) (m:List Nat) (B:Base) (vals:Array Value) (c:Frame) (cs:List Frame) (r l N:Nat),SRel m 0 w β H m ⟨[],T,B,[]⟩ bare->m[kl]?=some r->β r=.blk l N->y.length=vals.size->
  (∀(j:Nat) (x:V) (v:Value),y[j]?=some x->vals[j]?=some v->Rep w β H x v)->
  ∃(rl:Loop) (w':World) (β':Nat->Loc) (H':Heap),w.heap[l]?=some (.loop rl)∧vals.size=rl.params.size∧SRel m 0 w' β' H' m ⟨[],T',B,[]⟩ bare∧Fr w β H w' β' H'∧
   Steps P (lone (Frame.round l rl.fn ((rl.params.zip vals).foldl (λtmps (t,a)=>tmps.setIfInBounds t a) rl.tmps) rl.assign rl.body .normal) (c::cs) w) (lone (c.finish (.bool b)) cs w'):=by
  intro w β H m B vals c cs r l N hs hr hβ hl hv;have hml:m.length=T.length:=hs.mlen;have hH:=hs.loc kl r _ hr hT;have hob:=hs.hrel.obj r _ hH;rw[hβ] at hob;obtain⟨tmps,db,e1,e2,e3⟩:=hob;have g:=Av _ _ _ _ _ (h m B r l hml hr);unfold Goes at g
  let b0:Frame:= {(default:Frame) with fn:=fn,kind:=.normal,roundOf:=some l}
  have hpl': ∀t∈ps.toList,t<nt0:=λt ht=>Arp (Ati.1 hpl t ht);obtain⟨f1,f2⟩:=Yr (w:=w) (β:=β) (H:=H) (m:=m) ps.toList vals.toList y E0 tmps e2 hpl' (by simp;omega) (by simpa using hl) (λj x v hj hv'=>by
   rw[Ao _ _ (C3 _ hy x (Aq7 hj))];exact hv j x v hj (by simpa using hv')) (λk=>by have:=e3 k;rwa [Rp] at this)
  have hs1:SRel m nt0 w β H m ⟨psEnv ps.toList y E0,T,B,[]⟩ {tmps:=(ps.toList.zip vals.toList).foldl (λtmps (t,a)=>tmps.setIfInBounds t a) tmps,defers:=[]}:=by
   refine⟨hs.hrel,f1,f2,hs.mlen,hs.nodup,hs.loc,hs.imp,hs.base,hs.fut,hs.own,λp hp=> ?_,hs.scT,rfl,by simp⟩
   rcases Ys _ _ _ _ hp with hp|hp
   ·exact hs.scT kl _ hT p hp
   ·exact pureSc _ _ (C3 _ hy _ hp)
  have hfold:(ps.zip vals).foldl (λtmps (t,a)=>tmps.setIfInBounds t a) tmps=(ps.toList.zip vals.toList).foldl (λtmps (t,a)=>tmps.setIfInBounds t a) tmps:=by
   rw[←Array.foldl_toList,Array.toList_zip]
  have hround:Frame.round l fn ((ps.zip vals).foldl (λtmps (t,a)=>tmps.setIfInBounds t a) tmps) asg bo .normal=b0.atR {tmps:=(ps.toList.zip vals.toList).foldl (λtmps (t,a)=>tmps.setIfInBounds t a) tmps,defers:=[]} [.code asg,.beginRound,.code bo]:=by
   rw[hfold];simp[Frame.round,Frame.atR,b0]
  refine⟨{state:=.ready,pending:=none,fn:=fn,tmps:=tmps,params:=ps,assign:=asg,body:=bo,defers:=db},?_⟩;obtain⟨e,s',w',β',H',m',a',⟨hD,hB,T1,hT1,hT2,hT3⟩,hs',hfr,hend⟩:=g w β H m _ b0 (c::cs) hs1 rfl rfl ⟨rfl,.inr ⟨_,hH,trivial⟩,N,hβ⟩;obtain⟨E',T2,B',D'⟩:=s';simp only at hD hB hT2;subst hD hB;rw[←hT1] at hT2;obtain⟨T'',rfl,hsc⟩:=Kh hT2;have himl:m.length≤T1.length:=by omega
  obtain⟨m2,H2,k1,k2,k3⟩:=SRel.dropTo T'' hs'.bare himl (by simp) hsc (by simp);have hm2:m2=m:=by
   rw[k3,hT1,←hml];exact hs'.imp
  subst hm2;have hfr2:=hfr.trans k2;have hβ':β' r=.blk l N:=by
   rw[hfr2.fix r (.inr ⟨_,hH,trivial⟩)];exact hβ
  unfold roundEnd at hT3;split at hT3
  ·rename_i st pe fn1 E1 nt1 ps1 as1 bo1 hk1;have endOf: ∀(jump:Option Code) (bb:Bool),bb=jump.isNone->T'=T1.set kl (some (.loop (if jump.isNone then .ready else .done) jump fn1 E1 nt1 ps1 as1 bo1))->
     ∃w2 H3,(Instr.endRound l jump).run P w'=.ok (.bool bb) w2∧SRel m2 0 w2 β' H3 m2 ⟨[],T',B',[]⟩ bare∧Fr w β H w2 β' H3:=by
    intro jump bb hbb hT';obtain⟨rl,q1,q2,q3,q4,q5,q6,q7,q8,q9,H3,q10,q11⟩:=k1.turnLoop (st':=if jump.isNone then .ready else .done) (pe':=jump) hr hk1 hβ';refine⟨_,H3,?_,?_,hfr2.trans q11⟩
    ·rw[run_endRound jump q1,hbb]
    ·rw[hT'];exact q10
   cases e with
   |normal=>
    injection hT3 with hT3
    injection hT3 with hb hT'
    subst hb;obtain⟨w2,H3,z1,z2,z3⟩:=endOf none true rfl hT'.symm;refine⟨w2,β',H3,e1,by simp;omega,z2,z3,?_⟩;rw[hround];exact Steps.trans hend (.one (stepR_round_end rfl rfl z1))
   |ret=>
    injection hT3 with hT3
    injection hT3 with hb hT'
    subst hb;obtain⟨w2,H3,z1,z2,z3⟩:=endOf (some .ret) false rfl hT'.symm;obtain⟨k0,hend⟩:=hend;refine⟨w2,β',H3,e1,by simp;omega,z2,z3,?_⟩;rw[hround];exact Steps.trans hend (.one (stepR_round_ret rfl rfl z1))
   |exit id=>
    injection hT3 with hT3
    injection hT3 with hb hT'
    subst hb;obtain⟨w2,H3,z1,z2,z3⟩:=endOf (some (.exit id)) false rfl hT'.symm;obtain⟨k0,hx,hend⟩:=hend;refine⟨w2,β',H3,e1,by simp;omega,z2,z3,?_⟩;rw[hround];exact Steps.trans hend (.one (stepR_round_exit rfl rfl hx z1))
   |goto t=>
    injection hT3 with hT3
    injection hT3 with hb hT'
    subst hb;obtain⟨w2,H3,z1,z2,z3⟩:=endOf (some (.goto t)) false rfl hT'.symm;obtain⟨k0,hx,hend⟩:=hend;refine⟨w2,β',H3,e1,by simp;omega,z2,z3,?_⟩;rw[hround];exact Steps.trans hend (.one (stepR_round_goto rfl rfl hx z1))
   |panic ch=>cases hT3
   |outgrown=>cases hT3
  ·cases hT3
 exact⟨hlen,λk o hk=>by obtain⟨ob,h⟩:=J9 hlive k o hk;rw[h];simp,main⟩
end Bow
