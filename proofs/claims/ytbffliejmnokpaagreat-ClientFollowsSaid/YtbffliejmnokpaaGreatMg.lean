/- The library, part 7: SP47, SP48, SP49, SP50, SP51, SP52, SP53, SP54, SP55, SP56, SP57, SP62, SP63, SP64, SP65, W98, W75, SP68, SP69, W107, W28, W29, W30, W40, W90, W108, W109, W122, W123, W124, W125, W126, AE48, W127, W128, W129, W110, W111, W113, W130, W131, SP72. -/
import Derived.Test.YtbffliejmnokpaaGreatMf
import Derived.Test.YtbffliejmnokpaaGreatMe
import Derived.Test.YtbffliejmnokpaaGreatMd
import Derived.Test.YtbffliejmnokpaaGreatMc
set_option maxRecDepth 100000
set_option maxHeartbeats 4000000
namespace Bow
open Go
theorem Xz {c:Chg}(ht:c.takes=true)(hp:c.puts=false): ∀(p pre:List Int),(∀s,pre++s≠c.frm)->c.nums pre p=p
 | [],pre,_=>rfl
 |k::p,pre,h=>by
  rw[Chg.nums,Xz ht hp p (pre++ [k]) λs e=>h (k::s) (by simpa using e)];have h0:pre≠c.frm:=λe=>h [] (by simpa using e);unfold Chg.number;rw[ht,hp,decide_eq_false h0];simp
theorem Zj {c:Chg}(ht:c.takes=true)(hp:c.puts=false)(at_:Int): ∀(q to pre:List Int),c.frm=pre++q->c.nums pre to=(landT q c.at_ to at_).1
 | [],[],pre,_=>by
  unfold landT
  by_cases e:c.at_<at_<;>simp[Chg.nums,e]
 | [],k::p,pre,h=>by
  rw[Asc] at h;rw[Chg.nums,Xz ht hp p (pre++ [k]) λs e=>by
   rw[h] at e;have:=congrArg List.length e;simp at this]
  unfold Chg.number landT;rw[ht,hp,h,Ge]
  by_cases e:c.at_<k<;>simp[e]
 |j::q,[],pre,h=>by
  rw[Q9];rfl
 |j::q,k::p,pre,h=>by
  rw[Chg.nums];have h0:pre≠c.frm:=λe=>by
   rw[h] at e;have:=congrArg List.length e;simp at this
  have hnum:c.number pre k=k:=by
   unfold Chg.number;rw[ht,hp,decide_eq_false h0];simp
  rw[hnum]
  by_cases e:j=k
  ·subst e;rw[Pm,Zj ht hp at_ q p (pre++ [j]) (by simpa using h)]
  ·rw[Ni e,Xz ht hp p (pre++ [k]) λs e2=>by
    rw[h,Arz,Avu] at e2;simp only[Arx,List.cons.injEq] at e2;exact e e2.1.symm]
theorem Vx {o:OpT}(hf:formedB o=true)(hne:o.path≠[]):movesO (dropO o.path)=true:=by
 have h:=Bc hf;unfold movesO formedB dropO noOp;simp[h];exact Arw.2 hne
theorem Aje {o:OpT}(hf:formedB o=true)(hne:o.path≠[])(hw:within o.path o.to=false):nodeP (dropO o.path) o.to=some (landT o.path.dropLast (lastP o.path) o.to o.at_).1:=by
 unfold nodeP;rw[Vx hf hne];have ht:(chgO (dropO o.path)).takes=true:=rfl;have hp:(chgO (dropO o.path)).puts=false:=rfl;have hw':within (dropO o.path).path o.to=false:=hw;rw[ht,hw'];simp only[Arm,cond_false,Atu];exact congrArg some (Zj (c:=chgO (dropO o.path)) rfl rfl o.at_ _ _ [] rfl)
theorem Amd {q to:List Int}{i at_:Int}:(landT q i to at_).2=bif decide (q=to)&&decide (i<at_) then at_-1 else at_:=by
 unfold landT;cases(decide (q=to)&&decide (i<at_))<;>cases(within q to&& (decide (q.length<to.length)&&decide (i<to.getD q.length 0)))<;>rfl
section
variable {α:Type} [DecidableEq α]
theorem Aom {S:Gr α}{r u z:α}{t:Tree}(h:Unf S r t)(hn:(labs S r t).Nodup){p:List Int}{s:Tree}(hu:res S r p=some u)(hs:atT t p=some s)(hz:z∈labs S u s):u∉S.kids z:=by
 rcases Kv p h with⟨k1,_⟩| ⟨v',y',k1,k2,k3⟩
 ·rw[hu] at k1;cases k1
 ·rw[hu] at k1;rw[hs] at k2;injection k1 with k1
  injection k2 with k2
  subst k1 k2;exact Ajb k3 (Mv h hn hu hs) hz
omit [DecidableEq α] in
theorem E9 {S:Gr α}{r u:α}{t:Tree}{p:List Int}(h:Unf S r t)(hu:res S r p=some u): ∃s,atT t p=some s∧Unf S u s:=by
 rcases Kv p h with⟨k1,_⟩| ⟨v',y',k1,k2,k3⟩
 ·rw[hu] at k1;cases k1
 ·rw[hu] at k1;injection k1 with k1
  subst k1;exact⟨y',k2,k3⟩
omit [DecidableEq α] in
theorem G7 {S:Gr α}{r:α}{t s:Tree}{p:List Int}(h:Unf S r t)(hs:atT t p=some s): ∃u,res S r p=some u∧Unf S u s:=by
 rcases Kv p h with⟨_,k1⟩| ⟨v',y',k1,k2,k3⟩
 ·rw[hs] at k1;cases k1
 ·rw[hs] at k2;injection k2 with k2
  subst k2;exact⟨v',k1,k3⟩
theorem Afz (k:Int): ∀(p:List Int) (t:Tree),atT t (p++ [k])=(atT t p).bind λy=>subT y k
 | [],t=>by
  show(match subT t k with
   |none=>none
   |some v=>some v)=subT t k
  cases subT t k<;>rfl
 |i::p,t=>by
  rw[Arx,atT,atT];cases subT t i with
  |none=>rfl
  |some v=>exact Afz k p v
omit [DecidableEq α] in
theorem Zk {S:Gr α}{r u:α}{t:Tree}{p:List Int}(h:Unf S r t)(hne:p≠[])(hu:res S r p=some u):
  ∃f y s,res S r p.dropLast=some f∧atT t p.dropLast=some y∧kidS S f (lastP p)=some u∧subT y (lastP p)=some s∧atT t p=some s∧Unf S u s:=by
 obtain⟨s,hs,hus⟩:=E9 h hu;have e:=G5 hne;have hu':=hu;have hs':=hs;rw[←e,Db] at hu';rw[←e,Afz] at hs';cases hf:res S r p.dropLast with
 |none=>rw[hf] at hu';cases hu'
 |some f=>
  cases hy:atT t p.dropLast with
  |none=>rw[hy] at hs';cases hs'
  |some y=>
   rw[hf] at hu';rw[hy] at hs';exact⟨f,y,s,rfl,rfl,hu',hs',hs,hus⟩
structure Became (S' S:Gr α)(r:α)(t' t:Tree)(o:OpT)(x0:α):Prop where
 unf:Unf S' r t'
 nodup:(labs S' r t').Nodup
 old: ∀z∈labs S' r t',z∈labs S r t∨(o.kind=1∧z=x0)
 gone: ∀u s,o.kind=2->res S r o.path=some u->atT t o.path=some s-> ∀z∈labs S' r t',z∉labs S u s
theorem Af0 {S:Gr α}{r x0:α}{t:Tree}{o:OpT}{e:Eff α}(h:Unf S r t)(hn:(labs S r t).Nodup)(A:Act S r x0 o e)(hf:formedB o=true)(hx:o.kind=1->Unf S x0 (freshT o)∧x0∉labs S r t):
  Became (e.on S) S r (applyT t o) t o x0:=by
 unfold applyT;cases A with
 |ins v hk hv h0 hg=>
  rw[decide_eq_true hk,cond_true];obtain⟨hx,hx0⟩:=hx hk;obtain⟨y,hy,_⟩:=E9 h hv;have hxk:S.kids x0=[]:=Ard.1 (Dz (Ci.1 hx).2);have hxv:x0≠v:=λc=>hx0 (c▸Bu h hv);have hkx:(Eff.on ⟨none,some (v,o.at_.toNat,x0)⟩ S).kids x0=[]:=by
   have:(Eff.on ⟨none,some (v,o.at_.toNat,x0)⟩ S).kids x0=rmo none (S.kids x0):=if_neg hxv;rw[this,hxk];rfl
  have hX:Unf (Eff.on ⟨none,some (v,o.at_.toNat,x0)⟩ S) x0 (freshT o):=by
   rw[Ci,hkx];rw[Ci,hxk] at hx;refine⟨hx.1,?_⟩;show Unfs _ [] [];rw[Unfs];trivial
  have c:=Afu (S':=Eff.on ⟨none,some (v,o.at_.toNat,x0)⟩ S) (g:=o.at_) h hn hv hy (if_pos rfl) rfl (λz _ hz=>⟨if_neg hz,rfl⟩) hX;have hl:labs (Eff.on ⟨none,some (v,o.at_.toNat,x0)⟩ S) x0 (freshT o)=[x0]:=by
   rw[Cv,hkx];rfl
  rw[hl] at c;refine⟨c.1,?_,λz hz=> ?_,λu s hk2=>by omega⟩
  ·rw[As6];intro z;rw[c.2 z];have h1:=(As6.1 hn) z
   by_cases e:z=x0
   ·subst e;rw[Avp.2 hx0];simp
   ·rw[Avp.2 (show z∉ [x0] by simpa using e)];exact h1
  ·by_cases e:z=x0
   ·exact .inr ⟨hk,e⟩
   ·refine .inl ?_;have h2:=c.2 z;rw[Avp.2 (show z∉ [x0] by simpa using e)] at h2;rw[←Aum] at hz ⊢;omega
 |del u hk hne hu=>
  rw[decide_eq_false (show ¬o.kind=1 by omega),cond_false,decide_eq_true hk,cond_true];obtain⟨f,y,s,p1,p2,p3,p4,p5,p6⟩:=Zk h hne hu;have c:=Aft h hn p1 p2 p3 p4;refine⟨c.1,?_,λz hz=>.inl ?_,λu' s' _ hu' hs' z hz hzs=> ?_⟩
  ·rw[As6];intro z;have h1:=(As6.1 hn) z;have h2:=c.2 z;have:(labs (Eff.on ⟨some u,none⟩ S) r (withoutT t o.path)).count z=(labs (delS S u) r (changeT (delT (lastP o.path)) t o.path.dropLast)).count z:=rfl;omega
  ·have h2:=c.2 z;have hz:z∈labs (delS S u) r (changeT (delT (lastP o.path)) t o.path.dropLast):=hz;rw[←Aum] at hz ⊢;omega
  ·rw[hu] at hu';rw[p5] at hs';injection hu' with hu'
   injection hs' with hs'
   subst hu' hs';have h1:=(As6.1 hn) z;have h2:=c.2 z;have hz:z∈labs (delS S u) r (changeT (delT (lastP o.path)) t o.path.dropLast):=hz;rw[←Aum] at hz hzs;omega
 |mov u v hk hne hw hu hv h0 hg=>
  rw[decide_eq_false (show ¬o.kind=1 by omega),cond_false,decide_eq_false (show ¬o.kind=2 by omega),cond_false,decide_eq_true hk,cond_true];obtain⟨f,y,s,p1,p2,p3,p4,p5,p6⟩:=Zk h hne hu;rw[p5];show Became _ _ _ (moveT s t o) _ _ _;have c:=Aft h hn p1 p2 p3 p4;have hD:Act S r x0 (dropO o.path) ⟨some u,none⟩:=.del u rfl hne hu;obtain⟨p',q1,q2⟩:=D0 h hn hD (Vx hf hne) hv (λ⟨_,g⟩=>by
   have g:within o.path o.to=true:=g;rw[hw] at g;cases g)
  rw[Aje hf hne hw] at q1;injection q1 with q1
  subst q1;have q2:res (delS S u) r (landT o.path.dropLast (lastP o.path) o.to o.at_).1=some v:=q2;have hn1:(labs (delS S u) r (changeT (delT (lastP o.path)) t o.path.dropLast)).Nodup:=by
   rw[As6];intro z;have h1:=(As6.1 hn) z;have h2:=c.2 z;omega
  obtain⟨y2,hy2,_⟩:=E9 c.1 q2;have hgap:(landT o.path.dropLast (lastP o.path) o.to o.at_).2=((rm u ((S.kids v).take o.at_.toNat)).length:Int):=by
   rw[Amd,Qr h hn hne hu hv h0 hg]
  have hks:(Eff.on ⟨some u,some (v,o.at_.toNat,u)⟩ S).kids v=putL (some u) o.at_.toNat u (S.kids v):=if_pos rfl;have hcut:=R1 (some u) o.at_.toNat (S.kids v);have hX:Unf (Eff.on ⟨some u,some (v,o.at_.toNat,u)⟩ S) u s∧labs (Eff.on ⟨some u,some (v,o.at_.toNat,u)⟩ S) u s=labs S u s:=by
   have ha:=Qp (S:=S) (S':=Eff.on ⟨some u,some (v,o.at_.toNat,u)⟩ S) s u λz hz=>by
    refine⟨?_,rfl⟩;have hzv:z≠v:=λc=>by
     subst c;obtain⟨p2',hp2⟩:=O4 s u p6 hz;have hr:res S r (o.path++p2')=some z:=by rw[Eu,hu];exact hp2
     have:=B5 _ _ h hn hr hv;rw[←this,Ho] at hw;cases hw
    have:(Eff.on ⟨some u,some (v,o.at_.toNat,u)⟩ S).kids z=rmo (some u) (S.kids z):=if_neg hzv;rw[this];exact Dj (Aom h hn hu p5 hz)
   exact⟨ha.1 p6,ha.2⟩
  have c2:=Afu (S':=Eff.on ⟨some u,some (v,o.at_.toNat,u)⟩ S) (g:=(landT o.path.dropLast (lastP o.path) o.to o.at_).2) c.1 hn1 q2 hy2
   (by
    rw[hks,hgap];show putL (some u) o.at_.toNat u (S.kids v)=(rm u (S.kids v)).take (rm u ((S.kids v).take o.at_.toNat)).length++u::(rm u (S.kids v)).drop (rm u ((S.kids v).take o.at_.toNat)).length;have h1:(rm u (S.kids v)).take (rm u ((S.kids v).take o.at_.toNat)).length=_:=hcut.1;have h2:(rm u (S.kids v)).drop (rm u ((S.kids v).take o.at_.toNat)).length=_:=hcut.2;rw[h1,h2];rfl) rfl (λz _ hz=>⟨if_neg hz,rfl⟩) hX.1
  rw[hX.2] at c2;have hcnt: ∀z,(labs (Eff.on ⟨some u,some (v,o.at_.toNat,u)⟩ S) r (moveT s t o)).count z=(labs S r t).count z:=λz=>by
   have h1:=c.2 z;have h2:=c2.2 z;have:(labs (Eff.on ⟨some u,some (v,o.at_.toNat,u)⟩ S) r (moveT s t o)).count z=(labs (Eff.on ⟨some u,some (v,o.at_.toNat,u)⟩ S) r (changeT (insT (landT o.path.dropLast (lastP o.path) o.to o.at_).2 s) (changeT (delT (lastP o.path)) t o.path.dropLast) (landT o.path.dropLast (lastP o.path) o.to o.at_).1)).count z:=rfl;omega
  refine⟨c2.1,?_,λz hz=>.inl ?_,λu s hk2=>by omega⟩
  ·rw[As6];intro z;rw[hcnt z];exact(As6.1 hn) z
  ·rw[←Aum] at hz ⊢;rw[hcnt z] at hz;exact hz
end
def payF (o:OpT)(p:Pay):Pay:=
 if o.kind=4 then {p with attrs:=setA o p.attrs} else if o.kind=5 then {p with label:=o.label} else {p with text:=(applyE p.text o.pieces).1}
theorem Qs (o:OpT)(p:Pay):(payF o p).leaf=p.leaf:=by
 unfold payF;split
 ·rfl
 ·split<;>rfl
section
variable {α:Type} [DecidableEq α]
def payS (S:Gr α)(v:α)(f:Pay->Pay):Gr α:=⟨S.kids,λz=>if z=v then f (S.pay z) else S.pay z⟩
inductive Fit (S:Gr α)(r x0:α)(o:OpT):Gr α->Prop
 |act (e:Eff α) (A:Act S r x0 o e) (hl: ∀v g x,e.into=some (v,g,x)->(S.pay v).leaf=false):Fit S r x0 o (e.on S)
 |pay (v:α) (hk:4≤o.kind∧o.kind≤6) (hv:res S r o.path=some v) (he:o.kind=6->(S.pay v).leaf=true∧(applyE (S.pay v).text o.pieces).2=0):Fit S r x0 o (payS S v (payF o))
omit [DecidableEq α] in
theorem Hp {S:Gr α}{u:α}{t:Tree}(h:Unf S u t):S.pay u=t.pay:=(Ci.1 h).1
omit [DecidableEq α] in
theorem Lw {S:Gr α}{u:α}{t:Tree}(h:Unf S u t):(S.kids u).length=t.subs.length:=Dz (Ci.1 h).2
theorem Id (t:Tree):t.pay.leaf=t.leaf:=by cases t;rfl
theorem Ach (t:Tree):t.pay.text=t.text:=by cases t;rfl
theorem Ajf {S:Gr α}{r:α}(x0:α){t:Tree}{o:OpT}(h:Unf S r t)(hg:GoodO t o): ∃S',Fit S r x0 o S':=by
 cases hg with
 |ins y hk hy hl h0 h1 h2=>
  obtain⟨v,hv,hvy⟩:=G7 h hy;refine⟨_,.act _ (.ins v hk hv h0 (by rw[Lw hvy];omega)) λv' g x e=> ?_⟩;injection e with e
  rw[←(Prod.mk.inj e).1,Hp hvy,Id,hl]
 |del x hk hne hx=>
  obtain⟨u,hu,_⟩:=G7 h hx;exact⟨_,.act _ (.del u hk hne hu) λv' g x e=>by cases e⟩
 |mov x z hk hne hx hw hz hl h0 h1=>
  obtain⟨u,hu,_⟩:=G7 h hx;obtain⟨v,hv,hvy⟩:=G7 h hz;refine⟨_,.act _ (.mov u v hk hne hw hu hv h0 (by rw[Lw hvy];omega)) λv' g x e=> ?_⟩;injection e with e
  rw[←(Prod.mk.inj e).1,Hp hvy,Id,hl]
 |att y hk hy h1 h2=>
  obtain⟨v,hv,hvy⟩:=G7 h hy;exact⟨_,.pay v (by omega) hv λhk6=>by omega⟩
 |lab y hk hy h2=>
  obtain⟨v,hv,hvy⟩:=G7 h hy;exact⟨_,.pay v (by omega) hv λhk6=>by omega⟩
 |edt y hk hy hl he=>
  obtain⟨v,hv,hvy⟩:=G7 h hy;exact⟨_,.pay v (by omega) hv λhk6=>by rw[Hp hvy,Id,Ach];exact⟨hl,he⟩⟩
theorem Af1 {y:Tree}{n:Int}(hl:y.leaf=false)(h:n≤y.subs.length):intoE y n=0:=by
 unfold intoE;rw[hl,decide_eq_false (by omega)];rfl
theorem Ajg {S S':Gr α}{r x0:α}{t:Tree}{o:OpT}(h:Unf S r t)(hr:rightT t=true)(hf:formedB o=true)(F:Fit S r x0 o S'):ValidE t o=0:=by
 unfold ValidE validE;rw[hr,hf];simp only[Arm,cond_false];cases F with
 |act e A hl=>
  cases A with
  |ins v hk hv h0 hg=>
   obtain⟨y,hy,hvy⟩:=E9 h hv;have hlf:=hl v _ _ rfl;rw[Hp hvy,Id] at hlf;rw[Lw hvy] at hg;rw[hy,show(decide (o.kind=2)||decide (o.kind=3))=false by simp[hk],decide_eq_true hk];exact Af1 hlf (by omega)
  |del u hk hne hu=>
   obtain⟨y,hy,_⟩:=E9 h hu;rw[hy,decide_eq_false hne];simp[hk]
  |mov u v hk hne hw hu hv h0 hg=>
   obtain⟨y,hy,_⟩:=E9 h hu;obtain⟨z,hz,hvz⟩:=E9 h hv;have hlf:=hl v _ _ rfl;rw[Hp hvz,Id] at hlf;rw[Lw hvz] at hg;rw[hy,hz,decide_eq_false hne,hw];simp[hk];exact Af1 hlf (by omega)
 |pay v hk hv he=>
  obtain⟨y,hy,hvy⟩:=E9 h hv;rw[hy,show(decide (o.kind=2)||decide (o.kind=3))=false by simp;omega,decide_eq_false (show ¬o.kind=1 by omega),decide_eq_false (show ¬o.kind=3 by omega)];simp only[Asy,cond_false]
  by_cases h6:o.kind=6
  ·have:=he h6;rw[Hp hvy,Id,Ach] at this;rw[decide_eq_true h6,this.1,this.2];rfl
  ·rw[decide_eq_false h6];rfl
theorem X0 {S S':Gr α}{r x0:α}{t:Tree}{o:OpT}(h:Unf S r t)(hn:(labs S r t).Nodup)(F:Fit S r x0 o S')(hf:formedB o=true)(hx:o.kind=1->Unf S x0 (freshT o)∧x0∉labs S r t):Became S' S r (applyT t o) t o x0:=by
 cases F with
 |act e A hl=>exact Af0 h hn A hf hx
 |pay v hk hv he=>
  obtain⟨y,hy,hvy⟩:=E9 h hv;have fin: ∀(F:Tree->Tree),(∀y,(F y).subs=y.subs)->(∀y,payF o y.pay=(F y).pay)->Became (payS S v (payF o)) S r (changeT F t o.path) t o x0:=by
   intro F hF hF2;have c:=Aok (S':=payS S v (payF o)) (F:=F) h hn hv hy (λz _=>rfl) (λz _ hz=>if_neg hz) (hF y) (by
    have:(payS S v (payF o)).pay v=payF o (S.pay v):=if_pos rfl;rw[this,Hp hvy];exact hF2 y)
   refine⟨c.1,?_,λz hz=>.inl ?_,λu s hk2=>by omega⟩
   ·rw[As6];intro z;rw[c.2 z];exact(As6.1 hn) z
   ·rw[←Aum] at hz ⊢;rw[c.2 z] at hz;exact hz
  unfold applyT;rw[decide_eq_false (show ¬o.kind=1 by omega),decide_eq_false (show ¬o.kind=2 by omega),decide_eq_false (show ¬o.kind=3 by omega)];simp only[cond_false]
  by_cases h4:o.kind=4
  ·rw[decide_eq_true h4];refine fin (setAT o) (λy=>by cases y;rfl) λy=> ?_;unfold payF;rw[if_pos h4];cases y;rfl
  ·rw[decide_eq_false h4,cond_false]
   by_cases h5:o.kind=5
   ·rw[decide_eq_true h5];refine fin (relabelT o.label) (λy=>by cases y;rfl) λy=> ?_;unfold payF;rw[if_neg h4,if_pos h5];cases y;rfl
   ·rw[decide_eq_false h5,cond_false];refine fin (retextT o.pieces) (λy=>by cases y;rfl) λy=> ?_;unfold payF;rw[if_neg h4,if_neg h5];cases y;rfl
end
section
variable {α:Type} [DecidableEq α]
theorem Aci {e:Eff α}{z m:α}{l:List α}(h:m∈e.kids z l):m∈l∨ ∃g,e.into=some (z,g,m):=by
 obtain⟨out,into⟩:=e;cases into with
 |none=>exact .inl (R0 h)
 |some q=>
  obtain⟨v,g,x⟩:=q;have h:m∈ (if z=v then putL out g x l else rmo out l):=h
  by_cases hz:z=v
  ·subst hz;rw[if_pos rfl] at h;unfold putL at h;rw[Asi,Arl] at h
   rcases h with h|h|h
   ·exact .inl (As0 (R0 h))
   ·subst h;exact .inr ⟨g,rfl⟩
   ·exact .inl (Asp (R0 h))
  ·rw[if_neg hz] at h;exact .inl (R0 h)
omit [DecidableEq α] in
theorem Af2 {S:Gr α}{u n m:α}{s:List Int}(h:res S u s=some n)(hm:m∈S.kids n): ∃s',res S u s'=some m:=by
 obtain⟨i,hi⟩:=Ar7 hm;exact⟨s++ [(i:Int)],by rw[Db,h];exact(Di i).trans hi⟩
theorem Kd {S:Gr α}{r x0 u:α}{o:OpT}{e:Eff α}(A:Act S r x0 o e)(hx:S.kids x0=[])(hx0: ∀p,res S r p≠some x0): ∀(n:Nat) (s:List Int) (m:α),s.length=n->res (e.on S) u s=some m->
  m=x0∨(∃s',res S u s'=some m)∨(o.kind=3∧ ∃w v s1 s2,res S r o.path=some w∧res S r o.to=some v∧res S u s1=some v∧res S w s2=some m)
 |0,s,m,hl,h=>by
  rw[Ard] at hl;subst hl;rw[res] at h;exact .inr (.inl ⟨[],h⟩)
 |n+1,s,m,hl,h=>by
  have hne:s≠[]:=λc=>by rw[c] at hl;cases hl
  rw[←G5 hne,Db] at h;cases hq:res (e.on S) u s.dropLast with
  |none=>rw[hq] at h;cases h
  |some y=>
   rw[hq] at h;have ih:=Kd A hx hx0 n s.dropLast y (by simp[hl]) hq;have hm:m∈e.kids y (S.kids y):=Aq7 (Mw (S:=e.on S) h).2
   rcases Aci hm with hm| ⟨g,hg⟩
   ·rcases ih with rfl| ⟨s',hs'⟩| ⟨h3,w,v,s1,s2,c1,c2,c3,c4⟩
    ·rw[hx] at hm;cases hm
    ·exact .inr (.inl (Af2 hs' hm))
    ·obtain⟨s3,hs3⟩:=Af2 c4 hm;exact .inr (.inr ⟨h3,w,v,s1,s3,c1,c2,c3,hs3⟩)
   ·cases A with
    |ins v hk hv h0 hgl=>
     injection hg with hg
     exact .inl (by simpa using(Prod.mk.inj (Prod.mk.inj hg).2).2.symm)
    |del w hk hne' hw=>cases hg
    |mov w v hk hne' hw hu hv h0 hgl=>
     injection hg with hg
     have e1:v=y:=(Prod.mk.inj hg).1;have e2:w=m:=(Prod.mk.inj (Prod.mk.inj hg).2).2;subst e1;subst e2
     rcases ih with rfl| ⟨s',hs'⟩| ⟨h3,w',v',s1,s2,c1,c2,c3,c4⟩
     ·exact absurd hv (hx0 _)
     ·exact .inr (.inr ⟨hk,w,v,s',[],hu,hv,hs',rfl⟩)
     ·rw[hv] at c2;injection c2 with c2
      subst c2;exact .inr (.inr ⟨hk,w,v,s1,[],hu,hv,c3,rfl⟩)
theorem Qt (o:Option α)(g:Nat)(l:List α):(rmo o l).length=(rmo o (l.take g)).length+ (rmo o (l.drop g)).length:=by
 conv=>lhs;rw[←Ar4 g l]
 rw[Cm,Arb]
theorem Ajh {S:Gr α}{e:Eff α}{z:α}{g:Nat}(first:Bool):e.gap S z g first≤((e.on S).kids z).length:=by
 obtain⟨out,into⟩:=e;unfold Eff.gap Eff.on Eff.kids;have h1:=Qt out g (S.kids z);cases into with
 |none=>
  simp only;omega
 |some q=>
  obtain⟨v,ga,x⟩:=q;simp only
  by_cases hz:z=v
  ·rw[if_pos hz,if_pos hz];have h2:=Qt out ga (S.kids z);have h3:after g ga first≤1:=by unfold after;split<;>omega
   unfold putL;rw[Arb,Aq8];omega
  ·rw[if_neg hz,if_neg hz];omega
theorem Qu {S:Gr α}{r xa xb:α}{t:Tree}{a b:OpT}{ea eb:Eff α}(first:Bool)(h:Unf S r t)(hn:(labs S r t).Nodup)(hm:movesO a=true)(A:Act S r xa a ea)(B:Act S r xb b eb)
  (hx:S.kids xa=[]) (hx0:xa∉labs S r t) (hd: ¬ (a.kind=2∧within a.path b.path=true)) (hd2: ¬ (a.kind=2∧b.kind=3∧within a.path b.to=true))
  (hc: ¬ (a.kind=3∧b.kind=3∧within b.path a.to=true∧within a.path b.to=true)):Act (ea.on S) r xb (shiftedO b a first) (eb.behind ea S first):=by
 have hx0': ∀p,res S r p≠some xa:=λp e=>hx0 (Bu h e);cases B with
 |ins v hk hv h0 hg=>
  obtain⟨p',q1,q2⟩:=D0 h hn A hm hv hd;have q3:=Afy first h hn A hm hv q1 h0 hg;have e1:shiftedO b a first= {b with at_:=(ea.gap S v b.at_.toNat first:Int),path:=p'}:=by
   unfold shiftedO;rw[decide_eq_true hk,cond_true,q3,q1];rfl
  rw[e1];exact .ins v hk q2 (Aq5 _) (Ajh first)
 |del u hk hne hu=>
  obtain⟨p',q1,q2⟩:=D0 h hn A hm hu hd;have e1:shiftedO b a first= {b with path:=p'}:=by
   unfold shiftedO;rw[decide_eq_false (show ¬b.kind=1 by omega),decide_eq_false (show ¬b.kind=3 by omega),q1];rfl
  rw[e1];refine .del u hk (λc=> ?_) q2;have c:p'=[]:=c;subst c;rw[res] at q2;injection q2 with q2
  subst q2;exact hne (B5 _ [] h hn hu rfl)
 |mov u v hk hne hw hu hv h0 hg=>
  obtain⟨p',q1,q2⟩:=D0 h hn A hm hu hd;obtain⟨p2,q4,q5⟩:=D0 h hn A hm hv λg=>hd2 ⟨g.1,hk,g.2⟩;have q3:=Afy first h hn A hm hv q4 h0 hg;have e1:shiftedO b a first= {b with to:=p2,at_:=(ea.gap S v b.at_.toNat first:Int),path:=p'}:=by
   unfold shiftedO;rw[decide_eq_false (show ¬b.kind=1 by omega),decide_eq_true hk,q3,q1];rfl
  rw[e1];refine .mov u v hk (λc=> ?_) ?_ q2 q5 (Aq5 _) (Ajh first)
  ·have c:p'=[]:=c;subst c;rw[res] at q2;injection q2 with q2
   subst q2;exact hne (B5 _ [] h hn hu rfl)
  ·show within p' p2=false;cases hc2:within p' p2 with
   |false=>rfl
   |true=>
    exfalso;obtain⟨s,hs⟩:=Cy hc2;subst hs;rw[Eu,q2] at q5
    rcases Kd A hx hx0' _ s v rfl q5 with c| ⟨s',c⟩| ⟨h3,w,va,s1,s2,c1,c2,c3,c4⟩
    ·subst c;exact hx0' _ hv
    ·have:res S r (b.path++s')=some v:=by rw[Eu,hu];exact c
     have:=B5 _ _ h hn this hv;rw[←this,Ho] at hw;cases hw
    ·refine hc ⟨h3,hk,?_,?_⟩
     ·have:res S r (b.path++s1)=some va:=by rw[Eu,hu];exact c3
      rw[←B5 _ _ h hn this c2,Ho]
     ·have:res S r (a.path++s2)=some v:=by rw[Eu,c1];exact c4
      rw[←B5 _ _ h hn this hv,Ho]
theorem Aeq {S:Gr α}{a b:Eff α}{first:Bool}{v x:α}{g:Nat}(h:(b.behind a S first).into=some (v,g,x)): ∃g',b.into=some (v,g',x):=by
 obtain⟨out,into⟩:=b;cases into with
 |none=>cases h
 |some q=>
  obtain⟨v',g',x'⟩:=q;have h:some (v',a.gap S v' g' first,x')=some (v,g,x):=h;injection h with h
  simp only[Prod.mk.injEq] at h;obtain⟨rfl,-,rfl⟩:=h;exact⟨g',rfl⟩
theorem Qv {S Sa Sb:Gr α}{r xa xb:α}{t:Tree}{a b:OpT}{ea eb:Eff α}(first:Bool)(h:Unf S r t)(hn:(labs S r t).Nodup)(hm:movesO a=true)(A:Act S r xa a ea)(hSa:Sa=ea.on S)(B:Act S r xb b eb)(hl: ∀v g x,eb.into=some (v,g,x)->(S.pay v).leaf=false)
  (hx:S.kids xa=[]) (hx0:xa∉labs S r t) (hd: ¬ (a.kind=2∧within a.path b.path=true)) (hd2: ¬ (a.kind=2∧b.kind=3∧within a.path b.to=true))
  (hc: ¬ (a.kind=3∧b.kind=3∧within b.path a.to=true∧within a.path b.to=true)) (hSb:Sb=(eb.behind ea S first).on Sa):Fit Sa r xb (shiftedO b a first) Sb:=by
 subst hSa;subst hSb;refine .act _ (Qu first h hn hm A B hx hx0 hd hd2 hc) λv g x e=> ?_;obtain⟨g',hg'⟩:=Aeq e;exact hl v g' x hg'
end
section
variable {α:Type} [DecidableEq α]
structure Sit (S:Gr α)(r xa xb:α)(t:Tree)(a b:OpT):Prop where
 unf:Unf S r t
 nodup:(labs S r t).Nodup
 ne:xa≠xb
 fa:Unf S xa (freshT a)
 fb:Unf S xb (freshT b)
 na:xa∉labs S r t
 nb:xb∉labs S r t
 va:ValidE t a=0
 vb:ValidE t b=0
omit [DecidableEq α] in
theorem Sit.swap {S:Gr α}{r xa xb:α}{t:Tree}{a b:OpT}(h:Sit S r xa xb t a b):Sit S r xb xa t b a:=⟨h.unf,h.nodup,h.ne.symm,h.fb,h.fa,h.nb,h.na,h.vb,h.va⟩
omit [DecidableEq α] in
theorem Fc {S:Gr α}{x:α}{o:OpT}(h:Unf S x (freshT o)):S.kids x=[]:=Ard.1 (Lw h)
theorem Sit.became {S Sa:Gr α}{r xa xb:α}{t:Tree}{a b:OpT}(h:Sit S r xa xb t a b)(F:Fit S r xa a Sa):Became Sa S r (applyT t a) t a xa:=
 X0 h.unf h.nodup F (An h.va).2.1 λ_=>⟨h.fa,h.na⟩
theorem Aer {S Sa:Gr α}{r xa xb:α}{t:Tree}{a b:OpT}(h:Sit S r xa xb t a b)(F:Fit S r xa a Sa):Unf Sa xb (freshT b)∧xb∉labs Sa r (applyT t a):=by
 have B:=h.became F;refine⟨?_,λhm=> ?_⟩
 ·have hk:=Fc h.fb;have hne: ∀p,res S r p≠some xb:=λp e=>h.nb (Bu h.unf e);have hfb:=Ci.1 h.fb;rw[Ci];have e:Sa.kids xb=[]∧Sa.pay xb=S.pay xb:=by
   cases F with
   |act e A hl=>
    refine⟨?_,rfl⟩;show e.kids xb (S.kids xb)=[];rw[hk];have: ∀m,m∉e.kids xb []:=λm hm=>by
     rcases Aci hm with c| ⟨g,c⟩
     ·cases c
     ·cases A with
      |ins v hk1 hv=>
       injection c with c
       exact hne _ ((Prod.mk.inj c).1▸hv)
      |del u=>cases c
      |mov u v hk1 h1 h2 hu hv=>
       injection c with c
       exact hne _ ((Prod.mk.inj c).1▸hv)
    exact List.eq_nil_iff_forall_not_mem.2 this
   |pay v hk1 hv=>
    refine⟨hk,if_neg λc=> ?_⟩;exact hne _ (c▸hv)
  rw[e.1,e.2];rw[hk] at hfb;refine⟨hfb.1,?_⟩;show Unfs Sa [] [];rw[Unfs];trivial
 ·rcases B.old xb hm with c| ⟨_,c⟩
  ·exact h.nb c
  ·exact h.ne c.symm
theorem Ub {S S':Gr α}{r x0:α}{t:Tree}{o:OpT}{i:Nat}{l:List OpT}(h:Unf S r t)(hr:rightT t=true)(hf:formedB o=true)(F:Fit S r x0 o S'):allR t (o::l) i=allR (applyT t o) l (i+1)∧rightT (applyT t o)=true:=by
 have hv:=Ajg h hr hf F;refine⟨?_,Ds hv⟩;rw[allR,decide_eq_true hv];rfl
def Comes (t:Tree)(l:List OpT)(T:Tree):Prop:= ∃i,allR t l 0=(T,i,0)
def Meet (t:Tree)(a b:OpT)(p q:List OpT):Prop:= ∃T,Comes (applyT t b) p T∧Comes (applyT t a) q T
theorem Meet.swap {t:Tree}{a b:OpT}{p q:List OpT}(h:Meet t a b p q):Meet t b a q p:=by
 obtain⟨T,h1,h2⟩:=h;exact⟨T,h2,h1⟩
theorem B0 (t:Tree):Comes t [] t:=⟨0,by rw[allR]⟩
theorem Sit.after {S Sa Sab:Gr α}{r xa xb:α}{t:Tree}{a b b':OpT}(h:Sit S r xa xb t a b)(F:Fit S r xa a Sa)(F':Fit Sa r xb b' Sab)(hf:formedB b'=true)(he:freshT b'=freshT b):
  Comes (applyT t a) [b'] (applyT (applyT t a) b')∧Became Sab Sa r (applyT (applyT t a) b') (applyT t a) b' xb∧rightT (applyT (applyT t a) b')=true:=by
 have B:=h.became F;have o:=Ub (i:=0) (l:=[]) B.unf (Ds h.va) hf F';have fr:=Aer h F;refine⟨⟨1,by rw[o.1,allR]⟩,X0 B.unf B.nodup F' hf λ_=>⟨he▸fr.1,fr.2⟩,o.2⟩
omit [DecidableEq α] in
theorem Du {S S':Gr α}{r:α}{t t':Tree}(h:Unf S r t)(h':Unf S' r t')(ag: ∀z∈labs S r t,S'.kids z=S.kids z∧S'.pay z=S.pay z):t=t':=
 Aoj t r t' ((Qp t r ag).1 h) h'
theorem D2 (b a:OpT)(f:Bool):freshT (shiftedO b a f)=freshT b:=by
 unfold shiftedO;cases decide (b.kind=1)<;>cases decide (b.kind=3)<;>rfl
omit [DecidableEq α] in
theorem Ee {S:Gr α}{r x0:α}{o:OpT}{e:Eff α}(A:Act S r x0 o e)(hf:formedB o=true):movesO o=true:=by
 unfold movesO;rw[hf];cases A with
 |ins v hk=>simp[hk]
 |del u hk hne=>
  have:=Arw.2 hne;simp[hk,this]
 |mov u v hk hne hw=>
  have:=Arw.2 hne;simp[hk,this,hw]
theorem Ame {S:Gr α}{r xa xb:α}{t:Tree}{a b:OpT}{ea eb:Eff α}(prior:Bool)(h:Sit S r xa xb t a b)(A:Act S r xa a ea)(B:Act S r xb b eb)
  (la: ∀v g x,ea.into=some (v,g,x)->(S.pay v).leaf=false) (lb: ∀v g x,eb.into=some (v,g,x)->(S.pay v).leaf=false)
  (h1: ∀v g x,eb.into=some (v,g,x)->ea.out≠some x) (h2: ∀v g x,ea.into=some (v,g,x)->eb.out≠some x)
  (d1: ¬ (a.kind=2∧within a.path b.path=true)) (d2: ¬ (a.kind=2∧b.kind=3∧within a.path b.to=true))
  (d3: ¬ (b.kind=2∧within b.path a.path=true)) (d4: ¬ (b.kind=2∧a.kind=3∧within b.path a.to=true))
  (hc: ¬ (a.kind=3∧b.kind=3∧within b.path a.to=true∧within a.path b.to=true))
  (f1:formedB (shiftedO b a prior)=true) (f2:formedB (shiftedO a b (!prior))=true):Meet t a b [shiftedO a b (!prior)] [shiftedO b a prior]:=by
 have Fa:Fit S r xa a (ea.on S):=.act ea A la;have Fb:Fit S r xb b (eb.on S):=.act eb B lb;have Fab:=Qv (Sb:=(eb.behind ea S prior).on (ea.on S)) prior h.unf h.nodup (Ee A (An h.va).2.1) A rfl B lb (Fc h.fa) h.na d1 d2 hc rfl;have Fba:=Qv (Sb:=(ea.behind eb S (!prior)).on (eb.on S)) (!prior) h.unf h.nodup (Ee B (An h.vb).2.1) B rfl A la (Fc h.fb) h.nb d3 d4 (λc=>hc ⟨c.2.1,c.1,c.2.2.2,c.2.2.1⟩) rfl;rw[←Ag5 S ea eb prior h1 h2] at Fba;have c1:=h.after Fa Fab f1 (D2 ..);have c2:=h.swap.after Fb Fba f2 (D2 ..);have e:=Du c1.2.1.unf c2.2.1.unf λz _=>⟨rfl,rfl⟩;exact⟨_,c2.1,e▸c1.1⟩
end
theorem O8: ∀ {l l':AttrL} {k k':Option (List UInt8)},attrsOk k l=true->attrsOk k' l'=true->(∀x,x∈l↔x∈l')->l=l'
 | [],[],_,_,_,_,_=>rfl
 | [],b::l',_,_,_,_,h=>by
  have:=(h b).2 (by simp);cases this
 |a::l,[],_,_,_,_,h=>by
  have:=(h a).1 (by simp);cases this
 |a::l,b::l',_,_,h1,h2,h=>by
  have t1:=G2 (Cw h1);have t2:=G2 (Cw h2);have hab:a=b:=by
   rcases Arl.1 ((h a).1 (by simp)) with e|e
   ·exact e
   ·rcases Arl.1 ((h b).2 (by simp)) with e'|e'
    ·exact e'.symm
    ·have c:=F9 (t1 b e') (t2 a e);rw[Fj] at c;cases c
  subst hab
  congr 1
  refine O8 (Cw h1) (Cw h2) λx=>⟨λhx=> ?_,λhx=> ?_⟩
  ·rcases Arl.1 ((h x).1 (by simp[hx])) with e|e
   ·have:=t1 x hx;rw[e,Fj] at this;cases this
   ·exact e
  ·rcases Arl.1 ((h x).2 (by simp[hx])) with e|e
   ·have:=t2 x hx;rw[e,Fj] at this;cases this
   ·exact e
theorem Ack (o:OpT)(x:List UInt8×List UInt8): ∀(l:AttrL) (done:Bool),x∈refA o done l↔ (x∈l∧x.1≠o.key)∨(done=false∧x=(o.key,o.value))
 | [],done=>by
  rw[refA];cases done<;>simp
 |a::l,done=>by
  rw[refA,Asi,Asi,Ack o x l];have h1:x∈ (bif decide (a.1=o.key) then [] else [a]) ↔x=a∧x.1≠o.key:=by
   by_cases e:a.1=o.key
   ·rw[decide_eq_true e];simp only[cond_true,Av5,false_iff];rintro⟨rfl,c⟩;exact c e
   ·rw[decide_eq_false e];simp only[cond_false,Ar5];refine⟨λc=>⟨c,c▸e⟩,λc=>c.1⟩
  have h2:x∈ (bif !done&& !Op.bytesLess a.1 o.key then [(o.key,o.value)] else []) ↔ (done=false∧Op.bytesLess a.1 o.key=false∧x=(o.key,o.value)):=by
   cases done<;>cases Op.bytesLess a.1 o.key<;>simp
  have h3:((done|| !Op.bytesLess a.1 o.key)=false) ↔ (done=false∧ ¬Op.bytesLess a.1 o.key=false):=by
   cases done<;>cases Op.bytesLess a.1 o.key<;>simp
  rw[h1,h2,h3,Arl];have taut: ∀P Q K D E N:Prop,((D∧E∧N)∨(P∧ ¬K)∨(Q∧ ¬K)∨((D∧ ¬E)∧N)) ↔ ((P∨Q)∧ ¬K)∨(D∧N):=by
   intro P Q K D E N
   by_cases P<;>by_cases Q<;>by_cases K<;>by_cases D<;>by_cases E<;>by_cases N<;>simp[*]
  exact taut _ _ _ _ _ _
theorem Ie {o:OpT}{l:AttrL}{k0:Option (List UInt8)}(h:attrsOk k0 l=true)(x:List UInt8×List UInt8):x∈setA o l↔ (x∈l∧x.1≠o.key)∨(o.gone=false∧x=(o.key,o.value)):=by
 rw[←Mb o h,Ack]
theorem Jz {o:OpT}{l:AttrL}(h:attrsOk none l=true)(hk:keyOk o.key=true)(hv:o.gone=true∨o.value.length≤256):attrsOk none (setA o l)=true:=by
 rw[←Mb o h];cases hg:o.gone with
 |true=>exact G4 o h
 |false=>
  rcases hv with c|c
  ·rw[hg] at c;cases c
  ·exact K6 o hk c h rfl
theorem Aji {a b:OpT}{l:AttrL}(h:attrsOk none l=true)(ka:keyOk a.key=true)(va:a.gone=true∨a.value.length≤256)(kb:keyOk b.key=true)(vb:b.gone=true∨b.value.length≤256)(hne:a.key≠b.key):setA b (setA a l)=setA a (setA b l):=by
 have ha:=Jz h ka va;have hb:=Jz h kb vb;refine O8 (Jz ha kb vb) (Jz hb ka va) λx=> ?_;rw[Ie ha,Ie hb,Ie h,Ie h];constructor
 ·rintro(⟨⟨c1,c2⟩| ⟨c1,c2⟩,c3⟩| ⟨c1,c2⟩)
  ·exact .inl ⟨.inl ⟨c1,c3⟩,c2⟩
  ·exact .inr ⟨c1,c2⟩
  ·exact .inl ⟨.inr ⟨c1,c2⟩,by rw[c2];exact hne.symm⟩
 ·rintro(⟨⟨c1,c2⟩| ⟨c1,c2⟩,c3⟩| ⟨c1,c2⟩)
  ·exact .inl ⟨.inl ⟨c1,c3⟩,c2⟩
  ·exact .inr ⟨c1,c2⟩
  ·exact .inl ⟨.inr ⟨c1,c2⟩,by rw[c2];exact hne⟩
theorem Vz {a b:OpT}{l:AttrL}(h:attrsOk none l=true)(ka:keyOk a.key=true)(va:a.gone=true∨a.value.length≤256)(vb:b.gone=true∨b.value.length≤256)(he:a.key=b.key):setA b (setA a l)=setA b l:=by
 have ha:=Jz h ka va;refine O8 (Jz ha (he▸ka) vb) (Jz h (he▸ka) vb) λx=> ?_;rw[Ie ha,Ie h,Ie h,he];constructor
 ·rintro(⟨⟨c1,c2⟩| ⟨c1,c2⟩,c3⟩|c)
  ·exact .inl ⟨c1,c3⟩
  ·exact absurd (by rw[c2]) c3
  ·exact .inr c
 ·rintro(⟨c1,c2⟩|c)
  ·exact .inl ⟨.inl ⟨c1,c2⟩,c2⟩
  ·exact .inr c
theorem Me {o:OpT}(h:4≤o.kind∧o.kind≤6):movesO o=false:=by
 unfold movesO;rw[decide_eq_false (show ¬o.kind=1 by omega),decide_eq_false (show ¬o.kind=2 by omega),decide_eq_false (show ¬o.kind=3 by omega)];simp
theorem Gj {a b:OpT}(f:Bool)(h:movesO a=false):shiftedO b a f=b:=by
 have hg: ∀p g,gapP a p g f=(p,g,true):=λp g=>by
  unfold gapP;rw[Vr p h];simp only[h,Ash,cond_true]
 unfold shiftedO;rw[hg,hg,Vr _ h];cases decide (b.kind=1)<;>cases decide (b.kind=3)<;>(cases b;rfl)
theorem Aes {a b:OpT}{p':List Int}(f:Bool)(hk:4≤b.kind∧b.kind≤6)(h:nodeP a b.path=some p'):shiftedO b a f= {b with path:=p'}:=by
 unfold shiftedO;rw[decide_eq_false (show ¬b.kind=1 by omega),decide_eq_false (show ¬b.kind=3 by omega),h];rfl
section
variable {α:Type} [DecidableEq α]
theorem Iu (S:Gr α)(v:α)(f:Pay->Pay): ∀(p:List Int) (u:α),res (payS S v f) u p=res S u p
 | [],_=>rfl
 |i::p,u=>by
  rw[res,res];have:kidS (payS S v f) u i=kidS S u i:=rfl;rw[this];cases kidS S u i with
  |none=>rfl
  |some w=>exact Iu S v f p w
theorem Af3 {S:Gr α}{r x0 v:α}{o:OpT}{e:Eff α}{f:Pay->Pay}(A:Act S r x0 o e):Act (payS S v f) r x0 o e:=by
 cases A with
 |ins w hk hv h0 hg=>exact .ins w hk (by rw[Iu];exact hv) h0 hg
 |del u hk hne hu=>exact .del u hk hne (by rw[Iu];exact hu)
 |mov u w hk hne hw hu hv h0 hg=>exact .mov u w hk hne hw (by rw[Iu];exact hu) (by rw[Iu];exact hv) h0 hg
theorem Sv (S:Gr α)(v z:α)(o:OpT):((payS S v (payF o)).pay z).leaf=(S.pay z).leaf:=by
 show(if z=v then payF o (S.pay z) else S.pay z).leaf=_;split
 ·exact Qs o _
 ·rfl
theorem Amf {S:Gr α}{r xa xb v:α}{t:Tree}{a b:OpT}{ea:Eff α}(prior:Bool)(h:Sit S r xa xb t a b)(A:Act S r xa a ea)(la: ∀v g x,ea.into=some (v,g,x)->(S.pay v).leaf=false)
  (hk:4≤b.kind∧b.kind≤6) (hv:res S r b.path=some v) (he:b.kind=6->(S.pay v).leaf=true∧(applyE (S.pay v).text b.pieces).2=0) (d1: ¬ (a.kind=2∧within a.path b.path=true)) (f1:formedB (shiftedO b a prior)=true):
  Meet t a b [shiftedO a b (!prior)] [shiftedO b a prior]:=by
 have Fa:Fit S r xa a (ea.on S):=.act ea A la;have Fb:Fit S r xb b (payS S v (payF b)):=.pay v hk hv he;have hfa:=(An h.va).2.1;obtain⟨p',q1,q2⟩:=D0 h.unf h.nodup A (Ee A hfa) hv d1;have e1:=Aes prior hk q1;have Fab:Fit (ea.on S) r xb (shiftedO b a prior) (payS (ea.on S) v (payF b)):=by
  rw[e1];exact .pay (o:= {b with path:=p'}) v hk q2 he
 have e2:shiftedO a b (!prior)=a:=Gj _ (Me hk);have Fba:Fit (payS S v (payF b)) r xa (shiftedO a b (!prior)) (ea.on (payS S v (payF b))):=by
  rw[e2];exact .act ea (Af3 A) λw g x e=>by rw[Sv];exact la w g x e
 have c1:=h.after Fa Fab f1 (D2 ..);have c2:=h.swap.after Fb Fba (by rw[e2];exact hfa) (D2 ..);have e:=Du c1.2.1.unf c2.2.1.unf λz _=>⟨rfl,rfl⟩;exact⟨_,c2.1,e▸c1.1⟩
theorem Uc {S:Gr α}{r xb v w:α}{a b:OpT}(ka:4≤a.kind∧a.kind≤6)(kb:4≤b.kind∧b.kind≤6)(hw:res S r b.path=some w)(he:b.kind=6->(S.pay w).leaf=true∧(applyE (S.pay w).text b.pieces).2=0)(hne:b.kind=6->a.kind=6->w≠v):
  Fit (payS S v (payF a)) r xb b (payS (payS S v (payF a)) w (payF b)):=by
 refine .pay w kb (by rw[Iu];exact hw) λh6=> ?_;rw[Sv];refine⟨(he h6).1,?_⟩;have:((payS S v (payF a)).pay w).text=(S.pay w).text:=by
  show(if w=v then payF a (S.pay w) else S.pay w).text=_;split
  ·rename_i hwv;unfold payF;split
   ·rfl
   ·split
    ·rfl
    ·exact absurd hwv (hne h6 (by omega))
  ·rfl
 rw[this];exact(he h6).2
theorem Amg {S:Gr α}{r xa xb v w:α}{t:Tree}{a b:OpT}(prior:Bool)(h:Sit S r xa xb t a b)(ka:4≤a.kind∧a.kind≤6)(kb:4≤b.kind∧b.kind≤6)(hv:res S r a.path=some v)(hw:res S r b.path=some w)
  (ha:a.kind=6->(S.pay v).leaf=true∧(applyE (S.pay v).text a.pieces).2=0) (hb:b.kind=6->(S.pay w).leaf=true∧(applyE (S.pay w).text b.pieces).2=0) (hne:b.kind=6->a.kind=6->w≠v)
  (hc:w=v->payF b (payF a (S.pay v))=payF a (payF b (S.pay v))):Meet t a b [shiftedO a b (!prior)] [shiftedO b a prior]:=by
 have Fa:Fit S r xa a (payS S v (payF a)):=.pay v ka hv ha;have Fb:Fit S r xb b (payS S w (payF b)):=.pay w kb hw hb;have e1:shiftedO b a prior=b:=Gj _ (Me ka);have e2:shiftedO a b (!prior)=a:=Gj _ (Me kb);rw[e1,e2];have c1:=h.after Fa (Uc ka kb hw hb hne) (An h.vb).2.1 rfl;have c2:=h.swap.after Fb (Uc kb ka hv ha λx y z=>hne y x z.symm) (An h.va).2.1 rfl;have e:=Du c1.2.1.unf c2.2.1.unf λz _=>by
  refine⟨rfl,?_⟩;show(if z=v then payF a (if z=w then payF b (S.pay z) else S.pay z) else if z=w then payF b (S.pay z) else S.pay z)=(if z=w then payF b (if z=v then payF a (S.pay z) else S.pay z) else if z=v then payF a (S.pay z) else S.pay z)
  by_cases zv:z=v<;>by_cases zw:z=w
  ·subst zv;subst zw;simp only[if_pos];exact(hc rfl).symm
  ·simp only[if_pos zv,if_neg zw]
  ·simp only[if_neg zv,if_pos zw]
  ·simp only[if_neg zv,if_neg zw]
 exact⟨_,c2.1,e▸c1.1⟩
theorem Acl {S:Gr α}{r xa xb v:α}{t:Tree}{a b:OpT}(h:Sit S r xa xb t a b)(ka:4≤a.kind∧a.kind≤6)(kb:4≤b.kind∧b.kind≤5)(hv:res S r a.path=some v)(hw:res S r b.path=some v)
  (ha:a.kind=6->(S.pay v).leaf=true∧(applyE (S.pay v).text a.pieces).2=0) (hc:payF b (payF a (S.pay v))=payF b (S.pay v)) (prior:Bool):Meet t a b [] [shiftedO b a prior]:=by
 have Fa:Fit S r xa a (payS S v (payF a)):=.pay v ka hv ha;have Fb:Fit S r xb b (payS S v (payF b)):=.pay v (by omega) hw λc=>by omega
 have e1:shiftedO b a prior=b:=Gj _ (Me ka);rw[e1];have c1:=h.after Fa (Uc ka (by omega) hw (λc=>by omega) λc=>by omega) (An h.vb).2.1 rfl;have c2:=h.swap.became Fb;have e:=Du c1.2.1.unf c2.unf λz _=>by
  refine⟨rfl,?_⟩;show(if z=v then payF b (S.pay z) else S.pay z)=(if z=v then payF b (if z=v then payF a (S.pay z) else S.pay z) else if z=v then payF a (S.pay z) else S.pay z)
  by_cases zv:z=v
  ·subst zv;simp only[if_pos];exact hc.symm
  ·simp only[if_neg zv]
 exact⟨_,B0 _,e▸c1.1⟩
theorem Acm {S Sb:Gr α}{r xa xb u:α}{t s:Tree}{a b a':OpT}(h:Sit S r xa xb t a b)(hk:a.kind=2)(hne:a.path≠[])(hu:res S r a.path=some u)(hs:atT t a.path=some s)(Fb:Fit S r xb b Sb)
  (Fa':Fit Sb r xa a' (delS Sb u)) (hf:formedB a'=true) (he:freshT a'=freshT a) (ag: ∀z∈labs S r t,z∉labs S u s->rm u (Sb.kids z)=rm u (S.kids z)∧Sb.pay z=S.pay z):Meet t a b [a'] []:=by
 have Fa:Fit S r xa a (Eff.on ⟨some u,none⟩ S):=.act _ (.del u hk hne hu) λv g x e=>by cases e
 have B:=h.became Fa;have c2:=h.swap.after Fb Fa' hf he;have e:=Du B.unf c2.2.1.unf λz hz=>by
  have hz1:z∈labs S r t:=by
   rcases B.old z hz with c| ⟨c,_⟩
   ·exact c
   ·omega
  exact ag z hz1 (B.gone u s hk hu hs z hz)
 exact⟨_,e▸c2.1,B0 _⟩
end
section
variable {α:Type} [DecidableEq α]
theorem R3 (u:α)(g:Nat)(l:List α):rmo (some u) (putL (some u) g u l)=rmo (some u) l:=by
 unfold putL;rw[Cm,O5,Ct,Ct,←Cm,Ar4]
theorem Apx (u:α)(g:Nat)(l:List α):putL (some u) (rmo (some u) (l.take g)).length u (rmo (some u) l)=putL (some u) g u l:=by
 have c:=R1 (some u) g l;unfold putL;rw[c.1,c.2,Ct,Ct]
theorem Ajj (S:Gr α)(u va vb:α)(ga gb:Nat)(first:Bool):
  (Eff.behind ⟨some u,some (vb,gb,u)⟩ ⟨some u,some (va,ga,u)⟩ S first).on (Eff.on ⟨some u,some (va,ga,u)⟩ S)=Eff.on ⟨some u,some (vb,gb,u)⟩ S:=by
 refine Ajc (λz=> ?_) λ_=>rfl;simp only[Eff.on,Eff.behind,Eff.kids,Eff.gap]
 by_cases ha:z=va<;>by_cases hb:z=vb
 ·subst ha;subst hb;simp only[if_pos];exact Ajd first
 ·simp only[if_pos ha,if_neg hb];exact R3 _ _ _
 ·subst hb;simp only[if_pos,if_neg ha];exact Apx _ _ _
 ·simp only[if_neg ha,if_neg hb];exact Ct _ _
theorem V0 {S:Gr α}{r xa xb:α}{t:Tree}{a b:OpT}{ea eb:Eff α}(prior:Bool)(h:Sit S r xa xb t a b)(A:Act S r xa a ea)(B:Act S r xb b eb)(ka:a.kind=3)(kb:b.kind=3)(hp:a.path=b.path)
  (la: ∀v g x,ea.into=some (v,g,x)->(S.pay v).leaf=false) (lb: ∀v g x,eb.into=some (v,g,x)->(S.pay v).leaf=false) (f1:formedB (shiftedO b a prior)=true):Meet t a b [] [shiftedO b a prior]:=by
 have Fa:Fit S r xa a (ea.on S):=.act ea A la;have Fb:Fit S r xb b (eb.on S):=.act eb B lb;have Fab:Fit (ea.on S) r xb (shiftedO b a prior) ((eb.behind ea S prior).on (ea.on S)):=by
  refine Qv prior h.unf h.nodup (Ee A (An h.va).2.1) A rfl B lb (Fc h.fa) h.na (λc=>by omega) (λc=>by omega) (λc=> ?_) rfl;cases A with
  |ins v hk=>omega
  |del u hk=>omega
  |mov u v hk hne hw=>
   have:=c.2.2.1;rw[←hp,hw] at this;cases this
 have e:(eb.behind ea S prior).on (ea.on S)=eb.on S:=by
  cases A with
  |ins v hk=>omega
  |del u hk=>omega
  |mov u v hk hne hw hu hv h0 hg=>
   cases B with
   |ins v hk=>omega
   |del u hk=>omega
   |mov u' v' hk' hne' hw' hu' hv' h0' hg'=>
    rw[←hp,hu] at hu';injection hu' with hu'
    subst hu';exact Ajj S u v v' _ _ prior
 rw[e] at Fab;have c1:=h.after Fa Fab f1 (D2 ..);have c2:=h.swap.became Fb;have e:=Du c1.2.1.unf c2.unf λz _=>⟨rfl,rfl⟩;exact⟨_,B0 _,e▸c1.1⟩
omit [DecidableEq α] in
theorem Kw {S:Gr α}{r u v:α}{t s:Tree}{p q:List Int}(h:Unf S r t)(hu:res S r p=some u)(hs:atT t p=some s)(hv:res S r q=some v)(hw:within p q=true):v∈labs S u s:=by
 obtain⟨q',rfl⟩:=Cy hw;rw[Eu,hu] at hv;obtain⟨s',hs',hus⟩:=E9 h hu;rw[hs] at hs';injection hs' with hs'
 subst hs';exact Bu hus hv
omit [DecidableEq α] in
theorem Mf {S:Gr α}{r u w z:α}{t s:Tree}{p q:List Int}(h:Unf S r t)(hn:(labs S r t).Nodup)(hu:res S r p=some u)(hs:atT t p=some s)(hv:res S r q=some w)(hw:within p q=true)(hne:p≠q)(hz:z∈labs S r t)(hm:w∈S.kids z):z∈labs S u s:=by
 obtain⟨q',rfl⟩:=Cy hw;have hq:q'≠[]:=λc=>hne (by rw[c,Asc]);rw[←G5 hq,←Arz,Db] at hv;cases hf:res S r (p++q'.dropLast) with
 |none=>rw[hf] at hv;cases hv
 |some f=>
  rw[hf] at hv;obtain⟨i,hi⟩:=Ar7 hm;have:=(E8 h hn hz (Bu h hf) hi (Mw (S:=S) hv).2).1;subst this;exact Kw h hu hs hf (Ho _ _)
end
section
variable {α:Type} [DecidableEq α]
theorem Mg {S:Gr α}{r xa xb u:α}{t s:Tree}{a b:OpT}{eb:Eff α}(f:Bool)(h:Sit S r xa xb t a b)(hk:a.kind=2)(hne:a.path≠[])(hu:res S r a.path=some u)(hs:atT t a.path=some s)(B:Act S r xb b eb)
  (lb: ∀v g x,eb.into=some (v,g,x)->(S.pay v).leaf=false) (d3: ¬ (b.kind=2∧within b.path a.path=true)) (f2:formedB (shiftedO a b f)=true)
  (ag: ∀z∈labs S r t,z∉labs S u s->rm u (eb.kids z (S.kids z))=rm u (S.kids z)):Meet t a b [shiftedO a b f] []:=by
 have Fb:Fit S r xb b (eb.on S):=.act eb B lb;have A:Act S r xa a ⟨some u,none⟩:=.del u hk hne hu;have A':=Qu f h.unf h.nodup (Ee B (An h.vb).2.1) B A (Fc h.fb) h.nb d3 (λc=>by omega) (λc=>by omega);have Fa':Fit (eb.on S) r xa (shiftedO a b f) (delS (eb.on S) u):=.act _ A' λv g x e=>by cases e
 exact Acm h hk hne hu hs Fb Fa' f2 (D2 ..) λz hz hzs=>⟨ag z hz hzs,rfl⟩
theorem Acn {S:Gr α}{r xa xb u v:α}{t s:Tree}{a b:OpT}(f:Bool)(h:Sit S r xa xb t a b)(hk:a.kind=2)(hne:a.path≠[])(hu:res S r a.path=some u)(hs:atT t a.path=some s)
  (kb:4≤b.kind∧b.kind≤6) (hv:res S r b.path=some v) (he:b.kind=6->(S.pay v).leaf=true∧(applyE (S.pay v).text b.pieces).2=0) (hw:within a.path b.path=true):Meet t a b [shiftedO a b f] []:=by
 have Fb:Fit S r xb b (payS S v (payF b)):=.pay v kb hv he;have A:Act S r xa a ⟨some u,none⟩:=.del u hk hne hu;have e2:shiftedO a b f=a:=Gj _ (Me kb);rw[e2];have Fa':Fit (payS S v (payF b)) r xa a (delS (payS S v (payF b)) u):=.act _ (Af3 A) λv g x e=>by cases e
 have hvm:=Kw h.unf hu hs hv hw;exact Acm h hk hne hu hs Fb Fa' (An h.va).2.1 rfl λz hz hzs=>⟨rfl,if_neg λc:z=v=>hzs (c▸hvm)⟩
theorem Aco {S:Gr α}{r xa xb u:α}{t s:Tree}{a b:OpT}{eb:Eff α}(f:Bool)(h:Sit S r xa xb t a b)(hk:a.kind=2)(hne:a.path≠[])(hu:res S r a.path=some u)(hs:atT t a.path=some s)(B:Act S r xb b eb)(kb:b.kind=1)
  (lb: ∀v g x,eb.into=some (v,g,x)->(S.pay v).leaf=false) (f2:formedB (shiftedO a b f)=true) (hw:within a.path b.path=true):Meet t a b [shiftedO a b f] []:=by
 refine Mg f h hk hne hu hs B lb (λc=>by omega) f2 λz hz hzs=> ?_;cases B with
 |ins v hk1 hv h0 hg=>
  have hvm:=Kw h.unf hu hs hv hw;have:(Eff.kids ⟨none,some (v,b.at_.toNat,xb)⟩ z (S.kids z))=S.kids z:=if_neg λc:z=v=>hzs (c▸hvm);rw[this]
 |del u hk1=>omega
 |mov u v hk1=>omega
theorem Qw {S:Gr α}{r xa xb u:α}{t s:Tree}{a b:OpT}{eb:Eff α}(f:Bool)(h:Sit S r xa xb t a b)(hk:a.kind=2)(hne:a.path≠[])(hu:res S r a.path=some u)(hs:atT t a.path=some s)(B:Act S r xb b eb)(kb:b.kind=2)
  (lb: ∀v g x,eb.into=some (v,g,x)->(S.pay v).leaf=false) (f2:formedB (shiftedO a b f)=true) (hw:within a.path b.path=true) (hp:a.path≠b.path):Meet t a b [shiftedO a b f] []:=by
 refine Mg f h hk hne hu hs B lb (λc=>hp ?_) f2 λz hz hzs=> ?_
 ·have h1:=Hm hw;have h2:=Hm c.2;obtain⟨q,hq⟩:=Cy hw;have:q=[]:=Ard.1 (by have:=congrArg List.length hq;simp at this;omega);rw[this,Asc] at hq;exact hq.symm
 cases B with
 |ins v hk1=>omega
 |mov u v hk1=>omega
 |del w hk1 hne1 hw1=>
  have:(Eff.kids ⟨some w,none⟩ z (S.kids z))=S.kids z:=Dj λhm=>hzs (Mf h.unf h.nodup hu hs hw1 hw hp hz hm);rw[this]
theorem Aa0 {S:Gr α}{r xa xb u:α}{t:Tree}{a b:OpT}(h:Sit S r xa xb t a b)(hk:a.kind=2)(hne:a.path≠[])(hu:res S r a.path=some u)(kb:b.kind=2)(hp:a.path=b.path):Meet t a b [] []:=by
 have Fa:Fit S r xa a (Eff.on ⟨some u,none⟩ S):=.act _ (.del u hk hne hu) λv g x e=>by cases e
 have Fb:Fit S r xb b (Eff.on ⟨some u,none⟩ S):=.act _ (.del u kb (hp▸hne) (hp▸hu)) λv g x e=>by cases e
 have e:=Du (h.became Fa).unf (h.swap.became Fb).unf λz _=>⟨rfl,rfl⟩;exact⟨_,B0 _,e▸B0 _⟩
theorem Acp {S:Gr α}{r xa xb u:α}{t s:Tree}{a b:OpT}{eb:Eff α}(f:Bool)(h:Sit S r xa xb t a b)(hk:a.kind=2)(hne:a.path≠[])(hu:res S r a.path=some u)(hs:atT t a.path=some s)(B:Act S r xb b eb)(kb:b.kind=3)
  (lb: ∀v g x,eb.into=some (v,g,x)->(S.pay v).leaf=false) (f2:formedB (shiftedO a b f)=true) (hw:within a.path b.path=true) (hp:a.path=b.path∨within a.path b.to=true):Meet t a b [shiftedO a b f] []:=by
 refine Mg f h hk hne hu hs B lb (λc=>by omega) f2 λz hz hzs=> ?_;cases B with
 |ins v hk1=>omega
 |del w hk1=>omega
 |mov w v hk1 hne1 hww hw1 hv h0 hg=>
  by_cases e:a.path=b.path
  ·rw[←e,hu] at hw1;injection hw1 with hw1
   subst hw1;show rm u (if z=v then putL (some u) b.at_.toNat u (S.kids z) else rmo (some u) (S.kids z))=_;split
   ·exact R3 u _ _
   ·exact Ct (some u) _
  ·have hvm:=Kw h.unf hu hs hv (hp.resolve_left e);have:(Eff.kids ⟨some w,some (v,b.at_.toNat,w)⟩ z (S.kids z))=rmo (some w) (S.kids z):=if_neg λc:z=v=>hzs (c▸hvm);rw[this,show rmo (some w) (S.kids z)=S.kids z from Dj λhm=>hzs (Mf h.unf h.nodup hu hs hw1 hw e hz hm)]
end
section
variable {α:Type} [DecidableEq α]
theorem O9 {S1 S2:Gr α}{r x:α}{t1:Tree}{o:OpT}(h:Unf S1 r t1)(hn:(labs S1 r t1).Nodup)(hr:rightT t1=true)(hf:formedB o=true)(F:Fit S1 r x o S2)(hk:o.kind≠1):
  (∀l i,allR t1 (o::l) i=allR (applyT t1 o) l (i+1))∧Became S2 S1 r (applyT t1 o) t1 o x∧rightT (applyT t1 o)=true:=
 ⟨λ_ _=>(Ub h hr hf F).1,X0 h hn F hf λc=>absurd c hk,(Ub (i:=0) (l:=[]) h hr hf F).2⟩
omit [DecidableEq α] in
theorem Ud {S:Gr α}{r x w:α}{p:List Int}(hw:res S r p=some w)(hne:w≠r):Act S r x (dropO p) ⟨some w,none⟩:=by
 refine .del w rfl (λc=> ?_) hw;have c:p=[]:=c;subst c;rw[res] at hw;injection hw with hw
 exact hne hw.symm
omit [DecidableEq α] in
theorem Pa {S:Gr α}{r u:α}{t:Tree}{p:List Int}(h:Unf S r t)(hn:(labs S r t).Nodup)(hne:p≠[])(hu:res S r p=some u):u≠r:=λc=>by
 subst c;exact hne (B5 _ [] h hn hu rfl)
theorem Aa1 {S:Gr α}{r xa xb u:α}{t s:Tree}{a b:OpT}{eb:Eff α}(f:Bool)(h:Sit S r xa xb t a b)(hk:a.kind=2)(hne:a.path≠[])(hu:res S r a.path=some u)(hs:atT t a.path=some s)(B:Act S r xb b eb)(kb:b.kind=3)
  (lb: ∀v g x,eb.into=some (v,g,x)->(S.pay v).leaf=false) (hw:within a.path b.path=false) (hp:within a.path b.to=true) (f1:formedB (dropO ((nodeP a b.path).getD []))=true) (f2:formedB (shiftedO a b f)=true):
  Meet t a b [shiftedO a b f] [dropO ((nodeP a b.path).getD [])]:=by
 have A:Act S r xa a ⟨some u,none⟩:=.del u hk hne hu;have Fa:Fit S r xa a (Eff.on ⟨some u,none⟩ S):=.act _ A λv g x e=>by cases e
 have Fb:Fit S r xb b (eb.on S):=.act eb B lb;have Ba:=h.became Fa;have A':=Qu f h.unf h.nodup (Ee B (An h.vb).2.1) B A (Fc h.fb) h.nb (λc=>by omega) (λc=>by omega) (λc=>by omega);have Fa':Fit (eb.on S) r xa (shiftedO a b f) (delS (eb.on S) u):=.act _ A' λv g x e=>by cases e
 have c2:=h.swap.after Fb Fa' f2 (D2 ..);cases B with
 |ins v hk1=>omega
 |del w hk1=>omega
 |mov w v hk1 hne1 hww hw1 hv h0 hg=>
  obtain⟨p',q1,q2⟩:=D0 h.unf h.nodup A (Ee A (An h.va).2.1) hw1 λc=>by rw[hw] at c;cases c.2
  rw[q1] at f1 ⊢;rw[Ath] at f1 ⊢;have F':Fit (Eff.on ⟨some u,none⟩ S) r xb (dropO p') (Eff.on ⟨some w,none⟩ (Eff.on ⟨some u,none⟩ S)):=.act _ (Ud q2 (Pa h.unf h.nodup hne1 hw1)) λv g x e=>by cases e
  have c1:=O9 Ba.unf Ba.nodup (Ds h.va) f1 F' (show(2:Int)≠1 by decide);have hvm:=Kw h.unf hu hs hv hp;have e:=Du c1.2.1.unf c2.2.1.unf λz hz=>by
   have hz1:z∈labs (Eff.on ⟨some u,none⟩ S) r (applyT t a):=by
    rcases c1.2.1.old z hz with c| ⟨c,_⟩
    ·exact c
    ·cases c
   have hzv:z≠v:=λc=>Ba.gone u s hk hu hs z hz1 (c▸hvm);refine⟨?_,rfl⟩;have e1:(Eff.on ⟨some w,some (v,b.at_.toNat,w)⟩ S).kids z=rmo (some w) (S.kids z):=if_neg hzv;show rm u ((Eff.on ⟨some w,some (v,b.at_.toNat,w)⟩ S).kids z)=rm w (rm u (S.kids z));rw[e1];exact Afs u w (S.kids z)
  exact⟨_,c2.1,e▸ ⟨1,by rw[c1.1,allR]⟩⟩
theorem Acq {S:Gr α}{r xa xb u:α}{t s:Tree}{a b:OpT}{eb:Eff α}(h:Sit S r xa xb t a b)(hk:a.kind=2)(hne:a.path≠[])(hu:res S r a.path=some u)(hs:atT t a.path=some s)(B:Act S r xb b eb)(kb:b.kind=3)
  (lb: ∀v g x,eb.into=some (v,g,x)->(S.pay v).leaf=false) (hw:within a.path b.path=true) (hp:a.path≠b.path)
  (f1:formedB (dropO ((nodeP b b.path).getD []))=true) (f2:formedB (dropO ((nodeP (dropO ((nodeP b b.path).getD [])) ((nodeP b a.path).getD [])).getD []))=true):
  Meet t a b [dropO ((nodeP b b.path).getD []),dropO ((nodeP (dropO ((nodeP b b.path).getD [])) ((nodeP b a.path).getD [])).getD [])] []:=by
 have A:Act S r xa a ⟨some u,none⟩:=.del u hk hne hu;have Fa:Fit S r xa a (Eff.on ⟨some u,none⟩ S):=.act _ A λv g x e=>by cases e
 have Fb:Fit S r xb b (eb.on S):=.act eb B lb;have Ba:=h.became Fa;have Bb:=h.swap.became Fb;have hmv:=Ee B (An h.vb).2.1;cases B with
 |ins v hk1=>omega
 |del w hk1=>omega
 |mov w v hk1 hne1 hww hw1 hv h0 hg=>
  have B:Act S r xb b ⟨some w,some (v,b.at_.toNat,w)⟩:=.mov w v hk1 hne1 hww hw1 hv h0 hg;obtain⟨p1,q1,q2⟩:=D0 h.unf h.nodup B hmv hw1 λc=>by omega
  obtain⟨p2,q3,q4⟩:=D0 h.unf h.nodup B hmv hu λc=>by omega
  rw[q1,q3] at f2 ⊢;rw[q1] at f1;simp only[Ath] at f1 f2 ⊢;have nw:=Pa h.unf h.nodup hne1 hw1;have nu:=Pa h.unf h.nodup hne hu;have D1:Act (Eff.on ⟨some w,some (v,b.at_.toNat,w)⟩ S) r xb (dropO p1) ⟨some w,none⟩:=Ud q2 nw;have F1:Fit (Eff.on ⟨some w,some (v,b.at_.toNat,w)⟩ S) r xb (dropO p1) (Eff.on ⟨some w,none⟩ (Eff.on ⟨some w,some (v,b.at_.toNat,w)⟩ S)):=.act _ D1 λv g x e=>by cases e
  have c1:=O9 Bb.unf Bb.nodup (Ds h.vb) f1 F1 (show(2:Int)≠1 by decide);have hm1:movesO (dropO p1)=true:=Ee D1 f1;have hnw: ¬ ((dropO p1).kind=2∧within (dropO p1).path p2=true):=λc=>by
   obtain⟨q,hq⟩:=Cy (show within p1 p2=true from c.2);subst hq;rw[Eu,q2] at q4
   rcases Kd B (Fc h.fb) (λp e=>h.nb (Bu h.unf e)) _ q u rfl q4 with c| ⟨s',c⟩| ⟨_,w',v',s1,s2,c1,c2,c3,c4⟩
   ·subst c;exact h.nb (Bu h.unf hu)
   ·have:res S r (b.path++s')=some u:=by rw[Eu,hw1];exact c
    have:=B5 _ _ h.unf h.nodup this hu;obtain⟨k,hk'⟩:=Cy hw;rw[←this,Arz] at hk';have hk':=Avz.1 hk'.symm;have hs0:s'=[]:=(Av8.1 hk').1;rw[hs0,Asc] at this;exact hp this.symm
   ·rw[hw1] at c1;injection c1 with c1
    subst c1;have h1:res S r (b.path++s2)=some u:=by rw[Eu,hw1];exact c4
    have:=B5 _ _ h.unf h.nodup h1 hu;obtain⟨k,hk'⟩:=Cy hw;rw[←this,Arz] at hk';have hk':=Avz.1 hk'.symm;have hs0:s2=[]:=(Av8.1 hk').1;rw[hs0,Asc] at this;exact hp this.symm
  obtain⟨p3,q5,q6⟩:=D0 Bb.unf Bb.nodup D1 hm1 q4 hnw;rw[q5] at f2 ⊢;simp only[Ath] at f2 ⊢;have F2:Fit (Eff.on ⟨some w,none⟩ (Eff.on ⟨some w,some (v,b.at_.toNat,w)⟩ S)) r xb (dropO p3) (Eff.on ⟨some u,none⟩ (Eff.on ⟨some w,none⟩ (Eff.on ⟨some w,some (v,b.at_.toNat,w)⟩ S))):=.act _ (Ud q6 nu) λv g x e=>by cases e
  have c2:=O9 c1.2.1.unf c1.2.1.nodup c1.2.2 f2 F2 (show(2:Int)≠1 by decide);have e:=Du Ba.unf c2.2.1.unf λz hz=>by
   have hz1:z∈labs S r t:=by
    rcases Ba.old z hz with c| ⟨c,_⟩
    ·exact c
    ·omega
   have hzs:=Ba.gone u s hk hu hs z hz;refine⟨?_,rfl⟩;have e1:rmo (some w) (if z=v then putL (some w) b.at_.toNat w (S.kids z) else rmo (some w) (S.kids z))=S.kids z:=by
    have e2:rmo (some w) (S.kids z)=S.kids z:=Dj λhm=>hzs (Mf h.unf h.nodup hu hs hw1 hw hp hz1 hm);split
    ·rw[R3,e2]
    ·rw[Ct,e2]
   exact congrArg (rm u) e1
  exact⟨_,e▸ ⟨2,by rw[c1.1,c2.1,allR]⟩,B0 _⟩
end
section
variable {α:Type} [DecidableEq α]
theorem Amh {u:α}{j g:Nat}{l l':List α}(hn:l.Nodup)(hj:l[j]?=some u)(h1:rmo (some u) l'=rmo (some u) l)(h2:(rmo (some u) (l'.take g)).length=j):putL (some u) g u l'=l:=by
 have hjl:=(Ar8.1 hj).1;have e:=Ed hj;have hn':=hn;rw[e] at hn';obtain⟨n1,n2,n3⟩:=As7.1 hn';have hA:u∉l.take j:=λh=>n3 u h u (by simp) rfl;have hB:u∉l.drop (j+1):=(Atd.1 n2).1;have e1:rmo (some u) l=l.take j++l.drop (j+1):=by
  conv=>lhs;rw[e]
  rw[Cm,O5];show rm u _++rm u _=_;rw[Dj hA,Dj hB]
 have c:=R1 (some u) g l';rw[h1,e1,h2] at c;have hl:(l.take j).length=j:=by rw[Ar1];omega
 have m:=O6 (a:=l.take j) (b:=l.drop (j+1)) hl;rw[m.1,m.2] at c;unfold putL;rw[←c.1,←c.2,←e]
omit [DecidableEq α] in
theorem V1 {S:Gr α}{r f:α}{t:Tree}(h:Unf S r t)(hn:(labs S r t).Nodup)(hf:f∈labs S r t):(S.kids f).Nodup:=by
 rw[Avw,Avy];intro i j hi hjl hij he;have hx:=Aq3 hjl;have hy:(S.kids f)[i]?=some (S.kids f)[j]:=by rw[←he,Aq3 hi]
 have:=(E8 h hn hf hf hy hx).2;omega
theorem Ami {S:Gr α}{r x u f v:α}{t:Tree}{a:OpT}(h:Unf S r t)(hn:(labs S r t).Nodup)(hf:formedB a=true)(hk:a.kind=3)(hne:a.path≠[])(hw:within a.path a.to=false)(hu:res S r a.path=some u)(hv:res S r a.to=some v)(h0:0≤a.at_)(hg:a.at_.toNat≤(S.kids v).length)
  (hx:S.kids x=[]) (hx0:x∉labs S r t) (hff:res S r a.path.dropLast=some f):
  ∃g',Act (Eff.on ⟨some u,some (v,a.at_.toNat,u)⟩ S) r x (undoO a) ⟨some u,some (f,g',u)⟩∧ ∀z∈labs S r t,(Eff.on ⟨some u,some (f,g',u)⟩ (Eff.on ⟨some u,some (v,a.at_.toNat,u)⟩ S)).kids z=S.kids z:=by
 have A:Act S r x a ⟨some u,some (v,a.at_.toNat,u)⟩:=.mov u v hk hne hw hu hv h0 hg;have hm:=Ee A hf;obtain⟨f',hf',hl0,hj⟩:=Jy hne hu;rw[hff] at hf';injection hf' with hf'
 subst hf';obtain⟨p1,q1,q2⟩:=D0 h hn A hm hu λc=>by omega
 obtain⟨p2,q3,q4⟩:=D0 h hn A hm hff λc=>by omega
 have hfm:=Bu h hff;have hkn:=V1 h hn hfm;have hland:=Qr h hn hne hu hv h0 hg;have hfrm:(chgO a).frm=a.path.dropLast:=by unfold chgO;simp[hk]
 have hto:(chgO a).to=a.to:=by unfold chgO;simp[hk]
 have hat:(chgO a).at_=lastP a.path:=by unfold chgO;simp[hk]
 have hgap:(chgO a).gap=a.at_:=rfl;have hL:(chgO a).land=bif decide (a.path.dropLast=a.to)&&decide (lastP a.path<a.at_) then a.at_-1 else a.at_:=by
  unfold Chg.land;rw[hat,hgap,hfrm,hto,Avv]
 let g':Nat:=(lastP a.path).toNat+ (if f=v∧(rm u ((S.kids v).take a.at_.toNat)).length< (lastP a.path).toNat then 1 else 0)
 have e:undoO a= {noOp 3 with path:=p1,to:=p2,at_:=(g':Int)}:=by
  unfold undoO;rw[hm,decide_eq_true hk,q1,hfrm,hto,hat,q3,hL,hland];simp only[Ast,cond_true,Ath]
  congr 1
  show lastP a.path+_=(((lastP a.path).toNat+_:Nat):Int)
  by_cases c:a.path.dropLast=a.to
  ·have hfv:f=v:=by
    rw[c,hv] at hff;injection hff with hff
    exact hff.symm
   rw[decide_eq_true c,Asb]
   by_cases c2:(rm u ((S.kids v).take a.at_.toNat)).length< (lastP a.path).toNat
   ·rw[decide_eq_true (by omega),if_pos ⟨hfv,c2⟩];simp only[cond_true];omega
   ·rw[decide_eq_false (by omega),if_neg λg=>c2 g.2];simp only[cond_false];omega
  ·have hfv:f≠v:=λg=>c (by
    subst g;exact B5 _ _ h hn hff hv)
   rw[decide_eq_false c,if_neg λg=>hfv g.1];simp only[Asy,cond_false];omega
 have hjl:=(Ar8.1 hj).1;have hrl:(rm u (S.kids f)).length=(S.kids f).length-1:=by
  have:=Xy hkn hj (g:=(S.kids f).length) (Ara _);rw[Asj,if_pos hjl] at this;exact this
 have Ba:=Af0 h hn A hf λc=>by omega
 have hfa:=Bu Ba.unf q4;have main:((rmo (some u) (((Eff.on ⟨some u,some (v,a.at_.toNat,u)⟩ S).kids f).take g')).length=(lastP a.path).toNat)∧g'≤((Eff.on ⟨some u,some (v,a.at_.toNat,u)⟩ S).kids f).length:=by
  by_cases hfv:f=v
  ·subst hfv;have hks:(Eff.on ⟨some u,some (f,a.at_.toNat,u)⟩ S).kids f=putL (some u) a.at_.toNat u (S.kids f):=if_pos rfl;have hn2:=V1 Ba.unf Ba.nodup hfa;rw[hks] at hn2 ⊢;have hlen:(putL (some u) a.at_.toNat u (S.kids f)).length=(S.kids f).length:=by
    have h1:(rm u (S.kids f)).length=_:=Qt (some u) a.at_.toNat (S.kids f);unfold putL;rw[Arb,Aq8];omega
   have hg':g'≤(putL (some u) a.at_.toNat u (S.kids f)).length:=by
    rw[hlen];show(lastP a.path).toNat+_≤_;split<;>omega
   refine⟨?_,hg'⟩;have:=Xy hn2 (Afx (o:=some u) (g:=a.at_.toNat) (x:=u) (l:=S.kids f)) hg';refine Eq.trans this ?_;show(if(rm u ((S.kids f).take a.at_.toNat)).length<g' then g'-1 else g')=_
   by_cases c2:(rm u ((S.kids f).take a.at_.toNat)).length< (lastP a.path).toNat
   ·have e3:g'=(lastP a.path).toNat+1:=by
     show(lastP a.path).toNat+_=_;rw[if_pos ⟨rfl,c2⟩]
    rw[e3,if_pos (by omega)];omega
   ·have e3:g'=(lastP a.path).toNat:=by
     show(lastP a.path).toNat+_=_;rw[if_neg λg=>c2 g.2];rfl
    rw[e3,if_neg c2]
  ·have hks:(Eff.on ⟨some u,some (v,a.at_.toNat,u)⟩ S).kids f=rm u (S.kids f):=if_neg hfv;rw[hks];have e3:g'=(lastP a.path).toNat:=by
    show(lastP a.path).toNat+_=_;rw[if_neg λg=>hfv g.1];rfl
   have hg':g'≤(rm u (S.kids f)).length:=by omega
   refine⟨?_,hg'⟩;refine Eq.trans (Acg (λhm=>(Acf.1 hm).2 rfl) hg') e3
 refine⟨g',?_,λz hz=> ?_⟩
 ·rw[e];refine .mov (o:= {noOp 3 with path:=p1,to:=p2,at_:=(g':Int)}) u f rfl (λc=> ?_) ?_ q2 q4 (Aq5 _) main.2
  ·have c:p1=[]:=c;subst c;rw[res] at q2;injection q2 with q2
   exact Pa h hn hne hu q2.symm
  ·show within p1 p2=false;cases hc:within p1 p2 with
   |false=>rfl
   |true=>
    exfalso;obtain⟨q,hq⟩:=Cy hc;subst hq;rw[Eu,q2] at q4;have hlong: ∀s',res S u s'≠some f:=λs' c=>by
     have:res S r (a.path++s')=some f:=by rw[Eu,hu];exact c
     have:=congrArg List.length (B5 _ _ h hn this hff);have h0:=Arw.2 hne;simp at this;omega
    rcases Kd A hx (λp e=>hx0 (Bu h e)) _ q f rfl q4 with c| ⟨s',c⟩| ⟨_,w',v',s1,s2,c1,c2,c3,c4⟩
    ·exact hx0 (c▸hfm)
    ·exact hlong s' c
    ·rw[hu] at c1;injection c1 with c1
     subst c1;exact hlong s2 c4
 ·have hout:rmo (some u) ((Eff.on ⟨some u,some (v,a.at_.toNat,u)⟩ S).kids z)=rmo (some u) (S.kids z):=by
   show rmo (some u) (if z=v then putL (some u) a.at_.toNat u (S.kids z) else rmo (some u) (S.kids z))=_;split
   ·exact R3 _ _ _
   ·exact Ct _ _
  show(if z=f then putL (some u) g' u ((Eff.on ⟨some u,some (v,a.at_.toNat,u)⟩ S).kids z) else rmo (some u) ((Eff.on ⟨some u,some (v,a.at_.toNat,u)⟩ S).kids z))=_;split
  ·rename_i hzf;subst hzf;exact Amh hkn hj hout main.1
  ·rename_i hzf;rw[hout];refine Dj λhm=>hzf ?_;obtain⟨i,hi⟩:=Ar7 hm;exact(E8 h hn hz hfm hi hj).1
end
section
variable {α:Type} [DecidableEq α]
theorem V2 {S:Gr α}{r xa xb:α}{t:Tree}{a b:OpT}{ea:Eff α}(h:Sit S r xa xb t a b)(A:Act S r xa a ea)(ka:a.kind=3)(la: ∀v g x,ea.into=some (v,g,x)->(S.pay v).leaf=false)(f1:formedB (undoO a)=true)(hl: ∀f,res S r a.path.dropLast=some f->(S.pay f).leaf=false):
  Meet t a b [] [undoO a,b]:=by
 have Fa:Fit S r xa a (ea.on S):=.act ea A la;have Ba:=h.became Fa;have hfa:=(An h.va).2.1;cases A with
 |ins v hk=>omega
 |del u hk=>omega
 |mov u v hk hne hw hu hv h0 hg=>
  obtain⟨f,hff,_,_⟩:=Jy hne hu;obtain⟨g',U,ag⟩:=Ami h.unf h.nodup hfa hk hne hw hu hv h0 hg (Fc h.fa) h.na hff;have FU:Fit (Eff.on ⟨some u,some (v,a.at_.toNat,u)⟩ S) r xa (undoO a) (Eff.on ⟨some u,some (f,g',u)⟩ (Eff.on ⟨some u,some (v,a.at_.toNat,u)⟩ S)):=.act _ U λv' g x e=>by
   injection e with e
   rw[←(Prod.mk.inj e).1];exact hl f hff
  have hku:(undoO a).kind≠1:=by
   unfold undoO;cases decide (a.kind=3)&&movesO a
   ·exact show(0:Int)≠1 by decide
   ·exact show(3:Int)≠1 by decide
  have c1:=O9 Ba.unf Ba.nodup (Ds h.va) f1 FU hku;have e:=Du h.unf c1.2.1.unf λz hz=>⟨ag z hz,rfl⟩;refine⟨applyT t b,B0 _,2,?_⟩;rw[c1.1,←e,allR,decide_eq_true h.vb,cond_true,allR]
end
section
variable {α:Type} [DecidableEq α]
theorem Ix {o:OpT}(h:o.kind=6)(p:Pay):payF o p= {p with text:=(applyE p.text o.pieces).1}:=by
 unfold payF;rw[if_neg (by omega),if_neg (by omega)]
theorem Ajp {S:Gr α}{r xa xb v:α}{t:Tree}{a b:OpT}(prior:Bool)(h:Sit S r xa xb t a b)(ka:a.kind=6)(kb:b.kind=6)(hp:a.path=b.path)(hv:res S r a.path=some v)
  (ha:(S.pay v).leaf=true∧(applyE (S.pay v).text a.pieces).2=0) (hb:(S.pay v).leaf=true∧(applyE (S.pay v).text b.pieces).2=0) (e1:(transP a.pieces b.pieces prior).2.2=0) (e2:(transP b.pieces a.pieces (!prior)).2.2=0)
  (f1:formedB (editO a b prior)=true) (f2:formedB (editO b a (!prior))=true):Meet t a b [editO a b prior] [editO b a (!prior)]:=by
 have Fa:Fit S r xa a (payS S v (payF a)):=.pay v (by omega) hv λ_=>ha;have Fb:Fit S r xb b (payS S v (payF b)):=.pay v (by omega) (hp▸hv) λ_=>hb;have tm:=V9 ha.2 hb.2 e1 e2;have tm2:=V9 hb.2 ha.2 e2 (by rw[Att];exact e1);have pa:(payS S v (payF a)).pay v=payF a (S.pay v):=if_pos rfl;have pb:(payS S v (payF b)).pay v=payF b (S.pay v):=if_pos rfl;have Fab:Fit (payS S v (payF a)) r xb (editO b a (!prior)) (payS (payS S v (payF a)) v (payF (editO b a (!prior)))):=by
  refine .pay v (show 4≤b.kind∧b.kind≤6 by omega) (by rw[Iu];exact hp▸hv) λ_=> ?_;rw[pa,Qs,Ix ka];exact⟨ha.1,tm2.2⟩
 have Fba:Fit (payS S v (payF b)) r xa (editO a b prior) (payS (payS S v (payF b)) v (payF (editO a b prior))):=by
  refine .pay v (show 4≤a.kind∧a.kind≤6 by omega) (by rw[Iu];exact hv) λ_=> ?_;rw[pb,Qs,Ix kb];exact⟨ha.1,tm.2⟩
 have c1:=h.after Fa Fab f2 rfl;have c2:=h.swap.after Fb Fba f1 rfl;have e:=Du c1.2.1.unf c2.2.1.unf λz _=>by
  refine⟨rfl,?_⟩;show(if z=v then payF (editO a b prior) (if z=v then payF b (S.pay z) else S.pay z) else if z=v then payF b (S.pay z) else S.pay z)=(if z=v then payF (editO b a (!prior)) (if z=v then payF a (S.pay z) else S.pay z) else if z=v then payF a (S.pay z) else S.pay z)
  by_cases zv:z=v
  ·subst zv;simp only[if_pos];rw[Ix ka,Ix kb,Ix (o:=editO a b prior) ka,Ix (o:=editO b a (!prior)) kb];show({S.pay z with text:=(applyE (applyE (S.pay z).text b.pieces).1 (transP a.pieces b.pieces prior).1).1}:Pay)= {S.pay z with text:=(applyE (applyE (S.pay z).text a.pieces).1 (transP b.pieces a.pieces (!prior)).1).1};rw[tm.1]
  ·simp only[if_neg zv]
 exact⟨_,c2.1,e▸c1.1⟩
def rowM (b a:OpT)(f:Bool):List OpT:=bif bothEdit b a then [editO b a f] else rowO b a f
structure OkX (b a:OpT)(f:Bool):Prop where
 all: ∀o∈rowM b a f,formedB o=true
 edt:bothEdit b a=true->(transP b.pieces a.pieces f).2.2=0
theorem OkX.one {b a o:OpT}{f:Bool}(h:OkX b a f)(e:rowM b a f=[o]):formedB o=true:=h.all o (by rw[e];simp)
theorem OkX.two {b a o o':OpT}{f:Bool}(h:OkX b a f)(e:rowM b a f=[o,o']):formedB o=true∧formedB o'=true:=⟨h.all o (by rw[e];simp),h.all o' (by rw[e];simp)⟩
omit [DecidableEq α] in
theorem J1 {S:Gr α}{r x:α}{o:OpT}{e:Eff α}(A:Act S r x o e):o.kind=1∨o.kind=2∨o.kind=3:=by
 cases A with
 |ins v hk=>exact .inl hk
 |del u hk=>exact .inr (.inl hk)
 |mov u v hk=>exact .inr (.inr hk)
omit [DecidableEq α] in
theorem Zs {S:Gr α}{r xa xb:α}{t:Tree}{a b:OpT}{ea eb:Eff α}(h:Sit S r xa xb t a b)(A:Act S r xa a ea)(B:Act S r xb b eb)(d1: ¬ (a.kind=2∧within a.path b.path=true))(hp: ¬ (a.kind=3∧b.kind=3∧a.path=b.path)):
  ∀v g x,eb.into=some (v,g,x)->ea.out≠some x:=by
 intro v g x e c;have hout:(a.kind=2∨a.kind=3)∧res S r a.path=some x:=by
  cases A with
  |ins v hk=>cases c
  |del u hk hne hu=>
   injection c with c
   exact⟨.inl hk,c▸hu⟩
  |mov u v hk hne hw hu=>
   injection c with c
   exact⟨.inr hk,c▸hu⟩
 cases B with
 |del u hk=>cases e
 |ins v' hk hv=>
  injection e with e
  have e2:=(Prod.mk.inj (Prod.mk.inj e).2).2;exact h.nb (e2▸Bu h.unf hout.2)
 |mov u v' hk hne hw hu=>
  injection e with e
  have e2:=(Prod.mk.inj (Prod.mk.inj e).2).2;subst e2;have ep:=B5 _ _ h.unf h.nodup hout.2 hu
  rcases hout.1 with k|k
  ·refine d1 ⟨k,?_⟩;rw[ep];unfold within;simp
  ·exact hp ⟨k,hk,ep⟩
theorem Zt {S:Gr α}{r xa xb:α}{t:Tree}{a b:OpT}{ea eb:Eff α}(prior:Bool)(h:Sit S r xa xb t a b)(A:Act S r xa a ea)(B:Act S r xb b eb)
  (la: ∀v g x,ea.into=some (v,g,x)->(S.pay v).leaf=false) (lb: ∀v g x,eb.into=some (v,g,x)->(S.pay v).leaf=false)
  (d1: ¬ (a.kind=2∧within a.path b.path=true)) (d2: ¬ (a.kind=2∧b.kind=3∧within a.path b.to=true))
  (d3: ¬ (b.kind=2∧within b.path a.path=true)) (d4: ¬ (b.kind=2∧a.kind=3∧within b.path a.to=true))
  (hc: ¬ (a.kind=3∧b.kind=3∧within b.path a.to=true∧within a.path b.to=true)) (hp: ¬ (a.kind=3∧b.kind=3∧a.path=b.path))
  (f1:formedB (shiftedO a b prior)=true) (f2:formedB (shiftedO b a (!prior))=true):Meet t a b [shiftedO a b prior] [shiftedO b a (!prior)]:=by
 have:=Ame (!prior) h A B la lb (Zs h A B d1 hp) (Zs h.swap B A d3 λc=>hp ⟨c.2.1,c.1,c.2.2.symm⟩) d1 d2 d3 d4 hc f2 (by rw[Att];exact f1);rw[Att] at this;exact this
theorem Qx {S:Gr α}{r xa xb v:α}{t:Tree}{a b:OpT}{ea:Eff α}(prior:Bool)(h:Sit S r xa xb t a b)(A:Act S r xa a ea)(la: ∀v g x,ea.into=some (v,g,x)->(S.pay v).leaf=false)
  (hk:4≤b.kind∧b.kind≤6) (hv:res S r b.path=some v) (he:b.kind=6->(S.pay v).leaf=true∧(applyE (S.pay v).text b.pieces).2=0) (d1: ¬ (a.kind=2∧within a.path b.path=true)) (f1:formedB (shiftedO b a (!prior))=true):
  Meet t a b [shiftedO a b prior] [shiftedO b a (!prior)]:=by
 have:=Amf (!prior) h A la hk hv he d1 f1;rw[Att] at this;exact this
omit [DecidableEq α] in
theorem Sy {S:Gr α}{r u:α}{t:Tree}{p:List Int}(h:Unf S r t)(hr:rightT t=true)(hne:p≠[])(hu:res S r p=some u): ∀f,res S r p.dropLast=some f->(S.pay f).leaf=false:=by
 intro f hf;obtain⟨f',hf',_,hk⟩:=Jy hne hu;rw[hf] at hf';injection hf' with hf'
 subst hf';obtain⟨y,hy,hfy⟩:=E9 h hf;have hlen:=Lw hfy;have hy2:=Dg (Ja hr).2 hy;have hlt:=(Ar8.1 hk).1;rw[Hp hfy,Id];cases hl:y.leaf with
 |false=>rfl
 |true=>
  have:=Na (Ga hy2) hl;rw[this] at hlen;simp at hlen;rw[hlen] at hlt;simp at hlt
theorem Acx {S Sb:Gr α}{r xa xb u:α}{t:Tree}{a b:OpT}(h:Sit S r xa xb t a b)(ka:a.kind=2)(hne:a.path≠[])(hu:res S r a.path=some u)(Fb:Fit S r xb b Sb)(prior:Bool)(k1:OkX a b prior)(k2:OkX b a (!prior)):
  Meet t a b (rowM a b prior) (rowM b a (!prior)):=by
 have A:Act S r xa a ⟨some u,none⟩:=.del u ka hne hu;have la: ∀v g x,(⟨some u,none⟩:Eff α).into=some (v,g,x)->(S.pay v).leaf=false:=λv g x e=>by cases e
 obtain⟨s,hs,_⟩:=E9 h.unf hu;have be:bothEdit a b=false:=by unfold bothEdit;simp[ka]
 have be2:bothEdit b a=false:=by unfold bothEdit;simp[ka]
 have row0:within a.path b.path=true->rowM b a (!prior)=[]:=λhw=>by unfold rowM rowO;simp[be2,ka,hw]
 have rowS:b.kind≠2->b.kind≠3->rowM a b prior=[shiftedO a b prior]:=λh2 h3=>by unfold rowM rowO wonO;simp[be,ka,h2,h3]
 cases Fb with
 |pay v kb hv he=>
  have e1:=rowS (by omega) (by omega)
  by_cases hw:within a.path b.path=true
  ·rw[row0 hw,e1];exact Acn prior h ka hne hu hs kb hv he hw
  ·have e2:rowM b a (!prior)=[shiftedO b a (!prior)]:=by
    unfold rowM rowO;simp[be2,ka,hw,show ¬b.kind=3 by omega]
   have f2:=k2.one e2;rw[e1,e2];exact Qx prior h A la kb hv he (λc=>hw c.2) f2
 |act e B lb=>
  by_cases hw:within a.path b.path=true
  ·rw[row0 hw]
   rcases J1 B with kb|kb|kb
   ·have e1:=rowS (by omega) (by omega);have f1:=k1.one e1;rw[e1];exact Aco prior h ka hne hu hs B kb lb f1 hw
   ·by_cases hw2:within b.path a.path=true
    ·have hp:a.path=b.path:=by
      obtain⟨q,hq⟩:=Cy hw;have h1:=Hm hw2;have:q=[]:=Ard.1 (by have:=congrArg List.length hq;simp at this;omega);rw[this,Asc] at hq;exact hq.symm
     have e1:rowM a b prior=[]:=by unfold rowM rowO;simp[be,kb,hw2]
     rw[e1];exact Aa0 h ka hne hu kb hp
    ·have e1:rowM a b prior=[shiftedO a b prior]:=by unfold rowM rowO;simp[be,kb,hw2,ka]
     have f1:=k1.one e1;rw[e1];refine Qw prior h ka hne hu hs B kb lb f1 hw λc=>hw2 ?_;rw[c];unfold within;simp
   ·by_cases hp:a.path=b.path∨within a.path b.to=true
    ·have e1:rowM a b prior=[shiftedO a b prior]:=by
      unfold rowM rowO wonO
      rcases hp with hp|hp<;>simp[be,kb,ka,hp]
     have f1:=k1.one e1;rw[e1];exact Acp prior h ka hne hu hs B kb lb f1 hw hp
    ·have n1:a.path≠b.path:=λc=>hp (.inl c);have n2:within a.path b.to=false:=by
      cases hh:within a.path b.to with
      |false=>rfl
      |true=>exact absurd (.inr hh) hp
     have e1:rowM a b prior=[dropO ((nodeP b b.path).getD []),dropO ((nodeP (dropO ((nodeP b b.path).getD [])) ((nodeP b a.path).getD [])).getD [])]:=by
      unfold rowM rowO wonO;simp[be,kb,ka,n1,n2,hw]
     have f1:=k1.two e1;rw[e1];exact Acq h ka hne hu hs B kb lb hw n1 f1.1 f1.2
  ·have hwf:within a.path b.path=false:=by simpa using hw
   by_cases hi:b.kind=3∧within a.path b.to=true
   ·have e2:rowM b a (!prior)=[dropO ((nodeP a b.path).getD [])]:=by
     unfold rowM rowO;simp[be2,ka,hwf,hi.1,hi.2]
    have e1:rowM a b prior=[shiftedO a b prior]:=by
     unfold rowM rowO wonO;simp[be,ka,hi.1,hwf]
    have f1:=k1.one e1;have f2:=k2.one e2;rw[e1,e2];exact Aa1 prior h ka hne hu hs B hi.1 lb hwf hi.2 f2 f1
   ·have e2:rowM b a (!prior)=[shiftedO b a (!prior)]:=by
     unfold rowM rowO;have:(decide (b.kind=3)&&within a.path b.to)=false:=by
      rw[Awb]
      by_cases k:b.kind=3
      ·right;cases hh:within a.path b.to with
       |false=>rfl
       |true=>exact absurd ⟨k,hh⟩ hi
      ·left;simp[k]
     simp[be2,ka,hwf,this]
    have f2:=k2.one e2
    by_cases hb:b.kind=2∧within b.path a.path=true
    ·have e1:rowM a b prior=[]:=by unfold rowM rowO;simp[be,hb.1,hb.2]
     rw[e1,e2];cases B with
     |ins v hk=>omega
     |mov u v hk=>omega
     |del u' hk hne' hu'=>
      obtain⟨s',hs',_⟩:=E9 h.unf hu';refine(Qw (!prior) h.swap hb.1 hne' hu' hs' A ka la f2 hb.2 λc=> ?_).swap;rw[c] at hwf;unfold within at hwf;simp at hwf
    ·have e1:rowM a b prior=[shiftedO a b prior]:=by
      unfold rowM rowO wonO
      rcases J1 B with kb|kb|kb
      ·simp[be,ka,kb]
      ·have:within b.path a.path=false:=by
        cases hh:within b.path a.path with
        |false=>rfl
        |true=>exact absurd ⟨kb,hh⟩ hb
       simp[be,ka,kb,this]
      ·simp[be,ka,kb,hwf]
     have f1:=k1.one e1;rw[e1,e2];exact Zt prior h A B la lb (λc=>hw c.2) (λc=>hi c.2) hb (λc=>by omega) (λc=>by omega) (λc=>by omega) f1 f2
theorem Ag8 {S:Gr α}{r xa xb:α}{t:Tree}{a b:OpT}{ea eb:Eff α}(h:Sit S r xa xb t a b)(A:Act S r xa a ea)(B:Act S r xb b eb)
  (la: ∀v g x,ea.into=some (v,g,x)->(S.pay v).leaf=false) (lb: ∀v g x,eb.into=some (v,g,x)->(S.pay v).leaf=false) (na:a.kind≠2) (nb:b.kind≠2) (prior:Bool) (k1:OkX a b prior) (k2:OkX b a (!prior)):
  Meet t a b (rowM a b prior) (rowM b a (!prior)):=by
 have ka:=J1 A;have kb:=J1 B;have be:bothEdit a b=false:=by unfold bothEdit;simp[show ¬a.kind=6 by omega]
 have be2:bothEdit b a=false:=by unfold bothEdit;simp[show ¬a.kind=6 by omega]
 by_cases hp:a.kind=3∧b.kind=3∧a.path=b.path
 ·obtain⟨h1,h2,h3⟩:=hp;have w1:wonO a b=true:=by unfold wonO;simp[h1,h2,h3]
  have w2:wonO b a=true:=by unfold wonO;simp[h1,h2,h3]
  cases prior with
  |true=>
   have e1:rowM a b true=[shiftedO a b true]:=by unfold rowM rowO;simp[be,h2,w1]
   have e2:rowM b a (!true)=[]:=by unfold rowM rowO;simp[be2,h1,w2]
   have f1:=k1.one e1;rw[e1,e2];exact(V0 true h.swap B A h2 h1 h3.symm lb la f1).swap
  |false=>
   have e1:rowM a b false=[]:=by unfold rowM rowO;simp[be,h2,w1]
   have e2:rowM b a (!false)=[shiftedO b a (!false)]:=by unfold rowM rowO;simp[be2,h1,w2]
   have f1:=k2.one e2;rw[e1,e2];exact V0 (!false) h A B h1 h2 h3 la lb f1
 ·have w1:wonO a b=false:=by
   unfold wonO
   rcases ka with k|k|k
   ·simp[k]
   ·omega
   ·rcases kb with g|g|g
    ·simp[k,g]
    ·omega
    ·have: ¬b.path=a.path:=λc=>hp ⟨k,g,c.symm⟩;simp[this]
  have w2:wonO b a=false:=by
   unfold wonO
   rcases ka with k|k|k
   ·rcases kb with g|g|g
    ·simp[g]
    ·omega
    ·simp[k,g]
   ·omega
   ·rcases kb with g|g|g
    ·simp[k,g]
    ·omega
    ·have: ¬a.path=b.path:=λc=>hp ⟨k,g,c⟩;simp[this]
  by_cases hc:a.kind=3∧b.kind=3∧within b.path a.to=true∧within a.path b.to=true
  ·obtain⟨h1,h2,h3,h4⟩:=hc;cases prior with
   |true=>
    have e1:rowM a b true=[undoO b,a]:=by unfold rowM rowO;simp[be,h1,h2,h3,h4,w1]
    have e2:rowM b a (!true)=[]:=by unfold rowM rowO;simp[be2,h1,h2,h3,h4,w2]
    have f1:=k1.two e1;rw[e1,e2];have hl: ∀f,res S r b.path.dropLast=some f->(S.pay f).leaf=false:=by
     cases B with
     |ins v hk=>omega
     |del u hk=>omega
     |mov u v hk hne hw hu=>exact Sy h.unf (An h.va).1 hne hu
    exact(V2 h.swap B h2 lb f1.1 hl).swap
   |false=>
    have e1:rowM a b false=[]:=by unfold rowM rowO;simp[be,h1,h2,h3,h4,w1]
    have e2:rowM b a (!false)=[undoO a,b]:=by unfold rowM rowO;simp[be2,h1,h2,h3,h4,w2]
    have f1:=k2.two e2;rw[e1,e2];have hl: ∀f,res S r a.path.dropLast=some f->(S.pay f).leaf=false:=by
     cases A with
     |ins v hk=>omega
     |del u hk=>omega
     |mov u v hk hne hw hu=>exact Sy h.unf (An h.va).1 hne hu
    exact V2 h A h1 la f1.1 hl
  ·have sh: ∀(x y:OpT) (f:Bool),(x.kind=1∨x.kind=3)->(y.kind=1∨y.kind=3)->bothEdit x y=false->wonO x y=false-> ¬ (x.kind=3∧y.kind=3∧within x.path y.to=true∧within y.path x.to=true)->rowM x y f=[shiftedO x y f]:=by
    intro x y f kx ky hb hw hcc;unfold rowM rowO
    rcases ky with k|k
    ·simp[hb,k,hw]
    ·rcases kx with g|g
     ·simp[hb,k,g,hw]
     ·have:(within x.path y.to&&within y.path x.to)=false:=by
       cases hh:within x.path y.to&&within y.path x.to with
       |false=>rfl
       |true=>
        rw[Aq6] at hh;exact absurd ⟨g,k,hh.1,hh.2⟩ hcc
      simp[hb,k,g,hw,this]
   have e1:=sh a b prior (by omega) (by omega) be w1 λc=>hc ⟨c.1,c.2.1,c.2.2.2,c.2.2.1⟩;have e2:=sh b a (!prior) (by omega) (by omega) be2 w2 λc=>hc ⟨c.2.1,c.1,c.2.2.1,c.2.2.2⟩;have f1:=k1.one e1;have f2:=k2.one e2;rw[e1,e2];exact Zt prior h A B la lb (λc=>na c.1) (λc=>na c.1) (λc=>nb c.1) (λc=>nb c.1) hc hp f1 f2
end
theorem Ln {o:OpT}(h:formedB o=true)(hk:o.kind=4):keyOk o.key=true∧(o.gone=true∨o.value.length≤256):=by
 unfold formedB at h;simp[hk] at h;refine⟨h.2.1,?_⟩
 rcases h.2.2 with h|h
 ·exact .inl h
 ·exact .inr (by omega)
theorem Ajq {a b:OpT}{p:Pay}(hp:attrsOk none p.attrs=true)(fa:formedB a=true)(fb:formedB b=true)(ka:4≤a.kind∧a.kind≤6)(kb:4≤b.kind∧b.kind≤6)(hw: ¬ (a.kind=b.kind∧(b.kind=5∨b.kind=6∨a.key=b.key))):
  payF b (payF a p)=payF a (payF b p):=by
 have k1:a.kind=4∨a.kind=5∨a.kind=6:=by omega
 have k2:b.kind=4∨b.kind=5∨b.kind=6:=by omega
 rcases k1 with k1|k1|k1<;>rcases k2 with k2|k2|k2
 ·have hne:a.key≠b.key:=λc=>hw ⟨by omega,.inr (.inr c)⟩;have f1:=Ln fa k1;have f2:=Ln fb k2;unfold payF;simp only[k1,k2,if_pos];rw[Aji hp f1.1 f1.2 f2.1 f2.2 hne]
 ·unfold payF;simp[k1,k2]
 ·unfold payF;simp[k1,k2]
 ·unfold payF;simp[k1,k2]
 ·exact absurd ⟨by omega,.inl k2⟩ hw
 ·unfold payF;simp[k1,k2]
 ·unfold payF;simp[k1,k2]
 ·unfold payF;simp[k1,k2]
 ·exact absurd ⟨by omega,.inr (.inl k2)⟩ hw
theorem Wa {a b:OpT}{p:Pay}(hp:attrsOk none p.attrs=true)(fa:formedB a=true)(fb:formedB b=true)(hk:a.kind=b.kind)(hw:b.kind=5∨(b.kind=4∧a.key=b.key)):payF b (payF a p)=payF b p:=by
 rcases hw with k| ⟨k,e⟩
 ·unfold payF;simp[hk,k]
 ·have f1:=Ln fa (by omega);have f2:=Ln fb k;unfold payF;simp only[hk,k,if_pos];rw[Vz hp f1.1 f1.2 f2.2 e]
section
variable {α:Type} [DecidableEq α]
omit [DecidableEq α] in
theorem Ajr {S:Gr α}{r v:α}{t:Tree}{p:List Int}(h:Unf S r t)(hr:rightT t=true)(hv:res S r p=some v):attrsOk none (S.pay v).attrs=true:=by
 obtain⟨y,hy,hvy⟩:=E9 h hv;have:=Fk (Dg (Ja hr).2 hy);rw[Hp hvy];cases y;exact this
theorem Ajs {S:Gr α}{r xa xb v w:α}{t:Tree}{a b:OpT}(h:Sit S r xa xb t a b)(ka:4≤a.kind∧a.kind≤6)(kb:4≤b.kind∧b.kind≤6)(hv:res S r a.path=some v)(hw:res S r b.path=some w)
  (ha:a.kind=6->(S.pay v).leaf=true∧(applyE (S.pay v).text a.pieces).2=0) (hb:b.kind=6->(S.pay w).leaf=true∧(applyE (S.pay w).text b.pieces).2=0) (prior:Bool) (k1:OkX a b prior) (k2:OkX b a (!prior)):
  Meet t a b (rowM a b prior) (rowM b a (!prior)):=by
 have hat:=Ajr h.unf (An h.va).1 hv;have fa:=(An h.va).2.1;have fb:=(An h.vb).2.1;have hsame:a.path=b.path->v=w:=λe=>by
  rw[e,hw] at hv;injection hv with hv
  exact hv.symm
 by_cases hbe:bothEdit a b=true
 ·have hbe2:bothEdit b a=true:=by rw[Et];exact hbe
  have e1:=k1.edt hbe;have e2:=k2.edt hbe2;have r1:rowM a b prior=[editO a b prior]:=by unfold rowM;rw[hbe];rfl
  have r2:rowM b a (!prior)=[editO b a (!prior)]:=by unfold rowM;rw[hbe2];rfl
  have f1:=k1.one r1;have f2:=k2.one r2;rw[r1,r2];unfold bothEdit at hbe;simp only[Aq6,decide_eq_true_eq] at hbe;obtain⟨k6,k6',hp⟩:=hbe;have:=hsame hp.symm;subst this;exact Ajp prior h k6' k6 hp.symm hv (ha k6') (hb k6) e1 e2 f1 f2
 ·have hbf:bothEdit a b=false:=by simpa using hbe
  have hbf2:bothEdit b a=false:=by rw[Et];exact hbf
  have ka2: ¬a.kind=2:=by omega
  have ka3: ¬a.kind=3:=by omega
  have kb2: ¬b.kind=2:=by omega
  have kb3: ¬b.kind=3:=by omega
  by_cases hwon:a.kind=b.kind∧a.path=b.path∧(b.kind=5∨(b.kind=4∧a.key=b.key))
  ·obtain⟨w0,w1,w2⟩:=hwon;have won1:wonO a b=true:=by
    unfold wonO
    rcases w2 with c| ⟨c,d⟩
    ·simp[w0,w1,c]
    ·simp[w0,w1,c,d]
   have won2:wonO b a=true:=by
    unfold wonO
    rcases w2 with c| ⟨c,d⟩
    ·simp[w0,w1,c]
    ·simp[w0,w1,c,d]
   have:=hsame w1;subst this;cases prior with
   |true=>
    have r1:rowM a b true=[shiftedO a b true]:=by unfold rowM rowO;simp[hbf,kb2,won1]
    have r2:rowM b a (!true)=[]:=by unfold rowM rowO;simp[hbf2,ka2,won2]
    rw[r1,r2];refine(Acl h.swap kb (by omega) hw hv hb (Wa hat fb fa w0.symm ?_) true).swap
    rcases w2 with c| ⟨c,d⟩
    ·exact .inl (by omega)
    ·exact .inr ⟨by omega,d.symm⟩
   |false=>
    have r1:rowM a b false=[]:=by unfold rowM rowO;simp[hbf,kb2,won1]
    have r2:rowM b a (!false)=[shiftedO b a (!false)]:=by unfold rowM rowO;simp[hbf2,ka2,won2]
    rw[r1,r2];exact Acl h ka (by omega) hv hw ha (Wa hat fa fb w0 w2) (!false)
  ·have won1:wonO a b=false:=by
    cases hh:wonO a b with
    |false=>rfl
    |true=>
     unfold wonO at hh;simp only[Aq6,At0,decide_eq_true_eq] at hh;obtain⟨⟨c1,c2⟩,c3⟩:=hh;refine absurd ⟨c1.symm,c2.symm,?_⟩ hwon
     rcases c3 with c|c| ⟨c,d⟩
     ·omega
     ·exact .inl (by omega)
     ·exact .inr ⟨by omega,d.symm⟩
   have won2:wonO b a=false:=by
    cases hh:wonO b a with
    |false=>rfl
    |true=>
     unfold wonO at hh;simp only[Aq6,At0,decide_eq_true_eq] at hh;obtain⟨⟨c1,c2⟩,c3⟩:=hh;refine absurd ⟨c1,c2,?_⟩ hwon
     rcases c3 with c|c| ⟨c,d⟩
     ·omega
     ·exact .inl c
     ·exact .inr ⟨c,d⟩
   have r1:rowM a b prior=[shiftedO a b prior]:=by unfold rowM rowO;simp[hbf,kb2,kb3,won1]
   have r2:rowM b a (!prior)=[shiftedO b a (!prior)]:=by unfold rowM rowO;simp[hbf2,ka2,ka3,won2]
   rw[r1,r2];have hpath:w=v->a.path=b.path:=λe=>B5 _ _ h.unf h.nodup hv (e▸hw);have m:=Amg (!prior) h ka kb hv hw ha hb (λc1 c2 c3=>hbe (by unfold bothEdit;simp[c1,c2,hpath c3])) λe=>by
    refine Ajq hat fa fb ka kb λc=> ?_;have hp:=hpath e
    rcases c with⟨c1,c2|c2|c2⟩
    ·exact hwon ⟨c1,hp,.inl c2⟩
    ·exact hbe (by unfold bothEdit;simp[c1,c2,hp])
    ·by_cases k4:b.kind=4
     ·exact hwon ⟨c1,hp,.inr ⟨k4,c2⟩⟩
     ·by_cases k5:b.kind=5
      ·exact hwon ⟨c1,hp,.inl k5⟩
      ·have k6:b.kind=6:=by omega
       exact hbe (by unfold bothEdit;simp[c1,k6,hp])
   rw[Att] at m;exact m
theorem Amk {S:Gr α}{r xa xb:α}{t:Tree}{a b:OpT}(h:Sit S r xa xb t a b)(prior:Bool)(k1:OkX a b prior)(k2:OkX b a (!prior)):Meet t a b (rowM a b prior) (rowM b a (!prior)):=by
 obtain⟨Sa,Fa⟩:=Ajf xa h.unf (Ju h.va);obtain⟨Sb,Fb⟩:=Ajf xb h.unf (Ju h.vb);have k1':OkX a b (!(!prior)):=by rw[Att];exact k1
 have still: ∀(x y:OpT) (f:Bool),(4≤y.kind∧y.kind≤6)->x.kind=1∨x.kind=3->rowM x y f=[shiftedO x y f]∧rowM y x f=[shiftedO y x f]:=by
  intro x y f ky kx;have n1:bothEdit x y=false:=by unfold bothEdit;simp[show ¬x.kind=6 by omega]
  have n2:bothEdit y x=false:=by unfold bothEdit;simp[show ¬x.kind=6 by omega]
  have n3:wonO x y=false:=by unfold wonO;simp[show ¬y.kind=x.kind by omega]
  have n4:wonO y x=false:=by unfold wonO;simp[show ¬x.kind=y.kind by omega]
  have y2: ¬y.kind=2:=by omega
  have y3: ¬y.kind=3:=by omega
  have x2: ¬x.kind=2:=by omega
  constructor
  ·unfold rowM rowO;simp[n1,n3,y2,y3]
  ·unfold rowM rowO
   rcases kx with k|k<;>simp[n2,n4,k,y2,y3]
 have delA: ∀(Sb:Gr α),Fit S r xb b Sb-> ∀ea,Act S r xa a ea->a.kind=2->Meet t a b (rowM a b prior) (rowM b a (!prior)):=by
  intro Sb Fb ea A da;cases A with
  |ins v hk=>omega
  |mov u v hk=>omega
  |del u hk hne hu=>exact Acx h da hne hu Fb prior k1 k2
 have delB: ∀(Sa:Gr α),Fit S r xa a Sa-> ∀eb,Act S r xb b eb->b.kind=2->Meet t a b (rowM a b prior) (rowM b a (!prior)):=by
  intro Sa Fa eb B db;cases B with
  |ins v hk=>omega
  |mov u v hk=>omega
  |del u hk hne hu=>
   have:=Acx h.swap db hne hu Fa (!prior) k2 k1';rw[Att] at this;exact this.swap
 have Fa0:=Fa;have Fb0:=Fb;cases Fa with
 |act ea A la=>
  by_cases da:a.kind=2
  ·exact delA _ Fb0 _ A da
  ·cases Fb with
   |act eb B lb=>
    by_cases db:b.kind=2
    ·exact delB _ Fa0 _ B db
    ·exact Ag8 h A B la lb da db prior k1 k2
   |pay v kb hv he=>
    have ka:=J1 A;have e1:=(still a b prior kb (by omega)).1;have e2:=(still a b (!prior) kb (by omega)).2;have f2:=k2.one e2;rw[e1,e2];exact Qx prior h A la kb hv he (λc=>da c.1) f2
 |pay v ka hv ha=>
  cases Fb with
  |act eb B lb=>
   by_cases db:b.kind=2
   ·exact delB _ Fa0 _ B db
   ·have kb:=J1 B;have e1:=(still b a prior ka (by omega)).2;have e2:=(still b a (!prior) ka (by omega)).1;have f1:=k1.one e1;rw[e1,e2];have m:=Qx (!prior) h.swap B lb ka hv ha (λc=>db c.1) (by rw[Att];exact f1);rw[Att] at m;exact m.swap
  |pay w kb hw hb=>exact Ajs h ka kb hv hw ha hb prior k1 k2
end
def subN:Tree->List Nat->Option Tree
 |t,[]=>some t
 |t,i::p=>match t.subs[i]? with
  |none=>none
  |some s=>subN s p
theorem Zu (i:Nat): ∀(p:List Nat) (t:Tree),subN t (p++ [i])=(subN t p).bind λs=>s.subs[i]?
 | [],t=>by
  rw[Ar9,subN,subN];show _=t.subs[i]?;cases t.subs[i]? with
  |none=>rfl
  |some s=>rfl
 |j::p,t=>by
  rw[Arx,subN,subN];cases t.subs[j]? with
  |none=>rfl
  |some s=>exact Zu i p s
abbrev Nm:=List Nat ⊕ Bool
def nmKids (t:Tree):Nm->List Nm
 | .inl p=>match subN t p with
  |none=>[]
  |some s=>(List.range' 0 s.subs.length).map λi=>.inl (p++ [i])
 | .inr _=>[]
def nmPay (t:Tree)(x y:Pay):Nm->Pay
 | .inl p=>match subN t p with
  |none=>x
  |some s=>s.pay
 | .inr b=>bif b then x else y
def nmS (t:Tree)(x y:Pay):Gr Nm:=⟨nmKids t,nmPay t x y⟩
theorem Aoo (t:Tree)(x y:Pay)(u:Nm):(nmS t x y).kids u=nmKids t u:=rfl
theorem Apy (t:Tree)(x y:Pay)(u:Nm):(nmS t x y).pay u=nmPay t x y u:=rfl
theorem Apz (t:Tree)(x y:Pay)(s:Tree): ∀p:List Nat,subN t p=some s->Unf (nmS t x y) (.inl p) s∧(∀z∈labs (nmS t x y) (.inl p) s,∃q,z=.inl (p++q))∧(labs (nmS t x y) (.inl p) s).Nodup:=by
 induction s using Tree.ind with
 |_ s ih=>
 intro p hp;have key: ∀(ss:List Tree) (k:Nat),(∀i s',ss[i]?=some s'->s.subs[k+i]?=some s')->
   Unfs (nmS t x y) ((List.range' k ss.length).map λi=>(.inl (p++ [i]):Nm)) ss∧(∀z∈labss (nmS t x y) ((List.range' k ss.length).map λi=>(.inl (p++ [i]):Nm)) ss,∃j q,k≤j∧z=.inl (p++j::q))∧(labss (nmS t x y) ((List.range' k ss.length).map λi=>(.inl (p++ [i]):Nm)) ss).Nodup:=by
  intro ss
  induction ss with
  |nil=>
   intro k _;refine⟨by simp[Unfs],?_,by simp[labss]⟩;intro z hz;simp[labss] at hz
  |cons s' ss ihs=>
   intro k hk;have h0:s.subs[k]?=some s':=by simpa using hk 0 s' rfl
   have hm:s'∈s.subs:=Aq7 h0;obtain⟨a1,a2,a3⟩:=ih s' hm (p++ [k]) (by rw[Zu,hp];exact h0);obtain⟨b1,b2,b3⟩:=ihs (k+1) λi s'' hi=>by
    have:=hk (i+1) s'' (by simpa using hi);rwa [show k+ (i+1)=k+1+i by omega] at this
   rw[Aq8,Av4,Asa,Unfs,labss];refine⟨⟨a1,b1⟩,λz hz=> ?_,?_⟩
   ·rcases Asi.1 hz with hz|hz
    ·obtain⟨q,hq⟩:=a2 z hz;exact⟨k,q,Ara _,by rw[hq,Arz];rfl⟩
    ·obtain⟨j,q,hj,hq⟩:=b2 z hz;exact⟨j,q,by omega,hq⟩
   ·rw[As7];refine⟨a3,b3,λz hz z' hz' e=> ?_⟩;subst e;obtain⟨q,hq⟩:=a2 z hz;obtain⟨j,q',hj,hq'⟩:=b2 z hz';rw[hq,Arz] at hq';injection hq' with hq'
    have:=List.append_cancel_left hq';injection this with this
    omega
 obtain⟨c1,c2,c3⟩:=key s.subs 0 λi s' hi=>by rwa [Ary]
 have ek:(nmS t x y).kids (.inl p)=(List.range' 0 s.subs.length).map λi=>(.inl (p++ [i]):Nm):=by
  rw[Aoo,nmKids,hp]
 have ep:(nmS t x y).pay (.inl p)=s.pay:=by
  rw[Apy,nmPay,hp]
 rw[Ci,Cv,ek,ep];refine⟨⟨rfl,c1⟩,λz hz=> ?_,?_⟩
 ·rcases Arl.1 hz with rfl|hz
  ·exact⟨[],by rw[Asc]⟩
  ·obtain⟨j,q,_,hq⟩:=c2 z hz;exact⟨j::q,hq⟩
 ·rw[Atd];refine⟨λhz=> ?_,c3⟩;obtain⟨j,q,_,hq⟩:=c2 _ hz;injection hq with hq
  have:=congrArg List.length hq;simp at this
theorem Wb (o:OpT):(freshT o).subs=[]:=by
 unfold freshT;rfl
theorem Ap0 {t:Tree}{a b:OpT}(va:ValidE t a=0)(vb:ValidE t b=0):Sit (nmS t (freshT a).pay (freshT b).pay) (.inl []) (.inr true) (.inr false) t a b:=by
 obtain⟨h1,h2,h3⟩:=Apz t (freshT a).pay (freshT b).pay t [] rfl;have new: ∀b':Bool,(.inr b':Nm) ∉labs (nmS t (freshT a).pay (freshT b).pay) (.inl []) t:=λb' hm=>by
  obtain⟨q,hq⟩:=h2 _ hm;cases hq
 refine⟨h1,h3,λc=> ?_,?_,?_,new true,new false,va,vb⟩
 ·injection c with c
  cases c
 ·rw[Ci,Wb];refine⟨rfl,?_⟩;show Unfs _ [] [];rw[Unfs];trivial
 ·rw[Ci,Wb];refine⟨rfl,?_⟩;show Unfs _ [] [];rw[Unfs];trivial
theorem Aml {t:Tree}{a b:OpT}(va:ValidE t a=0)(vb:ValidE t b=0)(prior:Bool)(k1:OkX a b prior)(k2:OkX b a (!prior)):Meet t a b (rowM a b prior) (rowM b a (!prior)):=
 Amk (Ap0 va vb) prior k1 k2
theorem Qy: ∀(l:List OpT) (t T:Tree) (i j k:Nat),allR t l i=(T,j,0)-> ∃j',allR t l k=(T,j',0)
 | [],t,T,i,j,k,h=>by
  rw[allR] at h ⊢;injection h with h1 h2
  exact⟨k,by rw[h1]⟩
 |o::l,t,T,i,j,k,h=>by
  rw[allR] at h ⊢
  by_cases hv:ValidE t o=0
  ·rw[decide_eq_true hv] at h ⊢;exact Qy l _ T _ j (k+1) h
  ·rw[decide_eq_false hv] at h;injection h with _ h2
   injection h2 with _ h3
   exact absurd h3 hv
theorem Cn {t T:Tree}{o:OpT}{l:List OpT}:Comes t (o::l) T↔ValidE t o=0∧Comes (applyT t o) l T:=by
 unfold Comes;constructor
 ·rintro⟨i,h⟩;rw[allR] at h
  by_cases hv:ValidE t o=0
  ·rw[decide_eq_true hv] at h;exact⟨hv,Qy _ _ _ _ _ 0 h⟩
  ·rw[decide_eq_false hv] at h;injection h with _ h2
   injection h2 with _ h3
   exact absurd h3 hv
 ·rintro⟨hv,i,h⟩;rw[allR,decide_eq_true hv];exact Qy _ _ _ _ _ _ h
theorem Ev {t T:Tree}(h:Comes t [] T):T=t:=by
 obtain⟨i,h⟩:=h;rw[allR] at h;injection h with h
 exact h.symm
theorem Ef {t T:Tree}: ∀ {l m:List OpT},Comes t (l++m) T↔ ∃X,Comes t l X∧Comes X m T:=by
 intro l
 induction l generalizing t with
 |nil=>
  intro m;exact⟨λh=>⟨t,B0 t,h⟩,λ⟨X,h1,h2⟩=>by rw[Ev h1] at h2;exact h2⟩
 |cons o l ih=>
  intro m;rw[Arx,Cn,ih];constructor
  ·rintro⟨hv,X,h1,h2⟩;exact⟨X,Cn.2 ⟨hv,h1⟩,h2⟩
  ·rintro⟨X,h1,h2⟩;obtain⟨hv,h1⟩:=Cn.1 h1;exact⟨hv,X,h1,h2⟩
theorem Bs {t T:Tree}: ∀ {l:List OpT},Comes t l T->Comes t (bareL l) T:=by
 intro l
 induction l generalizing t with
 |nil=>exact λh=>h
 |cons o l ih=>
  intro h;obtain⟨hv,h⟩:=Cn.1 h;show Comes t (bareO o::bareL l) T;exact Cn.2 ⟨by rw[Vk];exact hv,by rw[Vl hv];exact ih h⟩
theorem Gs {t T:Tree}: ∀ {l:List OpT},rightT t=true->Comes t l T->rightT T=true:=by
 intro l
 induction l generalizing t with
 |nil=>exact λhr h=>by rw[Ev h];exact hr
 |cons o l ih=>
  intro hr h;obtain⟨hv,h⟩:=Cn.1 h;exact ih (Ds hv) h
theorem Acy {b a:OpT}{f:Bool}{l:List OpT}(h:behindX b a f=(l,0)):OkX b a f∧l=bareL (rowM b a f):=by
 have hs:=Ow h;unfold behindX at h;cases hb:bothEdit b a with
 |true=>
  rw[hb] at h;unfold behindE at h;rw[hs.1,hs.2] at h;simp only[Arm,Auc,cond_false,cond_true] at h;cases hc:decide ((transP b.pieces a.pieces f).2.2=0)&&formedB (editO b a f) with
  |false=>rw[hc] at h;cases h
  |true=>
   rw[hc] at h;rw[Aq6,decide_eq_true_eq] at hc;have er:rowM b a f=[editO b a f]:=by unfold rowM;rw[hb];rfl
   refine⟨⟨λo ho=> ?_,λ_=>hc.1⟩,?_⟩
   ·rw[er,Ar5] at ho;rw[ho];exact hc.2
   ·rw[er];exact(Prod.mk.inj h).1.symm
 |false=>
  rw[hb] at h;unfold behindO at h;rw[hs.1,hs.2] at h;simp only[Arm,Auc,cond_false] at h;have er:rowM b a f=rowO b a f:=by unfold rowM;rw[hb];rfl
  cases hf:(rowO b a f).all formedB with
  |false=>rw[hf] at h;cases h
  |true=>
   rw[hf] at h;refine⟨⟨λo ho=> ?_,λc=>by rw[hb] at c;cases c⟩,?_⟩
   ·rw[er] at ho;exact Ati.1 hf o ho
   ·rw[er];exact(Prod.mk.inj h).1.symm
theorem Ajt {t:Tree}{a b:OpT}{prior:Bool}{x y:List OpT}(va:ValidE t a=0)(vb:ValidE t b=0)(h:bothX a b prior=(x,y,0)):Meet t a b x y:=by
 obtain⟨h1,h2⟩:=T6 h;obtain⟨k1,e1⟩:=Acy h1;obtain⟨k2,e2⟩:=Acy h2;obtain⟨T,c1,c2⟩:=Aml va vb prior k1 k2;rw[e1,e2];exact⟨T,Bs c1,Bs c2⟩
theorem Sz {t:Tree}{o:OpT}(h:ValidE t o=0):soundO o=true:=by
 have hf:=(An h).2.1;unfold soundO;rw[hf];cases Ju h with
 |ins y hk=>simp[hk]
 |del x hk hne=>
  have:=Arw.2 hne;simp[hk,this]
 |mov x z hk hne hx hw=>
  have:=Arw.2 hne;simp[hk,this,hw]
 |att y hk=>simp[hk]
 |lab y hk=>simp[hk]
 |edt y hk=>simp[hk]
theorem Acz {b a:OpT}{f:Bool}(ha:soundO a=true)(hb:soundO b=true):(behindX b a f).2=0∨(behindX b a f).2=3:=by
 unfold behindX behindE behindO;rw[ha,hb];simp only[Arm,Auc,cond_false];cases bothEdit b a with
 |true=>
  cases decide ((transP b.pieces a.pieces f).2.2=0)&&formedB (editO b a f) with
  |true=>exact .inl rfl
  |false=>exact .inr rfl
 |false=>
  cases(rowO b a f).all formedB with
  |true=>exact .inl rfl
  |false=>exact .inr rfl
theorem Amm {a b:OpT}{f:Bool}(ha:soundO a=true)(hb:soundO b=true):(bothX a b f).2.2=0∨(bothX a b f).2.2=3:=by
 have h1:=Acz (b:=a) (a:=b) (f:=f) hb ha;have h2:=Acz (b:=b) (a:=a) (f:= !f) ha hb;unfold bothX
 rcases h1 with h1|h1
 ·rw[h1]
  rcases h2 with h2|h2
  ·rw[h2];exact .inl rfl
  ·rw[h2];exact .inr rfl
 ·rw[h1];exact .inr rfl
theorem Qz {t T:Tree}{o:OpT}(h:Comes t [o] T):ValidE t o=0∧T=applyT t o:=by
 obtain⟨hv,h⟩:=Cn.1 h;exact⟨hv,Ev h⟩
theorem Zv {t:Tree}{o:OpT}(h:ValidE t o=0):Comes t [o] (applyT t o):=Cn.2 ⟨h,B0 _⟩
theorem D7 (prior:Bool): ∀(n:Nat) (xs ys:List OpT) (r:List OpT×List OpT×Int) (t X Y:Tree),bringF prior n xs ys=some r->Comes t xs X->Comes t ys Y->r.2.2=3∨(r.2.2=0∧ ∃T,Comes Y r.1 T∧Comes X r.2.1 T)
 |0,_,_,_,_,_,_,h,_,_=>by cases h
 |n+1,xs,ys,r,t,X,Y,h,hx,hy=>by
  rw[A0] at h;unfold bringS at h;cases hm:muchP xs ys with
  |true=>
   rw[hm] at h;injection h with h
   subst h;exact .inl rfl
  |false=>
   rw[hm,cond_false] at h
   match xs,ys,h with
   | [],ys,h=>
    injection h with h
    subst h;rw[Ev hx];exact .inr ⟨rfl,Y,B0 _,hy⟩
   |a::xs,[],h=>
    injection h with h
    subst h;rw[Ev hy];exact .inr ⟨rfl,X,hx,B0 _⟩
   | [a],[b],h=>
    injection h with h
    subst h;obtain⟨va,rfl⟩:=Qz hx;obtain⟨vb,rfl⟩:=Qz hy
    rcases Amm (f:=prior) (Sz va) (Sz vb) with e|e
    ·refine .inr ⟨e,?_⟩;obtain⟨T,c1,c2⟩:=Ajt va vb (show bothX a b prior=((bothX a b prior).1,(bothX a b prior).2.1,0) by rw[←e]);exact⟨T,c1,c2⟩
    ·exact .inl e
   |a::a'::xs,b::ys,h=>
    simp only at h;obtain⟨va,hx'⟩:=Cn.1 hx;cases h1:bringF prior n [a] (b::ys) with
    |none=>rw[h1] at h;cases h
    |some q=>
     obtain⟨x1,y1,e1⟩:=q;rw[h1] at h;simp only at h
     rcases D7 prior n _ _ _ t (applyT t a) Y h1 (Zv va) hy with e| ⟨e,T1,c1,c2⟩
     ·simp only at e;subst e;simp only[show(decide ((3:Int)=0))=false from rfl,Ash,cond_true] at h;injection h with h
      subst h;exact .inl rfl
     ·simp only at e c1 c2;subst e;simp only[decide_true,Arm,cond_false] at h;cases h2:bringF prior n (a'::xs) y1 with
      |none=>rw[h2] at h;cases h
      |some q=>
       obtain⟨z,w,e2⟩:=q;rw[h2] at h;simp only at h
       rcases D7 prior n _ _ _ (applyT t a) X T1 h2 hx' c2 with e| ⟨e,T,d1,d2⟩
       ·simp only at e;subst e;simp only[show(decide ((3:Int)=0))=false from rfl,Ash,cond_true] at h;injection h with h
        subst h;exact .inl rfl
       ·simp only at e d1 d2;subst e;simp only[decide_true,Arm,cond_false] at h;cases hmm:muchP (x1++z) w with
        |true=>
         rw[hmm] at h;injection h with h
         subst h;exact .inl rfl
        |false=>
         rw[hmm] at h;injection h with h
         subst h;exact .inr ⟨rfl,T,Ef.2 ⟨T1,c1,d1⟩,d2⟩
   | [a],b::b'::ys,h=>
    simp only at h;obtain⟨vb,hy'⟩:=Cn.1 hy;cases h1:bringF prior n [a] [b] with
    |none=>rw[h1] at h;cases h
    |some q=>
     obtain⟨x1,y1,e1⟩:=q;rw[h1] at h;simp only at h
     rcases D7 prior n _ _ _ t X (applyT t b) h1 hx (Zv vb) with e| ⟨e,T1,c1,c2⟩
     ·simp only at e;subst e;simp only[show(decide ((3:Int)=0))=false from rfl,Ash,cond_true] at h;injection h with h
      subst h;exact .inl rfl
     ·simp only at e c1 c2;subst e;simp only[decide_true,Arm,cond_false] at h;cases h2:bringF prior n x1 (b'::ys) with
      |none=>rw[h2] at h;cases h
      |some q=>
       obtain⟨z,w,e2⟩:=q;rw[h2] at h;simp only at h
       rcases D7 prior n _ _ _ (applyT t b) T1 Y h2 c1 hy' with e| ⟨e,T,d1,d2⟩
       ·simp only at e;subst e;simp only[show(decide ((3:Int)=0))=false from rfl,Ash,cond_true] at h;injection h with h
        subst h;exact .inl rfl
       ·simp only at e d1 d2;subst e;simp only[decide_true,Arm,cond_false] at h;cases hmm:muchP z (y1++w) with
        |true=>
         rw[hmm] at h;injection h with h
         subst h;exact .inl rfl
        |false=>
         rw[hmm] at h;injection h with h
         subst h;exact .inr ⟨rfl,T,d1,Ef.2 ⟨T1,c2,d2⟩⟩
def AtMost (C:Nat)(l:List OpT):Prop:= ∀o∈l,costO o≤C
theorem Aet (a b:OpT)(prior:Bool): ∀o∈ (bothX a b prior).1,costO o≤costO a:=by
 unfold bothX;cases decide ((behindX a b prior).2=0) with
 |false=>intro o ho;cases ho
 |true=>
  cases decide ((behindX b a (!prior)).2=0) with
  |false=>intro o ho;cases ho
  |true=>exact Zf a b prior
end Bow
namespace Bow
open Go Go.Proofs
theorem Aie {l:List OpT}{n m:Nat}(hL:LightL l n m):AtMost (2+4*m) l:=λo ho=>by
 obtain⟨h1,h2⟩:=hL.ops o ho;have:=h1.label;have:=h1.key;have:=h1.value;unfold costO;omega
def ThrV (r:List OpT×List (List OpT)×Int):V:=.tup [opsV r.1,listsV r.2.1,.int .i64 r.2.2]
theorem thrZ {r:List OpT×List (List OpT)×Int}{e:Int}(h:r=([],[],e)): ∃y,Wk (.tup [.nilsl,.nilsl,.int .i64 e]) y∧y.pureB=true∧y=ThrV r:=⟨ThrV ([],[],e),Wk.tup ⟨Wk.nil 11,Wk.nil 1,.refl _,trivial⟩,rfl,by rw[h]⟩
theorem Aqo {l:List (List OpT)}{i:Nat}(h:i<l.length):(l.map opsV)[i]?=some (opsV l[i]):=by simp[h]
theorem Aan {prior:Bool}{xs ys:List OpT}(ox:OkL xs)(oy:OkL ys):OkL (listsX prior xs ys).1∧OkL (listsX prior xs ys).2.1∧(listsX prior xs ys).1.length+ (listsX prior xs ys).2.1.length≤xs.length+ys.length:=by
 obtain⟨o1,o2⟩:=Fg (prior:=prior) ox oy;have:=Gh prior xs ys;refine⟨By o1,By o2,?_⟩;show(bareL (bringX prior xs ys).1).length+ (bareL (bringX prior xs ys).2.1).length≤_;rw[Bj,Bj];exact this
structure ThrI (prior:Bool)(R:List OpT×List (List OpT)×Int)(rows:List (List OpT))(i:Nat)(bs:List OpT)(out:List (List OpT)):Prop where
 le:i≤rows.length
 eq:R=thrG prior bs out (rows.drop i)
 ok:OkL bs
 len:bs.length≤1000+1000*i
 ol:out.length=i
set_option pp.maxSteps 300 in
theorem Aid (bs:List OpT)(rows:List (List OpT))(prior:Bool)(ob:OkL bs)(orr: ∀r∈rows,OkL r∧r.length≤1000)(lb:bs.length≤1000)(lr:rows.length≤100):
  Pure Tryz.prog 60 [opsV bs,listsV rows,.bool prior] (λx=>x=ThrV (thrG prior (bareL bs) [] rows)):=by
 obtain⟨R,hR⟩: ∃R,thrG prior (bareL bs) [] rows=R:=⟨_,rfl⟩;rw[hR];refine Aj (Ad 60 Tryz.func60 rfl rfl rfl λB=> ?_);show CallThen _ _ _ _ _ _;refine Aa (Yg bs (by omega) (λo ho=>(ob o ho).1.lt)) rfl ?_;rintro x rfl;show Goes _ _ _ _;refine Dx 9 1 rfl ?_;refine Ak (ι:=Nat×List OpT×List (List OpT)×Nat) (λs=>ThrI prior R rows s.1 s.2.1 s.2.2.1) (λs=>rows.length-s.1) (λs=>[(19,.int .i64 s.1),(18,.int .i64 rows.length),(17,listsV rows),(0,opsV s.2.1),(2,.bool prior),(9,.osl (.loc 0) s.2.2.2 0 s.2.2.1.length)])
  (λs=>[some (.vec s.2.2.2 1 (s.2.2.1.map opsV))]) (0,bareL bs,[],0) 60 (λ_=>rfl) (λ_=>rfl)
  ⟨⟨Aq4 _,hR.symm,By ob,by simp only[Bj];omega,rfl⟩,⟨⟨rfl,rfl⟩,⟨?_,rfl⟩,⟨rfl,rfl⟩,⟨rfl,rfl⟩,⟨rfl,rfl⟩,⟨rfl,rfl⟩,trivial⟩,Zq1⟩ ?_
 ·show V.int _ _=_;simp
 rintro⟨i,cs,out,g⟩ hI next;simp only at hI;obtain⟨k1,k2,k3,k4,k5⟩:=hI;refine⟨λhlt=>go 60 ?_,λhge=>go 60 ?_⟩
 ·have hi:i<rows.length:=by have:=Au hlt;omega
  obtain⟨o1,o2⟩:=orr _ (Arq hi);obtain⟨q1,q2,q3⟩:=Aan (prior:=prior) k3 o1;have hcall:=Ae8 cs rows[i] prior k3 o1 (by omega);rw[Ai6 hi] at k2;obtain⟨⟨x,y,e⟩,hr⟩: ∃r,listsX prior cs rows[i]=r:=⟨_,rfl⟩;rw[hr] at k2 q1 q2 q3 hcall;simp only at k2 q1 q2 q3;refine⟨Aq5 i,_,Aqo hi,?_⟩;show CallThen _ _ _ _ _ _;refine Aa hcall rfl ?_;rintro v rfl;refine⟨λg1=>go 60 ?_,λg1=>go 60 ?_⟩
  ·have g1:=A7 g1;rw[decide_eq_false g1] at k2;exact⟨trivial,rfl,rfl,rfl,thrZ k2⟩
  have g1:=Bk g1;rw[decide_eq_true g1] at k2;refine⟨⟨rfl,trivial⟩,rfl,rfl,rfl,by simp,Ark (Arg _ (show _≤1000001 by simp only[Arf,Aq8,Arc];omega)) (by decide),?_⟩;refine⟨⟨by omega,by omega⟩,?_⟩;show Goes _ _ _ _;refine next (i+1,x,out++ [y],bump g) _ _ ⟨⟨hi,k2,q1,by simp only;omega,by simp[k5]⟩,by simp only;omega,⟨⟨rfl,rfl⟩,⟨rfl,rfl⟩,⟨rfl,rfl⟩,⟨rfl,rfl⟩,⟨rfl,rfl⟩,⟨?_,rfl⟩,trivial⟩,⟨⟨?_,rfl⟩,trivial⟩⟩
  ·exact congrArg (V.osl (.loc 0) (bump g) 0) (by simp)
  ·exact congrArg (λz=>some (HObj.vec (bump g) 1 z)) (by simp;rfl)
 ·have hi:i=rows.length:=by have:=Ah hge;omega
  subst hi;rw[Aui,thrG] at k2;refine⟨trivial,rfl,rfl,rfl,by simp,rfl,ThrV R,?_,rfl,rfl⟩;rw[k2];exact Wk.refl _
end Bow
namespace Bow
open Go
def Steps:Tree->List (List OpT)->Tree->Prop
 |t,[],T=>T=t
 |t,r::rows,T=> ∃u,Comes t r u∧Steps u rows T
theorem Af4 {prior:Bool}: ∀(rows:List (List OpT)) (bs:List OpT) (out out':List (List OpT)),(thrG prior bs out rows).1=(thrG prior bs out' rows).1∧(thrG prior bs out rows).2.2=(thrG prior bs out' rows).2.2
 | [],bs,out,out'=>by rw[thrG,thrG];exact⟨rfl,rfl⟩
 |r::rows,bs,out,out'=>by
  rw[thrG,thrG];cases !decide ((listsX prior bs r).2.2=0) with
  |true=>exact⟨rfl,rfl⟩
  |false=>exact Af4 rows _ _ _
theorem Ac0 {prior:Bool}: ∀(rows:List (List OpT)) (bs:List OpT) (out:List (List OpT)) (t T X:Tree),Steps t rows T->Comes t bs X->(thrG prior bs out rows).2.2=3∨((thrG prior bs out rows).2.2=0∧ ∃Y,Comes T (thrG prior bs out rows).1 Y)
 | [],bs,out,t,T,X,h,k=>by
  rw[Steps] at h;subst h;rw[thrG];exact .inr ⟨rfl,X,k⟩
 |r::rows,bs,out,t,T,X,h,k=>by
  obtain⟨u,h1,h2⟩:=h;rw[thrG];obtain⟨n,hn⟩:=B4 prior bs r
  rcases D7 prior n bs r _ t X u hn k h1 with e| ⟨e,Y,c1,c2⟩
  ·have e:(listsX prior bs r).2.2=3:=e;rw[e];exact .inl rfl
  ·have e:(listsX prior bs r).2.2=0:=e;rw[e];have c1:Comes u (listsX prior bs r).1 Y:=Bs c1;exact Ac0 rows _ _ u T Y h2 c1
theorem Wc {prior:Bool}: ∀(rows:List (List OpT)) (bs:List OpT) (out:List (List OpT)),∃l,(thrG prior (bareL bs) out rows).1=bareL l
 | [],bs,out=>⟨bs,by rw[thrG]⟩
 |r::rows,bs,out=>by
  rw[thrG];cases !decide ((listsX prior (bareL bs) r).2.2=0) with
  |true=>exact⟨[],rfl⟩
  |false=>exact Wc rows _ _
structure Rv where
 tree:Tree
 made:List OpT
def Linked:List Rv->Prop
 | []=>True
 | [_]=>True
 |a::b::l=>Comes a.tree b.made b.tree∧Linked (b::l)
theorem S0 {b:Rv}: ∀ {l:List Rv} {a:Rv},Linked (l++ [a])->Comes a.tree b.made b.tree->Linked (l++ [a]++ [b])
 | [],_,_,h=>⟨h,trivial⟩
 | [_],_,h,k=>⟨h.1,k,trivial⟩
 |_::d::l,_,h,k=>⟨h.1,S0 (l:=d::l) h.2 k⟩
theorem Zw: ∀ {l:List Rv},Linked l-> ∀(i:Nat) (a b:Rv),l[i]?=some a->l[i+1]?=some b->Comes a.tree b.made b.tree
 | [],_,i,a,b,h,_=>by simp at h
 | [_],_,i,a,b,_,h=>by simp at h
 |c::d::l,h,0,a,b,h1,h2=>by
  simp at h1 h2;subst h1 h2;exact h.1
 |c::d::l,h,i+1,a,b,h1,h2=>Zw (l:=d::l) h.2 i a b (by simpa using h1) (by simpa using h2)
def rowsL (l:List Rv):List (List OpT):=l.map λr=>bareL r.made
theorem Q0: ∀ {l:List Rv} {a:Rv},Linked (a::l)-> ∃z,(a::l).getLast?=some z∧Steps a.tree (rowsL l) z.tree
 | [],a,_=>⟨a,rfl,rfl⟩
 |b::l,a,h=>by
  obtain⟨z,h1,h2⟩:=Q0 h.2;refine⟨z,by rw[List.getLast?_cons_cons];exact h1,b.tree,Bs h.1,h2⟩
theorem S3: ∀ {l:List Rv} (n:Nat),Linked l->Linked (l.drop n)
 |l,0,h=>h
 | [],n+1,_=>by simp[Linked]
 | [_],n+1,_=>by simp[Linked]
 |_::b::l,n+1,h=>S3 (l:=b::l) n h.2
theorem brought {l:List Rv}{i:Nat}{a z:Rv}{bs:List OpT}{X:Tree}(h:Linked l)(hi:l[i]?=some a)(hz:l.getLast?=some z)(hc:Comes a.tree bs X):
  (thrG false (bareL bs) [] (rowsL (l.drop (i+1)))).2.2=3∨((thrG false (bareL bs) [] (rowsL (l.drop (i+1)))).2.2=0∧ ∃Y,Comes z.tree (thrG false (bareL bs) [] (rowsL (l.drop (i+1)))).1 Y):=by
 have hlt:=(Ar8.1 hi).1;have e:l.drop i=a::l.drop (i+1):=by
  rw[Aru hlt,(Ar8.1 hi).2]
 have hd:=S3 i h;rw[e] at hd;obtain⟨z',h1,h2⟩:=Q0 hd;have ez:z'=z:=by
  have:(l.drop i).getLast?=some z:=by
   rw[List.getLast?_drop,if_neg (by omega)];exact hz
  rw[e,h1] at this;injection this
 subst ez;exact Ac0 _ _ [] _ _ X h2 (Bs hc)
end Bow
namespace Bow
open Go
end Bow
namespace Bow
open Go Go.Proofs
def lastT (l:List Rv):Tree:=(l.getLast?.map Rv.tree).getD zeroT0
noncomputable def bringR (l:List Rv)(i:Nat)(o:List OpT):List OpT×Int:=
 bif !decide ((AllR ((l.getD i ⟨zeroT0,[]⟩).tree) o).2.2=0) then([],(AllR ((l.getD i ⟨zeroT0,[]⟩).tree) o).2.2)
 else bif !decide ((thrG false (bareL o) [] (rowsL (l.drop (i+1)))).2.2=0) then([],(thrG false (bareL o) [] (rowsL (l.drop (i+1)))).2.2) else((thrG false (bareL o) [] (rowsL (l.drop (i+1)))).1,0)
def rvV (r:Rv):V:=.agg ((nodeV r.tree).cells++ [opsV r.made])
def winC (low:Int)(l:List Rv):List V:=[.int .i64 low,.sl 7 (l.map rvV)]
end Bow
namespace Bow
open Go Go.Proofs
open Go Go.Proofs
open Go Go.Proofs
open Go Go.Proofs
end Bow
namespace Bow
open Go Go.Proofs
theorem Aap {ss:List Nat}: ∀l:List Int,V.apartL ss (l.map intV)=true
 | []=>rfl
 |i::l=>by rw[Asa,V.apartL,Aap l];rfl
theorem Th {ss:List Nat}: ∀l:List (List UInt8×List UInt8),V.apartL ss (l.map attrV)=true
 | []=>rfl
 |i::l=>by rw[Asa,V.apartL,Th l];rfl
theorem Ro {ss:List Nat}: ∀l:List PieceT,V.apartL ss (l.map pieceV)=true
 | []=>rfl
 |i::l=>by rw[Asa,V.apartL,Ro l];rfl
mutual
theorem Hw {ss:List Nat}(h:ss.contains 2=false∧ss.contains 6=false): ∀t:Tree,(nodeV t).apart ss=true
 | .mk i l b a c s=>by
  rw[show nodeV (.mk i l b a c s)=.agg [.int .u64 i,.bool l,.str b,.sl 2 (a.map attrV),.str c,.sl 6 (nodesV s)] from rfl];simp only[V.apart,V.apartL,h.1,h.2,Th,Kg h s,Ash,Ast]
theorem Kg {ss:List Nat}(h:ss.contains 2=false∧ss.contains 6=false): ∀l:List Tree,V.apartL ss (nodesV l)=true
 | []=>by rw[nodesV];rfl
 |s::l=>by
  have h1:=Hw h s;rw[nodesV,V.apartL,Kg h l,Avs];exact h1
end
theorem Amy {ss:List Nat}(h:ss.contains 1=false∧ss.contains 3=false)(o:OpT):(opV o).apart ss=true:=by
 show V.apart ss (.agg [.int .u8 o.kind,pathV o.path,.int .i64 o.at_,pathV o.to,.int .u64 o.id,.bool o.leaf,.str o.label,.str o.key,.str o.value,.bool o.gone,piecesV o.pieces])=true;unfold pathV piecesV;simp only[V.apart,V.apartL,h.1,h.2,Aap,Ro,Ash,Ast]
theorem Rc {ss:List Nat}(h:ss.contains 1=false∧ss.contains 3=false): ∀l:List OpT,V.apartL ss (l.map opV)=true
 | []=>rfl
 |o::l=>by rw[Asa,V.apartL,Amy h,Rc h l];rfl
theorem I0 {ss:List Nat}(h:ss.contains 1=false∧ss.contains 3=false)(h2:ss.contains 11=false)(l:List OpT):(opsV l).apart ss=true:=by
 unfold opsV;simp only[V.apart,h2,Rc h,Ash,Ast]
theorem Aew {ss:List Nat}(h:ss.contains 1=false∧ss.contains 3=false)(h2:ss.contains 11=false)(l:List (List OpT)):(listsV l).apart ss=true:=by
 have key: ∀l:List (List OpT),V.apartL ss (l.map opsV)=true:=by
  intro l
  induction l with
  |nil=>rfl
  |cons o l ih=>rw[Asa,V.apartL,I0 h h2,ih];rfl
 unfold listsV;simp only[V.apart,h.1,key,Ash,Ast]
theorem Wm {ss:List Nat}: ∀a b:List V,V.apartL ss (a++b)=(V.apartL ss a&&V.apartL ss b)
 | [],b=>by simp[V.apartL]
 |x::a,b=>by rw[Arx,V.apartL,V.apartL,Wm a b,Bool.and_assoc]
theorem Amz (r:Rv):(rvV r).apart []=true:=by
 have h1:V.apartL [] (nodeV r.tree).cells=true:=by
  have:=Hw (ss:=[]) ⟨rfl,rfl⟩ r.tree;cases hr:r.tree with
  |mk i l b a c ss=>
   rw[hr] at this;exact this
 unfold rvV;simp only[V.apart];rw[Wm,h1];simp only[V.apartL,I0 (ss:=[]) ⟨rfl,rfl⟩ rfl,Ast]
theorem Z2: ∀l:List Rv,V.apartL [] (l.map rvV)=true
 | []=>rfl
 |r::l=>by rw[Asa,V.apartL,Amz,Z2 l];rfl
theorem Mi {T:Heap}{k kv g:Nat}{low:Int}{l:List Rv}(h1:T[k]?=some (some (.box [.int .i64 low,.osl (.loc kv) g 0 (l.map rvV).length])))(h2:T[kv]?=some (some (.vec g 7 (l.map rvV)))):Lt T 7 (.ptr (.loc k) 0) (.iptr (winC low l) 0):=by
 refine .box k _ _ h1 rfl λj c d hc hd=> ?_
 match j,hc,hd with
 |0,hc,hd=>
  injection hc with hc
  injection hd with hd
  subst hc hd;exact .wk rfl (.refl _) rfl
 |1,hc,hd=>
  injection hc with hc
  injection hd with hd
  subst hc hd;exact .row kv g _ h2 (Z2 l)
 |j+2,hc,_=>simp at hc
theorem Af8 (l:List OpT)(hl:l.length≤1000000)(hok: ∀o∈l,o.Lt 1000000):Pure Tryz.prog 53 [opsV l] (λx=>x=opsV (bareL l)):=by
 refine Aj (Ad 300 Tryz.func53 rfl rfl rfl λB=> ?_);show Goes _ _ _ _;refine Dx 3 11 rfl ?_;refine Ak (ι:=Nat×Nat) (λi=>i.1≤l.length) (λi=>l.length-i.1) (λi=>[(8,.int .i64 i.1),(7,.int .i64 (l.map opV).length),(6,opsV l),(3,.osl (.loc 0) i.2 0 i.1)]) (λi=>[some (.vec i.2 11 ((bareL (l.take i.1)).map opV))]) (0,0) 300 (λ_=>rfl) (λ_=>rfl) ⟨Aq4 _,Zq4,Zq1⟩ ?_;rintro⟨i,g⟩ k1 next;simp only at k1;have hbl:(bareL (l.take i)).length=i:=by simp[bareL];omega
 refine⟨λhlt=>go 300 ?_,λhge=>go 300 ?_⟩
 ·have hi:i<l.length:=by simpa using hlt
  have hx:(l.map opV)[i]?=some (opV l[i]):=by simp[hi]
  refine⟨Aq5 i,_,hx,?_⟩;show CallThen _ _ _ _ _ _;refine Aa (Hb l[i] (hok _ (Arq hi))) rfl ?_;rintro x rfl;refine⟨⟨rfl,trivial⟩,rfl,rfl,rfl,(by rw[Arf];exact hbl.symm),Ark (Arg _ (show _≤1000001 by rw[Arf,hbl];simp only[Aq8,Arc];omega)) (by decide),?_⟩;refine⟨by constructor<;>omega,?_⟩;show Goes _ _ _ _;have e:(bareL (l.take (i+1))).map opV=(bareL (l.take i)).map opV++ [opV (bareO l[i])]:=by
   rw[Ask hi];simp only[bareL,Asr,Asa,Ate]
  refine next (i+1,bump g) _ _ ⟨hi,by simp only;omega,⟨⟨rfl,rfl⟩,⟨rfl,rfl⟩,⟨rfl,rfl⟩,⟨?_,rfl⟩,trivial⟩,⟨⟨?_,rfl⟩,trivial⟩⟩
  ·simp only[lk];exact congrArg (V.osl _ _ _) (by rw[Arf,hbl];rfl)
  ·exact congrArg (λz=>some (HObj.vec (bump g) 11 z)) e.symm
 ·have hi:i=l.length:=by have:l.length≤i:=(by simpa using hge);omega
  subst hi;refine⟨trivial,rfl,rfl,rfl,by simp[bareL],rfl,opsV (bareL l),?_,rfl,rfl⟩;show Wk (.sl 11 ((bareL (l.take l.length)).map opV)) _;rw[Asj];exact .refl _
theorem Adb (xs:List V)(hl:xs.length≤1000000):Pure Tryz.prog 83 [.sl 2 xs] (λx=>x=.sl 2 xs):=by
 refine Aj (Ad 100 Tryz.func83 rfl rfl rfl λB=> ?_);show Goes _ _ _ _;refine Lg 100 rfl rfl rfl rfl rfl rfl λb hb=> ?_;refine⟨λg=>go 100 ?_,λg=>go 100 ?_⟩
 ·rw[hb g];exact⟨trivial,rfl,rfl,rfl,.sl 2 [],Wk.nil 2,rfl,rfl⟩
 ·refine⟨trivial,rfl,rfl,Ark (Arg _ (show _≤1000000 by simpa using hl)) (by decide),?_⟩;exact⟨trivial,rfl,rfl,rfl,by simp,rfl,.sl 2 xs,.refl _,rfl,rfl⟩
theorem Adc (xs:List V)(hl:xs.length≤1000000)(hne:xs≠[]):Fun Tryz.prog 84 [] [.sl 6 xs] (λx T'=> ∃g0,x=.osl (.loc 0) g0 0 xs.length∧T'=[some (.vec g0 6 xs)]):=by
 have h:=Nl xs hl;unfold Fun at h ⊢;refine⟨h.1,λw β H m B vals cs hs hl hr=> ?_⟩;obtain⟨x,T',v,w',β',H',m',fr,hq,k⟩:=h.2 w β H m B vals cs hs hl hr;refine⟨x,T',v,w',β',H',m',fr,?_,k⟩
 rcases hq with⟨e,_⟩| ⟨e1,e2⟩
 ·exact absurd e hne
 ·exact⟨2,e1,e2⟩
theorem Ade:Pure Tryz.prog 84 [.sl 6 []] (λx=>x=.sl 6 []):=by
 refine Aj (Ad 100 Tryz.func84 rfl rfl rfl λB=> ?_);show Goes _ _ _ _;refine Lg 100 rfl rfl rfl rfl rfl rfl λb hb=> ?_;refine⟨λg=>go 100 ?_,λg=>go 100 ?_⟩
 ·exact⟨trivial,rfl,rfl,rfl,.sl 6 [],Wk.nil 6,rfl,rfl⟩
 ·refine⟨trivial,rfl,rfl,Ark (Arg _ (show _≤1000000 by simp)) (by decide),?_⟩;exact⟨trivial,rfl,rfl,rfl,by simp,rfl,.sl 6 [],.refl _,rfl,rfl⟩
theorem Aj5 {l:List V}{k:Nat}{v:V}(h:l[k]?=some v):l.set k v=l:=by
 obtain⟨hk,rfl⟩:=Ar8.1 h;exact Awc hk
theorem Ahj (t:Tree):V.apartL [0] t.subV=true:=by
 cases t with
 |mk i l b a c s=>exact Kg ⟨rfl,rfl⟩ s
theorem Ahk (t:Tree):V.apart [] (.sl 6 t.subV)=true:=by
 cases t with
 |mk i l b a c s=>
  show V.apart [] (.sl 6 (nodesV s))=true;simp only[V.apart];rw[show V.apartL [] (nodesV s)=true from Kg ⟨rfl,rfl⟩ s];rfl
theorem Z3 (t:Tree):t.weight≤1000000->Pure Tryz.prog 51 [nodeV t] (λx=>x=nodeV t):=by
 induction t using Tree.ind with
 |_ t ih=>
 intro ht;have ha:=Fe t;have hs:=Bv t;have ca:=Adb (t.attrs.map attrV) (by rw[Arf];omega)
 by_cases hne:t.subs=[]
 ·have cn:=Ade;have hn:t.subV=[]:=by rw[A2,hne];rfl
  refine Aj (Ad 60 Tryz.func51 rfl rfl rfl λB=> ?_);show Goes _ _ _ _;refine Ac [] 60 ?_;have cn:Pure Tryz.prog 84 [.sl 6 t.subV] (λx=>x=.sl 6 t.subV):=by rw[hn];exact cn
  refine⟨_,ca,rfl,_,cn,rfl,?_⟩;refine⟨by kernel_rfl,?_⟩;show Goes _ _ _ _;refine P5 ?_;refine go 60 ?_;refine⟨λq=>absurd (Au q) (by rw[hn];simp),λ_=>go 60 ?_⟩;exact⟨trivial,rfl,rfl,rfl,nodeV t,.refl _,rfl,rfl⟩
 ·have cn:=Adc t.subV (by rw[A6];omega) (by rw[A2];simpa using hne);refine Aj (Ad 60 Tryz.func51 rfl rfl rfl λB=> ?_);show Goes _ _ _ _;refine Ac [(5,true)] 60 ?_;refine⟨_,ca,rfl,?_⟩;refine⟨[2],.osl (.loc 2) 2 0 t.subV.length,_,λgs hg=>Gi 0 [] hg rfl rfl rfl rfl cn (λT' _=>⟨.wk rfl (.refl _) (Ahk t),trivial⟩) rfl (Ahj t),⟨rfl,Arp rfl⟩,?_⟩;refine⟨by kernel_rfl,?_⟩;refine⟨rfl,?_⟩;show Goes _ _ _ _;refine Ak (ι:=Nat) (λi=>i≤t.subs.length) (λi=>t.subs.length-i) (λi=>[(16,.int .i64 i),(15,.int .i64 t.subV.length),(14,.osl (.loc 2) 2 0 t.subV.length),(2,.ptr (.loc 1) 0),(1,.ptr (.loc 0) 0)])
   (λ_=>[some (.box [.int .u64 t.id,.bool t.leaf,.str t.label,.sl 2 (t.attrs.map attrV),.str t.text,.osl (.loc 2) 2 0 t.subV.length]),some (.box [.int .u64 0,.ff,.str [],.nilsl,.str [],.nilsl]),some (.vec 2 6 t.subV)]) 0 60 (λ_=>rfl) (λ_=>rfl) ⟨Aq4 _,Zq5,Zq3⟩ ?_
  rintro i k1 next;refine⟨λhlt=>go 60 ?_,λhge=>go 60 ?_⟩
  ·have hi:i<t.subs.length:=by simpa[A2] using hlt
   have hx:t.subV[0+ ((i:Nat):Int).toNat]?=some (nodeV t.subs[i]):=by simp[A2,hi]
   have hmem:=Arq hi;have hws:=D5 hmem;have cc:=ih _ hmem (by omega);have hset:=Aj5 hx;have hil:(i:Int)<t.subV.length:=by rw[A6];omega
   generalize t.subs[i]=s at hx cc hset;refine⟨rfl,Aq5 i,hil,rfl,nodeV s,hx,?_⟩;show Goes _ _ _ _;refine Ac [] 60 ?_;refine⟨_,cc,rfl,rfl,Aq5 i,hil,rfl,nodeV s,hx,?_⟩;refine⟨by kernel_rfl,?_⟩;refine⟨by constructor<;>omega,?_⟩;show Goes _ _ _ _;refine next (i+1) _ _ ⟨hi,by omega,Zq5,⟨⟨rfl,rfl⟩,⟨rfl,rfl⟩,⟨?_,rfl⟩,trivial⟩⟩;exact congrArg (λz=>some (HObj.vec 2 6 z)) hset
  ·exact⟨trivial,rfl,rfl,rfl,rfl,rfl,nodeV t,.refl _,rfl,rfl⟩
theorem Ep (l:List OpT)(hl:l.length≤1000000)(hok:OkS l):Fun Tryz.prog 75 [] [opsV l] (λx T'=> ∃g0,x=.osl (.loc 0) g0 0 ((bareL l).map opV).length∧T'=[some (.vec g0 11 ((bareL l).map opV))]):=by
 refine A9 1 rfl (Ay 300 Tryz.func75 rfl rfl rfl λimps B hi=> ?_);have:imps=[]:=Ard.1 hi;subst this;show Goes _ _ _ _;refine Dx 3 11 rfl ?_;refine Ak (ι:=Nat×Nat) (λi=>i.1≤l.length) (λi=>l.length-i.1) (λi=>[(8,.int .i64 i.1),(7,.int .i64 (l.map opV).length),(6,opsV l),(3,.osl (.loc 0) i.2 0 ((bareL (l.take i.1)).map opV).length)]) (λi=>[some (.vec i.2 11 ((bareL (l.take i.1)).map opV))]) (0,0) 300 (λ_=>rfl) (λ_=>rfl) ⟨Aq4 _,Zq4,Zq1⟩ ?_;rintro⟨i,g⟩ k1 next;simp only at k1;have hbl:(bareL (l.take i)).length=i:=by simp[bareL];omega
 refine⟨λhlt=>go 300 ?_,λhge=>go 300 ?_⟩
 ·have hi:i<l.length:=by simpa using hlt
  have hx:(l.map opV)[i]?=some (opV l[i]):=by simp[hi]
  refine⟨Aq5 i,_,hx,?_⟩;show CallThen _ _ _ _ _ _;refine Aa (Hb l[i] (hok _ (Arq hi)).lt) rfl ?_;rintro x rfl;refine⟨⟨rfl,trivial⟩,rfl,rfl,rfl,rfl,Ark (Arg _ (show _≤1000001 by rw[Arf,hbl];simp only[Aq8,Arc];omega)) (by decide),?_⟩;refine⟨by constructor<;>omega,?_⟩;show Goes _ _ _ _;have e:(bareL (l.take (i+1))).map opV=(bareL (l.take i)).map opV++ [opV (bareO l[i])]:=by
   rw[Ask hi];simp only[bareL,Asr,Asa,Ate]
  refine next (i+1,bump g) _ _ ⟨hi,by simp only;omega,⟨⟨rfl,rfl⟩,⟨rfl,rfl⟩,⟨rfl,rfl⟩,⟨?_,rfl⟩,trivial⟩,⟨⟨?_,rfl⟩,trivial⟩⟩
  ·exact congrArg (V.osl (.loc 0) (bump g) 0) (by rw[e];simp)
  ·exact congrArg (λz=>some (HObj.vec (bump g) 11 z)) e.symm
 ·have hi:i=l.length:=by have:l.length≤i:=(by simpa using hge);omega
  subst hi;rw[Asj];exact⟨trivial,rfl,rfl,[some (.vec g 11 ((bareL l).map opV))],rfl,rfl,Zq1,g,rfl,rfl⟩
theorem Aoz (l:List OpT)(hl:l.length≤1000000)(hok:OkS l):Pure Tryz.prog 75 [opsV l] (λx=>x=opsV (bareL l)):=
 Gl ((Ep l hl hok).mono λx T' h=>by
  obtain⟨g0,rfl,rfl⟩:=h;exact⟨rfl,rfl,rfl,rfl⟩)
def mayE (rev seq:Int)(t:Tree):Int:=bif decide (min rev seq<0)||decide (2305843009213693952<max rev seq) then 2 else bif !rightT t then 60 else 0
theorem Akf (rev seq:Int)(t:Tree)(hw:t.weight≤1000000):Pure Tryz.prog 62 [.int .i64 rev,.int .i64 seq,nodeV t] (λx=>x=.int .i64 (mayE rev seq t)):=by
 have c1:=Pr t hw;obtain⟨R,hR⟩: ∃R,mayE rev seq t=R:=⟨_,rfl⟩;rw[hR];unfold mayE at hR;generalize rightT t=rb at c1 hR;have e1:(if seq<rev then seq else rev)=min rev seq:=by omega
 have e2:(if seq>rev then seq else rev)=max rev seq:=by omega
 refine Ad 60 Tryz.func62 rfl rfl rfl λB=> ?_;refine⟨λq1=>go 60 ?_,λq1=>go 60 ?_⟩
 ·have q1:decide (min rev seq<0)=true:=by rw[←e1];exact q1
  exact⟨trivial,rfl,rfl,rfl,by rw[←hR,q1];rfl⟩
 have q1:decide (min rev seq<0)=false:=by rw[←e1];exact q1
 rw[q1] at hR;refine⟨λq2=>go 60 ?_,λq2=>go 60 ?_⟩
 ·have q2:decide (2305843009213693952<max rev seq)=true:=by rw[←e2];exact q2
  exact⟨trivial,rfl,rfl,rfl,by rw[←hR,q2];rfl⟩
 have q2:decide (2305843009213693952<max rev seq)=false:=by rw[←e2];exact q2
 rw[q2] at hR;show CallThen _ _ _ _ _ _;refine Aa c1 rfl ?_;rintro z rfl;refine⟨λq3=>go 60 ?_,λq3=>go 60 ?_⟩
 ·have q3:rb=false:=by simpa using q3
  exact⟨trivial,rfl,rfl,rfl,by rw[←hR,q3];rfl⟩
 ·have q3:rb=true:=by simpa using q3
  exact⟨trivial,rfl,rfl,rfl,by rw[←hR,q3];rfl⟩
theorem Rd (t:Tree):t.weight≤1000000->Pure Tryz.prog 63 [nodeV t] (λx=>x=nodeV t):=by
 induction t using Tree.ind with
 |_ t ih=>
 intro ht;have ha:=Fe t;have hs:=Bv t;refine Aj (Ad 60 Tryz.func63 rfl rfl rfl λB=> ?_);refine⟨Ark (Arg _ (show _≤1000000 by simp only[Arf];omega)) (by decide),?_⟩;show Goes _ _ _ _;refine C9 0 5 6 rfl rfl ?_;refine Ak (ι:=Nat×Nat) (λi=>i.1≤t.subs.length) (λi=>t.subs.length-i.1) (λi=>[(15,.int .i64 i.1),(14,.int .i64 t.subV.length),(13,.sl 6 t.subV),(2,.ptr (.loc 1) 0),(1,.ptr (.loc 0) 0)])
  (λi=>[some (.box [.int .u64 t.id,.bool t.leaf,.str t.label,.osl (.loc 2) 0 0 (t.attrs.map attrV).length,.str t.text,.osl (.loc 3) i.2 0 ((t.subs.take i.1).map nodeV).length]),some (.box [.int .u64 0,.ff,.str [],.nilsl,.str [],.nilsl]),some (.vec 0 2 (t.attrs.map attrV)),some (.vec i.2 6 ((t.subs.take i.1).map nodeV))]) (0,0) 60 (λ_=>rfl) (λ_=>rfl) ⟨Aq4 _,Zq5,Zq4⟩ ?_
 rintro⟨i,g⟩ k1 next;simp only at k1;have htl:(t.subs.take i).length=i:=by simp;omega
 refine⟨λhlt=>go 60 ?_,λhge=>go 60 ?_⟩
 ·have hi:i<t.subs.length:=by simpa[A2] using hlt
  have hx:t.subV[((i:Nat):Int).toNat]?=some (nodeV t.subs[i]):=by simp[A2,hi]
  have hmem:=Arq hi;have hws:=D5 hmem;have cc:=ih _ hmem (by omega);have e:(t.subs.take (i+1)).map nodeV=(t.subs.take i).map nodeV++ [nodeV t.subs[i]]:=by
   rw[Ask hi];simp only[Asr,Asa,Ate]
  generalize t.subs[i]=s at hx cc e;refine⟨Aq5 i,nodeV s,hx,?_⟩;show Goes _ _ _ _;refine Ac [] 60 ?_;refine⟨_,cc,rfl,?_⟩;refine⟨rfl,⟨rfl,trivial⟩,rfl,rfl,rfl,rfl,rfl,Ark (Arg _ (show _≤1000001 by rw[Arf,htl];simp only[Aq8,Arc];omega)) (by decide),?_⟩;refine⟨by kernel_rfl,?_⟩;refine⟨by constructor<;>omega,?_⟩;show Goes _ _ _ _;refine next (i+1,bump g) _ _ ⟨hi,by simp only;omega,Zq5,⟨⟨?_,rfl⟩,⟨rfl,rfl⟩,⟨rfl,rfl⟩,⟨?_,rfl⟩,trivial⟩⟩
  ·exact congrArg (λn=>some (HObj.box [.int .u64 t.id,.bool t.leaf,.str t.label,.osl (.loc 2) 0 0 (t.attrs.map attrV).length,.str t.text,.osl (.loc 3) (bump g) 0 n])) (by rw[e];simp)
  ·exact congrArg (λz=>some (HObj.vec (bump g) 6 z)) e.symm
 ·have hi:i=t.subs.length:=by have:t.subs.length≤i:=(by simpa[A2] using hge);omega
  subst hi;refine⟨trivial,rfl,rfl,rfl,rfl,rfl,rfl,rfl,nodeV t,?_,rfl,rfl⟩;have e:(t.subs.take t.subs.length).map nodeV=t.subV:=by rw[Asj,A2]
  exact Wk.of_eq (congrArg (λz=>V.agg [.int .u64 t.id,.bool t.leaf,.str t.label,.sl 2 (t.attrs.map attrV),.str t.text,.sl 6 z]) e)
theorem Adk (l:List OpT)(hl:l.length≤1000000)(hok:OkS l):Fun Tryz.prog 99 [] [opsV l] (λx T'=> ∃g0,x=.osl (.loc 0) g0 0 ((bareL l).map opV).length∧T'=[some (.vec g0 11 ((bareL l).map opV))]):=by
 refine A9 1 rfl (Ay 300 Tryz.func99 rfl rfl rfl λimps B hi=> ?_);have:imps=[]:=Ard.1 hi;subst this;show Goes _ _ _ _;refine Dx 3 11 rfl ?_;refine Ak (ι:=Nat×Nat) (λi=>i.1≤l.length) (λi=>l.length-i.1) (λi=>[(8,.int .i64 i.1),(7,.int .i64 (l.map opV).length),(6,opsV l),(3,.osl (.loc 0) i.2 0 ((bareL (l.take i.1)).map opV).length)]) (λi=>[some (.vec i.2 11 ((bareL (l.take i.1)).map opV))]) (0,0) 300 (λ_=>rfl) (λ_=>rfl) ⟨Aq4 _,Zq4,Zq1⟩ ?_;rintro⟨i,g⟩ k1 next;simp only at k1;have hbl:(bareL (l.take i)).length=i:=by simp[bareL];omega
 refine⟨λhlt=>go 300 ?_,λhge=>go 300 ?_⟩
 ·have hi:i<l.length:=by simpa using hlt
  have hx:(l.map opV)[i]?=some (opV l[i]):=by simp[hi]
  refine⟨Aq5 i,_,hx,?_⟩;show CallThen _ _ _ _ _ _;refine Aa (Hb l[i] (hok _ (Arq hi)).lt) rfl ?_;rintro x rfl;refine⟨⟨rfl,trivial⟩,rfl,rfl,rfl,rfl,Ark (Arg _ (show _≤1000001 by rw[Arf,hbl];simp only[Aq8,Arc];omega)) (by decide),?_⟩;refine⟨by constructor<;>omega,?_⟩;show Goes _ _ _ _;have e:(bareL (l.take (i+1))).map opV=(bareL (l.take i)).map opV++ [opV (bareO l[i])]:=by
   rw[Ask hi];simp only[bareL,Asr,Asa,Ate]
  refine next (i+1,bump g) _ _ ⟨hi,by simp only;omega,⟨⟨rfl,rfl⟩,⟨rfl,rfl⟩,⟨rfl,rfl⟩,⟨?_,rfl⟩,trivial⟩,⟨⟨?_,rfl⟩,trivial⟩⟩
  ·exact congrArg (V.osl (.loc 0) (bump g) 0) (by rw[e];simp)
  ·exact congrArg (λz=>some (HObj.vec (bump g) 11 z)) e.symm
 ·have hi:i=l.length:=by have:l.length≤i:=(by simpa using hge);omega
  subst hi;rw[Asj];exact⟨trivial,rfl,rfl,[some (.vec g 11 ((bareL l).map opV))],rfl,rfl,Zq1,g,rfl,rfl⟩
theorem Hs {l:List OpT}(h:OkL l):OkS l:=λo ho=>(h o ho).1
def BothQ (r:List OpT×List OpT×Int)(x:V)(T':Heap):Prop:= ∃g1 g2,x=.tup [.osl (.loc 0) g1 0 (r.1.map opV).length,.osl (.loc 1) g2 0 (r.2.1.map opV).length,.int .i64 r.2.2]∧T'=[some (.vec g1 11 (r.1.map opV)),some (.vec g2 11 (r.2.1.map opV))]
theorem Af9 (xs ys:List OpT)(prior:Bool)(ox:OkL xs)(oy:OkL ys)(hl:xs.length+ys.length≤1000000):Fun Tryz.prog 77 [] [opsV xs,opsV ys,.bool prior] (BothQ (listsX prior xs ys)):=by
 obtain⟨n,h⟩:=B4 prior xs ys;have cb:=L0 prior n xs ys _ h ox oy;have inv:=Gh prior xs ys;obtain⟨o1,o2⟩:=Fg (prior:=prior) ox oy;unfold listsX;obtain⟨⟨x,y,e⟩,hr⟩: ∃r,bringX prior xs ys=r:=⟨_,rfl⟩;rw[hr] at cb inv o1 o2 ⊢;simp only at inv o1 o2 ⊢;refine Ay 60 Tryz.func77 rfl rfl rfl λimps B hi=> ?_;have:imps=[]:=Ard.1 hi;subst this;show CallThen _ _ _ _ _ _;refine Aa cb rfl ?_;rintro z rfl;show CallThen _ _ _ _ _ _;refine Ag [] (Adk x (by omega) (Hs o1)) rfl rfl trivial rfl rfl rfl ?_;rintro z T1 ⟨g1,rfl,rfl⟩;refine⟨rfl,?_⟩;show CallThen _ _ _ _ _ _;refine Ag [] (Adk y (by omega) (Hs o2)) rfl rfl trivial rfl rfl rfl ?_;rintro z T1 ⟨g2,rfl,rfl⟩;refine⟨rfl,?_⟩;exact⟨trivial,rfl,rfl,g1,g2,rfl,rfl⟩
structure Cl where
 seen:Int
 seq:Int
 base:Tree
 tree:Tree
 sent:Bool
 flight:List OpT
 buffer:List OpT
def clC (c:Cl)(f b:V):List V:=[.int .i64 c.seen,.int .i64 c.seq,.int .u64 c.base.id,.bool c.base.leaf,.str c.base.label,.sl 2 (c.base.attrs.map attrV),.str c.base.text,.sl 6 c.base.subV,
 .int .u64 c.tree.id,.bool c.tree.leaf,.str c.tree.label,.sl 2 (c.tree.attrs.map attrV),.str c.tree.text,.sl 6 c.tree.subV,.bool c.sent,f,b]
def clT (c:Cl)(gf gb:Nat):Heap:=[some (.box (clC c (.osl (.loc 1) gf 0 (c.flight.map opV).length) (.osl (.loc 2) gb 0 (c.buffer.map opV).length))),some (.vec gf 11 (c.flight.map opV)),some (.vec gb 11 (c.buffer.map opV))]
def Cl.new (rev seq:Int)(t:Tree):Cl:=⟨rev,seq,t,t,false,[],[]⟩
theorem Akg (rev seq:Int)(t:Tree)(hm:mayE rev seq t=0)(hw:t.weight≤1000000):
  Fun Tryz.prog 25 [] [.int .i64 rev,.int .i64 seq,nodeV t] (λx T'=>x=.tup [.ptr (.loc 1) 0,.int .i64 0]∧T'=[some (.box (nodeV t).cells),some (.box (clC (Cl.new rev seq t) .nilsl .nilsl))]):=by
 have c1:=Akf rev seq t hw;rw[hm] at c1;have c2:=Rd t hw;refine L9 (Ay 60 Tryz.func25 rfl rfl rfl λimps B hi=> ?_);have:imps=[]:=Ard.1 hi;subst this;show CallThen _ _ _ _ _ _;refine Aa c1 rfl ?_;rintro z rfl;refine⟨λq=>absurd rfl (A7 q),λ_=>go 60 ?_⟩;show CallThen _ _ _ _ _ _;refine Aa c2 rfl ?_;rintro z rfl;exact⟨trivial,rfl,rfl,_,HTo.wkCell (x:=.ff) (y:=.bool false) 1 14 rfl rfl rfl rfl Wk.ff,rfl,rfl⟩
theorem Aho (rev seq:Int)(t:Tree)(hm:mayE rev seq t≠0)(hw:t.weight≤1000000):
  Fun Tryz.prog 25 [] [.int .i64 rev,.int .i64 seq,nodeV t] (λx T'=>x=.tup [.nilp,.int .i64 (mayE rev seq t)]∧T'=[]):=by
 have c1:=Akf rev seq t hw;generalize mayE rev seq t=e at c1 hm;refine A9 0 rfl (Ay 60 Tryz.func25 rfl rfl rfl λimps B hi=> ?_);have:imps=[]:=Ard.1 hi;subst this;show CallThen _ _ _ _ _ _;refine Aa c1 rfl ?_;rintro z rfl;refine⟨λ_=>go 60 ?_,λq=>absurd (Bk q) hm⟩;exact⟨trivial,rfl,rfl,[],rfl,rfl,trivial,rfl,rfl⟩
theorem Lx (c:Cl)(gf gb:Nat):Fun Tryz.prog 33 (clT c gf gb) [.ptr (.loc 0) 0] (λx T'=>x=.int .i64 c.seen∧T'=clT c gf gb):=by
 refine Ay 60 Tryz.func33 rfl rfl rfl λimps B hi=> ?_;show Goes _ _ _ _;refine C4 60 rfl rfl rfl rfl rfl rfl ?_;exact⟨trivial,rfl,rfl,rfl,rfl⟩
theorem Aqd (c:Cl)(gf gb:Nat):Fun Tryz.prog 46 (clT c gf gb) [.ptr (.loc 0) 0] (λx T'=>x=.int .i64 c.seq∧T'=clT c gf gb):=by
 refine Ay 60 Tryz.func46 rfl rfl rfl λimps B hi=> ?_;show Goes _ _ _ _;refine C4 60 rfl rfl rfl rfl rfl rfl ?_;exact⟨trivial,rfl,rfl,rfl,rfl⟩
theorem X8 (c:Cl)(gf gb:Nat)(hw:c.tree.weight≤1000000):Fun Tryz.prog 40 (clT c gf gb) [.ptr (.loc 0) 0] (λx T'=>x=nodeV c.tree∧T'=clT c gf gb):=by
 have cc:=Rd c.tree hw;refine A9 3 rfl (Ay 60 Tryz.func40 rfl rfl rfl λimps B hi=> ?_);show Goes _ _ _ _;refine C4 60 rfl rfl rfl rfl rfl rfl ?_;show CallThen _ _ _ _ _ _;refine Aa cc rfl ?_;rintro z rfl;exact⟨trivial,rfl,rfl,clT c gf gb,rfl,rfl,Zq3,rfl,rfl⟩
theorem X9 (c:Cl)(gf gb:Nat)(hw:c.base.weight≤1000000):Fun Tryz.prog 41 (clT c gf gb) [.ptr (.loc 0) 0] (λx T'=>x=nodeV c.base∧T'=clT c gf gb):=by
 have cc:=Rd c.base hw;refine A9 3 rfl (Ay 60 Tryz.func41 rfl rfl rfl λimps B hi=> ?_);show Goes _ _ _ _;refine C4 60 rfl rfl rfl rfl rfl rfl ?_;show CallThen _ _ _ _ _ _;refine Aa cc rfl ?_;rintro z rfl;exact⟨trivial,rfl,rfl,clT c gf gb,rfl,rfl,Zq3,rfl,rfl⟩
theorem Az {ss:List Nat}(h:ss.contains 1=false∧ss.contains 3=false)(l:List OpT):V.apartL ss (l.map opV)=true:=Rc h l
theorem Akh (c:Cl)(gf gb:Nat)(hl:c.buffer.length≤1000000)(hok:OkS c.buffer):Fun Tryz.prog 37 (clT c gf gb) [.ptr (.loc 0) 0] (λx T'=> ∃g,x=.osl (.loc 3) g 0 ((bareL c.buffer).map opV).length∧T'=clT c gf gb++ [some (.vec g 11 ((bareL c.buffer).map opV))]):=by
 have cc:=Ep c.buffer hl hok;refine Ay 60 Tryz.func37 rfl rfl rfl λimps B hi=> ?_;show Goes _ _ _ _;refine C4 60 rfl rfl rfl rfl rfl rfl ?_;show CallThen _ _ _ _ _ _;refine Dm 11 cc ⟨.row 2 gb _ rfl (Az ⟨rfl,rfl⟩ _),trivial⟩ rfl ?_ ?_
 ·rintro x T1 ⟨g,rfl,rfl⟩;exact⟨rfl,by simp only[rowsB,Az (ss:=[11]) ⟨rfl,rfl⟩,Ast]⟩
 rintro x T1 ⟨g,rfl,rfl⟩;exact⟨trivial,rfl,rfl,g,rfl,rfl⟩
theorem Z7 (c:Cl)(gf gb:Nat)(hl:c.flight.length≤1000000)(hok:OkS c.flight):Fun Tryz.prog 36 (clT c gf gb) [.ptr (.loc 0) 0] (λx T'=>x=.tup [.osl (.loc 3) 2 0 ((bareL c.flight).map opV).length,.bool c.sent]∧T'=clT c gf gb++ [some (.vec 2 11 ((bareL c.flight).map opV))]):=by
 have cc:=Ep c.flight hl hok;refine Ay 60 Tryz.func36 rfl rfl rfl λimps B hi=> ?_;show Goes _ _ _ _;refine C4 60 rfl rfl rfl rfl rfl rfl ?_;show Goes _ _ _ _;refine Ac [(4,true)] 60 ?_;refine⟨[3,1],.osl (.loc 3) 2 0 ((bareL c.flight).map opV).length,[(3,some (.vec 2 11 ((bareL c.flight).map opV)))],λgs hg=>Gi 11 [1] hg rfl rfl rfl rfl cc (λT' hT=>⟨.row 1 gf _ ((hT 1 (by simp)).trans rfl) (Az ⟨rfl,rfl⟩ _),trivial⟩) rfl (Az ⟨rfl,rfl⟩ _),⟨rfl,show 3<4 by decide⟩,?_⟩;refine⟨by kernel_rfl,?_⟩;exact⟨trivial,rfl,rfl,rfl,rfl⟩
def firstBad:List OpT->Int
 | []=>0
 |o::l=>bif decide (fitsE [o]=0) then firstBad l else fitsE [o]
def Cl.edit (c:Cl)(l:List OpT):Cl×Int:=
 bif !decide (firstBad l=0) then(c,firstBad l) else bif decide (512< (c.buffer.length:Int)+l.length) then(c,3)
 else bif decide ((AllR c.tree l).2.2=0) then({c with tree:=(AllR c.tree l).1,buffer:=c.buffer++bareL l},0) else(c,(AllR c.tree l).2.2)
theorem R5 (c:Cl)(gf gb:Nat)(l:List OpT)(hb:c.buffer.length≤100000)(hl:l.length≤100000)(hok:OkL l)(hw:c.tree.weight+costs l≤400000):
  Fun Tryz.prog 29 (clT c gf gb) [.ptr (.loc 0) 0,opsV l] (λx T'=> ∃gb',x=.int .i64 (c.edit l).2∧T'=clT (c.edit l).1 gf gb'):=by
 have ca:=Hu c.tree l hw (by omega) λz hz=>(hok z hz).1;have cb:=Aoz l (by omega) (Hs hok);obtain⟨R,hR⟩: ∃R,c.edit l=R:=⟨_,rfl⟩;rw[hR];unfold Cl.edit at hR;obtain⟨⟨t2,n2,er⟩,hA⟩: ∃r,AllR c.tree l=r:=⟨_,rfl⟩;rw[hA] at ca hR;simp only at hR;refine A9 3 rfl (Ay 60 Tryz.func29 rfl rfl rfl λimps B hi=> ?_);show Goes _ _ _ _;refine C4 60 rfl rfl rfl rfl rfl rfl ?_;show Goes _ _ _ _;refine Ak (ι:=Nat) (λi=>i≤l.length∧firstBad (l.drop i)=firstBad l) (λi=>l.length-i)
  (λi=>[(14,.int .i64 i),(13,.int .i64 (l.map opV).length),(1,opsV l),(0,.ptr (.loc 0) 0)]) (λ_=>clT c gf gb) 0 60 (λ_=>rfl) (λ_=>by rw[hi];rfl)
  ⟨⟨Aq4 _,rfl⟩,Zq4,Zq3⟩ ?_
 rintro i ⟨k1,k2⟩ next;refine⟨λhlt=>go 60 ?_,λhge=>go 60 ?_⟩
 ·have hi:i<l.length:=by simpa using hlt
  have hd:l.drop i=l[i]::l.drop (i+1):=Aru hi;have e:V.sl 11 (((l.map opV).drop ((i:Int)).toNat).take (((i:Int)+1).toNat- ((i:Int)).toNat))=opsV [l[i]]:=by
   show _=V.sl 11 [opV l[i]];rw[←At3,show((i:Int)).toNat=i by omega,hd,show((i:Int)+1).toNat-i=1 by omega];rfl
  have cf:=Aj7 [l[i]] (by simp) (by simpa using(hok _ (Arq hi)).1);rw[hd,firstBad] at k2;generalize l[i]=o at e cf k2;generalize fitsE [o]=ef at cf k2;refine⟨by constructor<;>omega,?_⟩;refine⟨Aq5 i,by omega,by simp;omega,?_⟩;show CallThen _ _ _ _ _ _;refine Aa (Fx cf ⟨Wk.of_eq e,trivial⟩ rfl rfl) rfl ?_;rintro z rfl;refine⟨λq=>go 60 ?_,λq=>go 60 ?_⟩
  ·have q:=A7 q;rw[decide_eq_false q,cond_false] at k2;rw[←k2,decide_eq_false q] at hR;exact⟨trivial,rfl,rfl,clT c gf gb,rfl,rfl,Zq3,gb,by rw[←hR];rfl,by rw[←hR];rfl⟩
  have q:=Bk q;rw[decide_eq_true q,cond_true] at k2;refine⟨by constructor<;>omega,?_⟩;show Goes _ _ _ _;exact next (i+1) _ _ ⟨⟨hi,k2⟩,by omega,Zq4,Zq3⟩
 have hi:l.length≤i:=by simpa using hge
 rw[At9 hi] at k2;have h0:firstBad l=0:=k2.symm;rw[h0] at hR;refine⟨rfl,by constructor<;>(simp;omega),?_⟩;have el:((c.buffer.map opV).length:Int)+ (l.map opV).length=c.buffer.length+l.length:=by simp
 refine⟨λq=>go 60 ?_,λq=>go 60 ?_⟩
 ·have q:decide (512< (c.buffer.length:Int)+l.length)=true:=by rw[←el];exact q
  rw[q] at hR;exact⟨trivial,rfl,rfl,clT c gf gb,rfl,rfl,Zq3,gb,by rw[←hR];rfl,by rw[←hR];rfl⟩
 have q:decide (512< (c.buffer.length:Int)+l.length)=false:=by rw[←el];exact q
 rw[q] at hR;show CallThen _ _ _ _ _ _;refine Aa ca rfl ?_;rintro z rfl;refine⟨λq2=>go 60 ?_,λq2=>go 60 ?_⟩
 rotate_left
 ·have q2:decide (er=0)=false:=q2;rw[q2] at hR;exact⟨trivial,rfl,rfl,clT c gf gb,rfl,rfl,Zq3,gb,by rw[←hR];rfl,by rw[←hR];rfl⟩
 have q2:decide (er=0)=true:=q2;have e0:=of_decide_eq_true q2;rw[q2] at hR;show Goes _ _ _ _;refine Ac [] 60 ?_;refine⟨_,cb,rfl,?_⟩;refine⟨rfl,rfl,Ark (Arg _ (show _≤1000001 by simp only[Arf,Bj];omega)) (by decide),?_⟩;refine⟨by kernel_rfl,?_⟩;refine⟨trivial,rfl,rfl,clT {c with tree:=t2,buffer:=c.buffer++bareL l} gf (bump gb),rfl,rfl,⟨⟨?_,rfl⟩,⟨rfl,rfl⟩,⟨?_,rfl⟩,trivial⟩,bump gb,by rw[←hR,e0];rfl,by rw[←hR];rfl⟩
 ·exact congrArg (λn=>some (HObj.box (clC {c with tree:=t2} (.osl (.loc 1) gf 0 (c.flight.map opV).length) (.osl (.loc 2) (bump gb) 0 n)))) (by simp)
 ·exact congrArg (λz=>some (HObj.vec (bump gb) 11 z)) (by simp)
def Cl.accepted (c:Cl)(rev:Int):Cl×Int:=
 bif !c.sent|| !decide (rev=c.seen+1) then(c,4)
 else bif decide ((AllR c.base c.flight).2.2=0) then({c with base:=(AllR c.base c.flight).1,seen:=rev,sent:=false,flight:=[]},0) else(c,(AllR c.base c.flight).2.2)
def Cl.pending (c:Cl)(taken:Bool):List OpT:=bif taken then c.buffer else c.flight++c.buffer
def Cl.dropped (c:Cl):Cl:= {c with sent:=false,flight:=[],buffer:=[],tree:=c.base}
def scAll (n:Nat):Heap->Bool
 | []=>true
 |none::T=>scAll n T
 |some o::T=>o.scB n&&scAll n T
theorem Cf {n:Nat}: ∀(T R:Heap),scAll n T=true->heapIs n (T++R) T
 | [],R,_=>by cases R<;>trivial
 |none::T,R,h=>⟨rfl,Cf T R h⟩
 |some o::T,R,h=>by
  simp only[scAll,Aq6] at h;exact⟨⟨rfl,h.1⟩,Cf T R h.2⟩
def clNC (c:Cl)(s f b:V):List V:=[.int .i64 c.seen,.int .i64 c.seq,.int .u64 c.base.id,.bool c.base.leaf,.str c.base.label,.sl 2 (c.base.attrs.map attrV),.str c.base.text,.sl 6 c.base.subV,.int .u64 c.tree.id,.bool c.tree.leaf,.str c.tree.label,.sl 2 (c.tree.attrs.map attrV),.str c.tree.text,.sl 6 c.tree.subV,s,f,b]
def clN (c:Cl)(s f b:V)(l:List HObj):Heap:=some (.box (clNC c s f b))::l.map some
theorem Wp (c:Cl)(gf gb:Nat):clT c gf gb=clN c (.bool c.sent) (.osl (.loc 1) gf 0 (c.flight.map opV).length) (.osl (.loc 2) gb 0 (c.buffer.map opV).length) [.vec gf 11 (c.flight.map opV),.vec gb 11 (c.buffer.map opV)]:=rfl
theorem Aki (c:Cl)(gf gb:Nat)(fs bs:List V)(r r':HObj)(hs:c.sent=false)(hf:c.flight=[])(hb:c.buffer=[]):
  HTo (clN c .ff .nilsl .nilsl [.vec gf 11 fs,.vec gb 11 bs,r,r']) ((clT c (bump gf) (bump gb)++ [some r,some r'])++ [none,none]):=by
 have e:clT c (bump gf) (bump gb)=clN c (.bool false) (.osl (.loc 1) (bump gf) 0 0) (.osl (.loc 2) (bump gb) 0 0) [.vec (bump gf) 11 [],.vec (bump gb) 11 []]:=by
  rw[Wp,hs,hf,hb];rfl
 rw[e];refine HTo.trans (HTo.ownCell (cs:=clNC c .ff .nilsl .nilsl) 0 15 11 rfl rfl) ?_;refine HTo.trans (T':=clN c .ff (.osl (.loc 5) 0 0 0) (.osl (.loc 6) 0 0 0) [.vec gf 11 fs,.vec gb 11 bs,r,r',.vec 0 11 [],.vec 0 11 []]) (HTo.ownCell (T:=clN c .ff (.osl (.loc 5) 0 0 0) .nilsl [.vec gf 11 fs,.vec gb 11 bs,r,r',.vec 0 11 []]) (cs:=clNC c .ff (.osl (.loc 5) 0 0 0) .nilsl) 0 16 11 rfl rfl) ?_;refine HTo.trans (HTo.into (cs:=clNC c .ff (.osl (.loc 5) 0 0 0) (.osl (.loc 6) 0 0 0)) (xs:=[]) (g:=0) (n:=0) 0 15 5 1 rfl rfl rfl rfl rfl rfl (Ara _)) ?_;refine HTo.trans (HTo.into (cs:=clNC c .ff (.osl (.loc 1) (bump gf) 0 0) (.osl (.loc 6) 0 0 0)) (xs:=[]) (g:=0) (n:=0) 0 16 6 2 rfl rfl rfl rfl rfl rfl (Ara _)) ?_;exact HTo.wkCell (cs:=clNC c .ff (.osl (.loc 1) (bump gf) 0 0) (.osl (.loc 2) (bump gb) 0 0)) (x:=.ff) (y:=.bool false) 0 14 rfl rfl rfl rfl Wk.ff
def dropQ (c:Cl)(gf gb:Nat)(l:List OpT)(x:V)(T':Heap):Prop:= ∃g,x=.osl (.loc 4) g 0 ((bareL l).map opV).length∧T'=clT c (bump (bump gf)) (bump gb)++ [some (.vec 0 0 []),some (.vec g 11 ((bareL l).map opV))]
theorem Ao0 (c:Cl)(gf gb:Nat)(taken:Bool)(hl:c.flight.length+c.buffer.length≤100000)(of:OkS c.flight)(ob:OkS c.buffer):
  Fun Tryz.prog 78 (clT c gf gb) [.ptr (.loc 0) 0,.bool taken] (dropQ c.dropped gf gb (c.pending taken)):=by
 have c1:=Ep c.buffer (by omega) ob;have c2:=Ep (c.flight++c.buffer) (by simp;omega) (λo ho=>by rcases Asi.1 ho with h|h;exact of o h;exact ob o h);have happ:c.flight.map opV++c.buffer.map opV=(c.flight++c.buffer).map opV:=by simp
 have hlen:(c.flight.map opV).length+ (c.buffer.map opV).length=((c.flight++c.buffer).map opV).length:=by simp
 refine A9 5 rfl (L9 (Ay 60 Tryz.func78 rfl rfl rfl λimps B hi=> ?_));show Goes _ _ _ _;refine Ac [] 60 ?_;refine⟨rfl,rfl,rfl,rfl,Ark (Arg _ (show _≤1000001 by simp only[Arf];omega)) (by decide),?_⟩;refine⟨by kernel_rfl,?_⟩;cases taken with
 |true=>
  refine⟨λ_=>go 60 ?_,λq=>absurd q (by decide)⟩;show CallThen _ _ _ _ _ _;refine Dm 11 c1 ⟨.row 2 gb _ rfl (Az ⟨rfl,rfl⟩ _),trivial⟩ rfl ?_ ?_
  ·rintro x T1 ⟨g,rfl,rfl⟩;exact⟨rfl,by simp only[rowsB,Az (ss:=[11]) ⟨rfl,rfl⟩,Ast]⟩
  rintro x T1 ⟨g,rfl,rfl⟩;refine⟨trivial,rfl,rfl,_,Aki c.dropped (bump gf) gb (c.flight.map opV++c.buffer.map opV) (c.buffer.map opV) (.vec 0 0 []) (.vec g 11 _) rfl rfl rfl,?_⟩;exact⟨clT c.dropped (bump (bump gf)) (bump gb)++ [some (.vec 0 0 []),some (.vec g 11 ((bareL c.buffer).map opV))],rfl,rfl,Cf _ _ rfl,g,rfl,rfl⟩
 |false=>
  refine⟨λq=>absurd q (by decide),λ_=>go 60 ?_⟩;show CallThen _ _ _ _ _ _;refine Dm 11 c2 ⟨?_,trivial⟩ rfl ?_ ?_
  ·exact .cut (xs:=c.flight.map opV++c.buffer.map opV) rfl (by simp) (by rw[happ];exact Az ⟨rfl,rfl⟩ _) (by rw[Atz,happ,Ars (by simp)])
  ·rintro x T1 ⟨g,rfl,rfl⟩;exact⟨rfl,by simp only[rowsB,Az (ss:=[11]) ⟨rfl,rfl⟩,Ast]⟩
  rintro x T1 ⟨g,rfl,rfl⟩;refine⟨trivial,rfl,rfl,_,Aki c.dropped (bump gf) gb (c.flight.map opV++c.buffer.map opV) (c.buffer.map opV) (.vec 0 0 []) (.vec g 11 _) rfl rfl rfl,?_⟩;exact⟨clT c.dropped (bump (bump gf)) (bump gb)++ [some (.vec 0 0 []),some (.vec g 11 ((bareL (c.flight++c.buffer)).map opV))],rfl,rfl,Cf _ _ rfl,g,rfl,rfl⟩
end Bow
namespace Bow
open Go
def WkA:List V->List V->Prop
 | [],[]=>True
 |x::xs,y::ys=>(x=y∨(x.pureB=true∧y.pureB=true∧Wk x y))∧WkA xs ys
 |_,_=>False
theorem WkA.get: ∀ {xs ys:List V},WkA xs ys->xs.length=ys.length∧ ∀(j:Nat) (y:V),ys[j]?=some y-> ∃x,xs[j]?=some x∧(x=y∨(x.pureB=true∧y.pureB=true∧Wk x y))
 | [],[],_=>⟨rfl,λj y h=>by simp at h⟩
 |x::xs,y::ys,h=>by
  obtain⟨h1,h2⟩:=WkA.get h.2;refine⟨by simp[h1],λj z hz=> ?_⟩;cases j with
  |zero=>simp at hz;subst hz;exact⟨x,rfl,h.1⟩
  |succ j=>simpa using h2 j z (by simpa using hz)
 | [],_::_,h=>h.elim
 |_::_,[],h=>h.elim
theorem Aoc {c:Cx}{g:FuncId}{args args':List V}{E:Env}{T:Heap}{K:V->St->Prop}(hw:WkA args args')(h:CallThen c g args' E T K):CallThen c g args E T K:=by
 unfold CallThen at*;obtain⟨hl,hg⟩:=hw.get;refine⟨h.1,λw β H m a vals cs hs hlen hr=>h.2 w β H m a vals cs hs (by omega) λj y v hj hv=> ?_⟩;obtain⟨x,hx,hxy⟩:=hg j y hj;have h1:=hr j x v hx hv
 rcases hxy with rfl| ⟨p1,p2,hw⟩
 ·exact h1
 ·rw[Ao _ _ p1] at h1;rw[Ao _ _ p2];exact hw _ _ _ _ h1
end Bow
namespace Bow
open Go Go.Proofs
theorem Aa3 (c:Cl)(gf gb:Nat)(hs:c.sent=false):Fun Tryz.prog 35 (clT c gf gb) [.ptr (.loc 0) 0] (λx T'=>x=.tup [.nilsl,.int .i64 4]∧T'=clT c gf gb):=by
 refine Ay 60 Tryz.func35 rfl rfl rfl λimps B hi=> ?_;show Goes _ _ _ _;refine C4 60 rfl rfl rfl rfl rfl rfl ?_;refine⟨λ_=>go 60 ?_,λq=>absurd q (by rw[hs];decide)⟩;exact⟨trivial,rfl,rfl,rfl,rfl⟩
theorem Ahp (c:Cl)(gf gb:Nat)(hs:c.sent=true)(hl:c.flight.length+c.buffer.length≤100000)(of:OkS c.flight)(ob:OkS c.buffer):
  Fun Tryz.prog 35 (clT c gf gb) [.ptr (.loc 0) 0] (λx T'=> ∃y,dropQ c.dropped gf gb (c.flight++c.buffer) y T'∧x=.tup [y,.int .i64 0]):=by
 refine Ay 60 Tryz.func35 rfl rfl rfl λimps B hi=> ?_;show Goes _ _ _ _;refine C4 60 rfl rfl rfl rfl rfl rfl ?_;refine⟨λq=>absurd q (by rw[hs];decide),λ_=>go 60 ?_⟩;show CallThen _ _ _ _ _ _;have cd:=Ao0 c gf gb false hl of ob;refine Aoc (args':=[.ptr (.loc 0) 0,.bool false]) ⟨.inl rfl,.inr ⟨rfl,rfl,Wk.ff⟩,trivial⟩ ?_;refine Ag [0,1,2] cd rfl rfl Zq3 rfl rfl rfl ?_;rintro x T1 ⟨g,rfl,rfl⟩;refine⟨rfl,?_⟩;exact⟨trivial,rfl,rfl,_,⟨g,rfl,rfl⟩,rfl⟩
theorem Aez (c:Cl)(gf gb:Nat)(hs:c.sent=true)(hl:c.flight.length+c.buffer.length≤100000)(of:OkS c.flight)(ob:OkS c.buffer):
  Fun Tryz.prog 35 (clT c gf gb) [.ptr (.loc 0) 0] (λx T'=>x=.tup [opsV (bareL (c.flight++c.buffer)),.int .i64 0]∧T'=clT c.dropped (bump (bump gf)) (bump gb)):=by
 refine A9 3 rfl (Ol ((Ahp c gf gb hs hl of ob).mono λx T' hq=> ?_));obtain⟨y,⟨g,rfl,rfl⟩,rfl⟩:=hq;exact⟨rfl,rfl,rfl,clT c.dropped (bump (bump gf)) (bump gb),rfl,rfl,Cf (clT c.dropped (bump (bump gf)) (bump gb)) [_,_] rfl,rfl,rfl⟩
theorem Z8 {r:Tree×Nat×Int}:(AllV r).apart [11]=true:=by
 unfold AllV;simp only[V.apart,V.apartL,Hw (ss:=[11]) ⟨rfl,rfl⟩,Ast]
theorem Ao1 (c:Cl)(gf gb:Nat)(fs:List V)(r:HObj)(hs:c.sent=false)(hf:c.flight=[]):
  HTo (clN c .ff .nilsl (.osl (.loc 2) gb 0 (c.buffer.map opV).length) [.vec gf 11 fs,.vec gb 11 (c.buffer.map opV),r]) (clT c (bump gf) gb++ [some r,none]):=by
 rw[Wp,hs,hf];refine HTo.trans (HTo.ownCell (cs:=clNC c .ff .nilsl (.osl (.loc 2) gb 0 (c.buffer.map opV).length)) 0 15 11 rfl rfl) ?_;refine HTo.trans (HTo.into (cs:=clNC c .ff (.osl (.loc 4) 0 0 0) (.osl (.loc 2) gb 0 (c.buffer.map opV).length)) (xs:=[]) (g:=0) (n:=0) 0 15 4 1 rfl rfl rfl rfl rfl rfl (Ara _)) ?_;exact HTo.wkCell (cs:=clNC c .ff (.osl (.loc 1) (bump gf) 0 0) (.osl (.loc 2) gb 0 (c.buffer.map opV).length)) (x:=.ff) (y:=.bool false) 0 14 rfl rfl rfl rfl Wk.ff
def hgen (b:Bool)(g:Nat):Nat:=bif b then bump g else g
theorem Tc (c:Cl)(gf gb:Nat)(rev:Int)(hs:c.seen≤4611686018427387904∧0≤c.seen)(hl:c.flight.length≤100000)(ok:OkL c.flight)(hw:c.base.weight+costs c.flight≤400000):
  Fun Tryz.prog 34 (clT c gf gb) [.ptr (.loc 0) 0,.int .i64 rev] (λx T'=>x=.int .i64 (c.accepted rev).2∧T'=clT (c.accepted rev).1 (hgen (decide ((c.accepted rev).2=0)) gf) gb):=by
 have ca:=Hu c.base c.flight hw (by omega) λz hz=>(ok z hz).1;obtain⟨R,hR⟩: ∃R,c.accepted rev=R:=⟨_,rfl⟩;rw[hR];unfold Cl.accepted at hR;obtain⟨⟨t2,n2,er⟩,hA⟩: ∃r,AllR c.base c.flight=r:=⟨_,rfl⟩;rw[hA] at ca hR;simp only at hR;refine A9 3 rfl (L9 (Ay 60 Tryz.func34 rfl rfl rfl λimps B hi=> ?_));show Goes _ _ _ _;refine C4 60 rfl rfl rfl rfl rfl rfl ?_;refine⟨λq=>go 60 ?_,λq=>go 60 ?_⟩
 ·rw[show(!c.sent)=true from q] at hR;exact⟨trivial,rfl,rfl,_,HTo.refl _,clT c gf gb,rfl,rfl,Zq3,by rw[←hR];rfl,by rw[←hR];rfl⟩
 rw[show(!c.sent)=false from q] at hR;refine⟨by constructor<;>omega,?_⟩;refine⟨λq2=>go 60 ?_,λq2=>go 60 ?_⟩
 ·have q2:=A7 q2;rw[decide_eq_false q2] at hR;exact⟨trivial,rfl,rfl,_,HTo.refl _,clT c gf gb,rfl,rfl,Zq3,by rw[←hR];rfl,by rw[←hR];rfl⟩
 have q2:=Bk q2;rw[decide_eq_true q2] at hR;show Goes _ _ _ _;refine Ac [(8,false)] 60 ?_;refine⟨[1],AllV (t2,n2,er),[],λgs hg=>Bl 11 [1] hg rfl rfl rfl ca (λT' hT=>⟨.wk rfl (.refl _) (Hw ⟨rfl,rfl⟩ _),.row 1 gf _ ((hT 1 (by simp)).trans rfl) (Az ⟨rfl,rfl⟩ _),trivial⟩) rfl Z8,trivial,?_⟩;refine⟨by kernel_rfl,?_⟩;refine⟨by kernel_rfl,?_⟩;refine⟨λq3=>go 60 ?_,λq3=>go 60 ?_⟩
 ·have q3:decide (er=0)=true:=q3;rw[q3] at hR;have e0:=of_decide_eq_true q3;exact⟨trivial,rfl,rfl,_,Ao1 {c with base:=t2,seen:=rev,sent:=false,flight:=[]} gf gb (c.flight.map opV) (.box (nodeV t2).cells) rfl rfl,clT {c with base:=t2,seen:=rev,sent:=false,flight:=[]} (bump gf) gb,rfl,rfl,Cf _ _ rfl,by rw[←hR,e0];rfl,by rw[←hR];rfl⟩
 ·have q3:decide (er=0)=false:=q3;rw[q3] at hR;exact⟨trivial,rfl,rfl,_,HTo.refl _,clT c gf gb,rfl,rfl,Zq3,by rw[←hR];rfl,by rw[←hR];show clT c gf gb=clT c (hgen (decide (er=0)) gf) gb;rw[q3];rfl⟩
noncomputable def Cl.hear (c:Cl)(rev:Int)(l:List OpT):Cl×Int:=
 bif !decide (rev=c.seen+1) then(c,4)
 else bif !decide ((AllR c.base l).2.2=0) then(c,(AllR c.base l).2.2)
 else bif !decide ((listsX true l c.flight).2.2=0) then(c,(listsX true l c.flight).2.2)
 else bif !decide ((listsX true (listsX true l c.flight).1 c.buffer).2.2=0) then(c,(listsX true (listsX true l c.flight).1 c.buffer).2.2)
 else({c with base:=(AllR c.base l).1,tree:=(AllR c.tree (listsX true (listsX true l c.flight).1 c.buffer).1).1,seen:=rev,flight:=(listsX true l c.flight).2.1,buffer:=(listsX true (listsX true l c.flight).1 c.buffer).2.1},0)
theorem Ao2 (c:Cl)(gf gb g6 g8:Nat)(fs bs:List V)(b3 b4 r5 r7:HObj):
  HTo (clN c (.bool c.sent) (.osl (.loc 6) g6 0 (c.flight.map opV).length) (.osl (.loc 8) g8 0 (c.buffer.map opV).length) [.vec gf 11 fs,.vec gb 11 bs,b3,b4,r5,.vec g6 11 (c.flight.map opV),r7,.vec g8 11 (c.buffer.map opV)])
   (clT c (bump gf) (bump gb)++ [some b3,some b4,some r5,none,some r7,none]):=by
 rw[Wp];have e1:(c.flight.map opV).take (c.flight.map opV).length=c.flight.map opV:=Asj;have e2:(c.buffer.map opV).take (c.buffer.map opV).length=c.buffer.map opV:=Asj;have h1:=HTo.into (T:=clN c (.bool c.sent) (.osl (.loc 6) g6 0 (c.flight.map opV).length) (.osl (.loc 8) g8 0 (c.buffer.map opV).length) [.vec gf 11 fs,.vec gb 11 bs,b3,b4,r5,.vec g6 11 (c.flight.map opV),r7,.vec g8 11 (c.buffer.map opV)])
  (cs:=clNC c (.bool c.sent) (.osl (.loc 6) g6 0 (c.flight.map opV).length) (.osl (.loc 8) g8 0 (c.buffer.map opV).length)) (xs:=c.flight.map opV) (g:=g6) (n:=(c.flight.map opV).length) 0 15 6 1 rfl rfl rfl rfl rfl rfl (Ara _)
 rw[e1] at h1;refine HTo.trans h1 ?_;have h2:=HTo.into (T:=some (.box (clNC c (.bool c.sent) (.osl (.loc 1) (bump gf) 0 (c.flight.map opV).length) (.osl (.loc 8) g8 0 (c.buffer.map opV).length)))::[some (.vec (bump gf) 11 (c.flight.map opV)),some (.vec gb 11 bs),some b3,some b4,some r5,none,some r7,some (.vec g8 11 (c.buffer.map opV))])
  (cs:=clNC c (.bool c.sent) (.osl (.loc 1) (bump gf) 0 (c.flight.map opV).length) (.osl (.loc 8) g8 0 (c.buffer.map opV).length)) (xs:=c.buffer.map opV) (g:=g8) (n:=(c.buffer.map opV).length) 0 16 8 2 rfl rfl rfl rfl rfl rfl (Ara _)
 rw[e2] at h2;exact h2
theorem Adl {r:List OpT×List OpT×Int}{x:V}{T':Heap}(h:BothQ r x T'):x.retB 11=true∧rowsB 11 T'=true:=by
 obtain⟨g1,g2,rfl,rfl⟩:=h;exact⟨rfl,by simp only[rowsB,Az (ss:=[11]) ⟨rfl,rfl⟩,Ast]⟩
theorem Aga (c:Cl)(gf gb:Nat)(rev:Int)(l:List OpT)(hs:c.seen≤4611686018427387904∧0≤c.seen)(hl:l.length+c.flight.length+c.buffer.length≤100000)(ol:OkL l)(of:OkL c.flight)(ob:OkL c.buffer)
  (hw1:c.base.weight+costs l≤400000) (hw2:c.tree.weight+costs (listsX true (listsX true l c.flight).1 c.buffer).1≤400000):
  Fun Tryz.prog 31 (clT c gf gb) [.ptr (.loc 0) 0,.int .i64 rev,opsV l] (λx T'=>x=.int .i64 (c.hear rev l).2∧T'=clT (c.hear rev l).1 (hgen (decide ((c.hear rev l).2=0)) gf) (hgen (decide ((c.hear rev l).2=0)) gb)):=by
 have ca:=Hu c.base l hw1 (by omega) λz hz=>(ol z hz).1;have c1:=Af9 l c.flight true ol of (by omega);have i1:(listsX true l c.flight).1.length+ (listsX true l c.flight).2.1.length≤l.length+c.flight.length:=by
  have:=Gh true l c.flight;show(bareL _).length+ (bareL _).length≤_;rw[Bj,Bj];exact this
 have o1:OkL (listsX true l c.flight).1:=By (Fg ol of).1;have c2:=Af9 (listsX true l c.flight).1 c.buffer true o1 ob (by omega);have i2:(listsX true (listsX true l c.flight).1 c.buffer).1.length≤100000:=by
  have:=Gh true (listsX true l c.flight).1 c.buffer;show(bareL _).length≤_;rw[Bj];omega
 have o2:OkL (listsX true (listsX true l c.flight).1 c.buffer).1:=By (Fg o1 ob).1;have cb:=Hu c.tree _ hw2 (by omega) λz hz=>(o2 z hz).1;obtain⟨R,hR⟩: ∃R,c.hear rev l=R:=⟨_,rfl⟩;rw[hR];unfold Cl.hear at hR;obtain⟨⟨b2,bn,be⟩,hA⟩: ∃r,AllR c.base l=r:=⟨_,rfl⟩;rw[hA] at ca hR;generalize listsX true l c.flight=r1 at c1 c2 cb hR;obtain⟨th1,fl,e1⟩:=r1;simp only at c2 cb hR;generalize listsX true th1 c.buffer=r2 at c2 cb hR;obtain⟨th2,bu,e2⟩:=r2;simp only at cb hR;obtain⟨⟨t2,tn,te⟩,hA2⟩: ∃r,AllR c.tree th2=r:=⟨_,rfl⟩;rw[hA2] at cb hR;simp only at hR;clear i1 i2 o1 o2 hA hA2 hw1 hw2;refine A9 3 rfl (L9 (Ay 60 Tryz.func31 rfl rfl rfl λimps B hi=> ?_));show Goes _ _ _ _;refine C4 60 rfl rfl rfl rfl rfl rfl ?_;refine⟨by constructor<;>omega,?_⟩;refine⟨λq=>go 60 ?_,λq=>go 60 ?_⟩
 ·have q:=A7 q;rw[decide_eq_false q] at hR;exact⟨trivial,rfl,rfl,_,HTo.refl _,clT c gf gb,rfl,rfl,Zq3,by rw[←hR];rfl,by rw[←hR];rfl⟩
 have q:=Bk q;rw[decide_eq_true q] at hR;show CallThen _ _ _ _ _ _;refine Aa ca rfl ?_;rintro z rfl;refine⟨λq1=>go 60 ?_,λq1=>go 60 ?_⟩
 ·have q1:=A7 q1;rw[decide_eq_false q1] at hR;exact⟨trivial,rfl,rfl,_,HTo.refl _,clT c gf gb,rfl,rfl,Zq3,by rw[←hR];rfl,by rw[←hR];show clT c gf gb=clT c (hgen (decide (be=0)) gf) (hgen (decide (be=0)) gb);rw[decide_eq_false q1];rfl⟩
 have q1:=Bk q1;rw[decide_eq_true q1] at hR;show CallThen _ _ _ _ _ _;refine Dm 11 c1 ⟨.wk rfl (.refl _) (I0 (ss:=[]) ⟨rfl,rfl⟩ rfl l),.row 1 gf _ rfl (Az ⟨rfl,rfl⟩ _),.wk rfl Wk.tt rfl,trivial⟩ rfl (λx T' h=>Adl h) ?_;rintro x T1 ⟨g5,g6,rfl,rfl⟩;refine⟨λq2=>go 60 ?_,λq2=>go 60 ?_⟩
 ·have q2:=A7 q2;rw[decide_eq_false q2] at hR;exact⟨trivial,rfl,rfl,_,HTo.refl _,clT c gf gb,rfl,rfl,Zq3,by rw[←hR];rfl,by rw[←hR];show clT c gf gb=clT c (hgen (decide (e1=0)) gf) (hgen (decide (e1=0)) gb);rw[decide_eq_false q2];rfl⟩
 have q2:=Bk q2;rw[decide_eq_true q2] at hR;show CallThen _ _ _ _ _ _;refine Dm 11 c2 ⟨.row 5 g5 _ rfl (Az ⟨rfl,rfl⟩ _),.row 2 gb _ rfl (Az ⟨rfl,rfl⟩ _),.wk rfl Wk.tt rfl,trivial⟩ rfl (λx T' h=>Adl h) ?_;rintro x T1 ⟨g7,g8,rfl,rfl⟩;refine⟨λq3=>go 60 ?_,λq3=>go 60 ?_⟩
 ·have q3:=A7 q3;rw[decide_eq_false q3] at hR;exact⟨trivial,rfl,rfl,_,HTo.refl _,clT c gf gb,rfl,rfl,Zq3,by rw[←hR];rfl,by rw[←hR];show clT c gf gb=clT c (hgen (decide (e2=0)) gf) (hgen (decide (e2=0)) gb);rw[decide_eq_false q3];rfl⟩
 have q3:=Bk q3;rw[decide_eq_true q3] at hR;show CallThen _ _ _ _ _ _;refine Hf 11 cb ⟨.wk rfl (.refl _) (Hw ⟨rfl,rfl⟩ _),.row 7 g7 _ rfl (Az ⟨rfl,rfl⟩ _),trivial⟩ rfl (by rintro _ rfl;exact Z8) ?_;rintro z rfl;show Goes _ _ _ _;refine Ac [] 60 ?_;refine⟨by kernel_rfl,?_⟩;exact⟨trivial,rfl,rfl,_,Ao2 {c with base:=b2,tree:=t2,seen:=rev,flight:=fl,buffer:=bu} gf gb g6 g8 (c.flight.map opV) (c.buffer.map opV) (.box (nodeV b2).cells) (.box (nodeV t2).cells) (.vec g5 11 (th1.map opV)) (.vec g7 11 (th2.map opV)),clT {c with base:=b2,tree:=t2,seen:=rev,flight:=fl,buffer:=bu} (bump gf) (bump gb),rfl,rfl,Cf _ _ rfl,by rw[←hR,q3];rfl,by rw[←hR];rfl⟩
def subK (l:List OpT):Nat->Nat->Nat
 |0,k=>k
 |f+1,k=>bif decide (k<l.length)&&decide (fitsE (l.take (k+1))=0) then subK l f (k+1) else k
def Cl.submit (c:Cl):Cl×Option (List OpT):=
 bif c.sent then(c,none) else bif decide ((listS c.buffer).length=0) then({c with buffer:=listS c.buffer},none)
 else({c with sent:=true,seq:=c.seq+1,flight:=(listS c.buffer).take (subK (listS c.buffer) (listS c.buffer).length 1),buffer:=bareL ((listS c.buffer).drop (subK (listS c.buffer) (listS c.buffer).length 1))},
  some (bareL ((listS c.buffer).take (subK (listS c.buffer) (listS c.buffer).length 1))))
def subV (r:Option (List OpT)):V:=.tup [opsV (r.getD []),.bool r.isSome]
theorem Akj {l:List OpT}(h:OkS l):OkS (listS l):=by
 have key: ∀(n:Nat) (s:List OpT) (x:OpT),s.length≤n->OkS s->x.Ok->OkS (pushO s x):=by
  intro n
  induction n with
  |zero=>
   intro s x hn hs hx;have:s=[]:=Ard.1 (by omega);subst this;exact hs.cons hx
  |succ n ih=>
   intro s x hn hs hx;cases s with
   |nil=>exact hs.cons hx
   |cons a rest=>
    have ha:=hs a (by simp);have hr:OkS rest:=λz hz=>hs z (by simp[hz]);rw[Kz];cases hp:pairO a x with
    |none=>exact hs.cons hx
    |some z=>
     cases z with
     |some z=>exact ih rest z (by simp at hn;omega) hr (Uh ha hx hp)
     |none=>
      cases rest with
      |nil=>exact hr
      |cons y rest=>exact ih rest y (by simp at hn;omega) (λz hz=>hr z (by simp[hz])) (hr y (by simp))
 have go: ∀(l s:List OpT),OkS l->OkS s->OkS (listR l s):=by
  intro l
  induction l with
  |nil=>exact λs _ hs=>hs
  |cons o l ih=>
   intro s hl hs;have ho:=hl o (by simp);have hl':OkS l:=λz hz=>hl z (by simp[hz]);rw[listR];cases idleO o with
   |true=>exact ih s hl' hs
   |false=>exact ih _ hl' (key _ s _ (Ara _) hs (Hr ho))
 intro o ho;unfold listS at ho;rw[List.mem_reverse] at ho;exact go l [] h (λz hz=>by cases hz) o ho
theorem H9 {n:Nat}(T:Heap)(h:scAll n T=true):heapIs n T T:=by
 have:=Cf T [] h;rwa [Asc] at this
theorem Re (c:Cl)(gf gb g3 g4 n:Nat)(fs bs xs:List V)(o5:Option HObj)(hs:c.sent=true)(hn:n=(c.flight.map opV).length)(hx:xs.take (c.flight.map opV).length=c.flight.map opV)(hle:(c.flight.map opV).length≤xs.length):
  HTo [some (.box (clNC c .tt (.osl (.loc 3) g3 0 n) (.osl (.loc 4) g4 0 (c.buffer.map opV).length))),some (.vec gf 11 fs),some (.vec gb 11 bs),some (.vec g3 11 xs),some (.vec g4 11 (c.buffer.map opV)),o5] (clT c (bump gf) (bump gb)++ [none,none,o5]):=by
 subst hn;rw[Wp,hs];have e2:(c.buffer.map opV).take (c.buffer.map opV).length=c.buffer.map opV:=Asj;have h1:=HTo.into (T:=[some (.box (clNC c .tt (.osl (.loc 3) g3 0 (c.flight.map opV).length) (.osl (.loc 4) g4 0 (c.buffer.map opV).length))),some (.vec gf 11 fs),some (.vec gb 11 bs),some (.vec g3 11 xs),some (.vec g4 11 (c.buffer.map opV)),o5])
  (cs:=clNC c .tt (.osl (.loc 3) g3 0 (c.flight.map opV).length) (.osl (.loc 4) g4 0 (c.buffer.map opV).length)) (xs:=xs) (g:=g3) (n:=(c.flight.map opV).length) 0 15 3 1 rfl rfl rfl rfl rfl rfl hle
 rw[hx] at h1;refine HTo.trans h1 ?_;have h2:=HTo.into (T:=[some (.box (clNC c .tt (.osl (.loc 1) (bump gf) 0 (c.flight.map opV).length) (.osl (.loc 4) g4 0 (c.buffer.map opV).length))),some (.vec (bump gf) 11 (c.flight.map opV)),some (.vec gb 11 bs),none,some (.vec g4 11 (c.buffer.map opV)),o5])
  (cs:=clNC c .tt (.osl (.loc 1) (bump gf) 0 (c.flight.map opV).length) (.osl (.loc 4) g4 0 (c.buffer.map opV).length)) (xs:=c.buffer.map opV) (g:=g4) (n:=(c.buffer.map opV).length) 0 16 4 2 rfl rfl rfl rfl rfl rfl (Ara _)
 rw[e2] at h2;refine HTo.trans h2 ?_;exact HTo.wkCell (cs:=clNC c .tt (.osl (.loc 1) (bump gf) 0 (c.flight.map opV).length) (.osl (.loc 2) (bump gb) 0 (c.buffer.map opV).length)) (x:=.tt) (y:=.bool true) 0 14 rfl rfl rfl rfl Wk.tt
theorem Ao3 (c:Cl)(gf gb g3:Nat)(fs bs:List V)(hb:c.buffer=[]):HTo [some (.box (clNC c (.bool c.sent) (.osl (.loc 1) gf 0 (c.flight.map opV).length) (.osl (.loc 3) g3 0 0))),some (.vec gf 11 (c.flight.map opV)),some (.vec gb 11 bs),some (.vec g3 11 fs)] (clT c gf (bump gb)++ [none]):=by
 rw[Wp,hb];exact HTo.into (cs:=clNC c (.bool c.sent) (.osl (.loc 1) gf 0 (c.flight.map opV).length) (.osl (.loc 3) g3 0 0)) (xs:=fs) (g:=g3) (n:=0) 0 16 3 2 rfl rfl rfl rfl rfl rfl (Aq4 _)
theorem Z9 (c:Cl)(gf gb:Nat)(hq:c.seq≤4611686018427387904∧0≤c.seq)(hl:c.buffer.length≤100000)(ob:OkS c.buffer)(hne:c.sent=false->c.flight=[]):
  Fun Tryz.prog 30 (clT c gf gb) [.ptr (.loc 0) 0] (λx T'=> ∃gf' gb',x=subV c.submit.2∧T'=clT c.submit.1 gf' gb'):=by
 have cl:=Aqc c.buffer (by omega) ob;have okb:=Akj ob;have lb:=Zy c.buffer;obtain⟨R,hR⟩: ∃R,c.submit=R:=⟨_,rfl⟩;rw[hR];unfold Cl.submit at hR;generalize listS c.buffer=b at cl okb lb hR;refine L7 (A9 3 rfl (L9 (Ol (Ay 60 Tryz.func30 rfl rfl rfl λimps B hi=> ?_))));show Goes _ _ _ _;refine C4 60 rfl rfl rfl rfl rfl rfl ?_;cases hsent:c.sent with
 |true=>
  refine⟨λ_=>go 60 ?_,λq=>absurd q (by rw[hsent];decide)⟩;rw[hsent,cond_true] at hR;exact⟨trivial,rfl,rfl,rfl,_,HTo.refl _,clT c gf gb,rfl,rfl,⟨⟨rfl,rfl⟩,⟨rfl,rfl⟩,⟨rfl,rfl⟩,trivial⟩,subV none,Wk.tup ⟨Wk.nil 11,Wk.ff,trivial⟩,rfl,rfl,gf,gb,by rw[←hR],by rw[←hR]⟩
 |false=>
 have hne:=hne hsent;refine⟨λq=>absurd q (by rw[hsent];decide),λ_=>go 60 ?_⟩;rw[hsent,cond_false] at hR;show CallThen _ _ _ _ _ _;refine Dm 11 cl ⟨.row 2 gb _ rfl (Az ⟨rfl,rfl⟩ _),trivial⟩ rfl ?_ ?_
 ·rintro x T1 ⟨g,rfl,rfl⟩;exact⟨rfl,by simp only[rowsB,Az (ss:=[11]) ⟨rfl,rfl⟩,Ast]⟩
 rintro x T1 ⟨g3,rfl,rfl⟩;refine⟨rfl,?_⟩;refine⟨λq=>go 60 ?_,λq=>go 7 ?_⟩
 ·have q0:b.length=0:=by have:=of_decide_eq_true q;simpa using this
  have hb:b=[]:=Ard.1 q0;subst hb;have hc2:({c with buffer:=[]}:Cl)= {c with sent:=false,buffer:=[]}:=by
   cases c;simp only at hsent;subst hsent;rfl
  exact⟨trivial,rfl,rfl,rfl,_,Ao3 {c with buffer:=[]} gf gb g3 [] (c.buffer.map opV) rfl,clT {c with buffer:=[]} gf (bump gb),rfl,rfl,Cf _ _ rfl,subV none,Wk.tup ⟨Wk.nil 11,Wk.ff,trivial⟩,rfl,rfl,gf,bump gb,by rw[←hR];rfl,by rw[←hR,hc2];rfl⟩
 have q0:=of_decide_eq_false q;have hb1:1≤b.length:=by
  simp only[Arf] at q0;omega
 have q0:decide (b.length=0)=false:=decide_eq_false (by omega);rw[q0,cond_false] at hR;obtain⟨K,hK⟩: ∃K,subK b b.length 1=K:=⟨_,rfl⟩;rw[hK] at hR;show Goes _ _ _ _;refine(λ(key: ∀(f k:Nat),1≤k->k≤b.length->b.length≤f+k->subK b f k=K->Goes _ _ [(4,.int .i64 (k:Nat)),(0,.ptr (.loc 0) 0)] (clN c (.bool c.sent) (.osl (.loc 1) gf 0 (c.flight.map opV).length) (.osl (.loc 3) g3 0 (b.map opV).length) [.vec gf 11 (c.flight.map opV),.vec gb 11 (c.buffer.map opV),.vec g3 11 (b.map opV)]))=>
  Ft [(4,.int .i64 ((1:Nat):Int)),(0,.ptr (.loc 0) 0)] (clN c (.bool c.sent) (.osl (.loc 1) gf 0 (c.flight.map opV).length) (.osl (.loc 3) g3 0 (b.map opV).length) [.vec gf 11 (c.flight.map opV),.vec gb 11 (c.buffer.map opV),.vec g3 11 (b.map opV)]) rfl (by rw[hi];exact Auy 3) ⟨⟨rfl,rfl⟩,⟨rfl,rfl⟩,trivial⟩ (H9 _ rfl) (key b.length 1 (Ara _) hb1 (by omega) hK)) ?_
 intro f
 induction f with
 |zero=>
  intro k h1 h2 h3 h4;refine go 60 ?_;refine⟨rfl,?_⟩;refine⟨λq=>absurd (Au q) (by simp;omega),λq=>go 60 ?_⟩;show Goes _ _ _ _;refine Ft [(4,.int .i64 ((k:Nat):Int)),(0,.ptr (.loc 0) 0)] (clN c (.bool c.sent) (.osl (.loc 1) gf 0 (c.flight.map opV).length) (.osl (.loc 3) g3 0 (b.map opV).length) [.vec gf 11 (c.flight.map opV),.vec gb 11 (c.buffer.map opV),.vec g3 11 (b.map opV)]) rfl (by rw[hi];exact Auy 3) ⟨⟨rfl,rfl⟩,⟨rfl,rfl⟩,trivial⟩ (H9 _ rfl) ?_;have hk:k=K:=h4;subst hk;have cd:=Ep (b.drop k) (by simp;omega) (λo ho=>okb o (Asp ho));have ct:=Ep (b.take k) (by simp;omega) (λo ho=>okb o (As0 ho));refine Ac [(9,false),(15,false),(16,true)] 60 ?_;refine⟨[3],.osl (.loc 3) g3 0 k,[],λgs hg=>Qe hg rfl rfl rfl rfl rfl rfl rfl rfl (by simp;omega),trivial,?_⟩;refine⟨[3],.osl (.loc 3) g3 (0+k) ((b.map opV).length-k),[],λgs hg=>Oj hg rfl rfl rfl rfl rfl rfl rfl rfl (by simp;omega),trivial,?_⟩;refine⟨[4,3],.osl (.loc 4) 2 0 ((bareL (b.drop k)).map opV).length,[(4,some (.vec 2 11 ((bareL (b.drop k)).map opV)))],λgs hg=>Gi 11 [3] hg rfl rfl rfl rfl cd (λT' hT=>⟨.cut (xs:=b.map opV) ((hT 3 (by simp)).trans rfl) (by simp;omega) (Az ⟨rfl,rfl⟩ _) (by rw[Ary,Ars (by simp),At3]),trivial⟩) rfl (Az ⟨rfl,rfl⟩ _),⟨rfl,show 4<5 by decide⟩,?_⟩;refine⟨by kernel_rfl,?_⟩;refine⟨by constructor<;>omega,?_⟩;show CallThen _ _ _ _ _ _;refine Dm 11 ct ⟨.cut (xs:=b.map opV) rfl (by simp;omega) (Az ⟨rfl,rfl⟩ _) (by rw[Atz,Atk]),trivial⟩ rfl ?_ ?_
  ·rintro x T1 ⟨g,rfl,rfl⟩;exact⟨rfl,by simp only[rowsB,Az (ss:=[11]) ⟨rfl,rfl⟩,Ast]⟩
  rintro x T1 ⟨g5,rfl,rfl⟩;have hlen:k=(((b.take k).map opV)).length:=by simp;omega
  have htk:(b.map opV).take ((b.take k).map opV).length=(b.take k).map opV:=by rw[←hlen,Atk]
  exact⟨trivial,rfl,rfl,rfl,rfl,rfl,_,Re {c with sent:=true,seq:=c.seq+1,flight:=b.take k,buffer:=bareL (b.drop k)} gf gb g3 2 k (c.flight.map opV) (c.buffer.map opV) (b.map opV) none rfl hlen htk (by rw[←hlen];simp;omega),clT {c with sent:=true,seq:=c.seq+1,flight:=b.take k,buffer:=bareL (b.drop k)} (bump gf) (bump gb),rfl,rfl,Cf _ _ rfl,subV (some (bareL (b.take k))),Wk.tup ⟨.refl _,Wk.tt,trivial⟩,rfl,rfl,bump gf,bump gb,by rw[←hR],by rw[←hR]⟩
 |succ f ih=>
  intro k h1 h2 h3 h4;have cf:=Aj7 (b.take (k+1)) (by simp;omega) (λo ho=>okb o (As0 ho));rw[subK] at h4;refine go 60 ?_;refine⟨rfl,?_⟩;refine⟨λq=>go 60 ?_,λq=>go 60 ?_⟩
  ·have q:(k:Int)<b.length:=by have:=Au q;simpa using this
   have hk1:k<b.length:=by omega
   rw[decide_eq_true hk1] at h4;refine⟨by constructor<;>omega,?_⟩;show Goes _ _ _ _;refine Aei (h:=k+1) 60 rfl rfl rfl rfl rfl rfl rfl rfl rfl rfl rfl (by simp;omega) ?_;show CallThen _ _ _ _ _ _;refine Hf 11 cf ⟨.cut (xs:=b.map opV) rfl (by simp;omega) (Az ⟨rfl,rfl⟩ _) (by rw[Atz,Atk]),trivial⟩ rfl (by rintro _ rfl;rfl) ?_;rintro z rfl;refine⟨λq2=>go 9 ?_,λq2=>go 60 ?_⟩
   ·have q2:fitsE (b.take (k+1))=0:=of_decide_eq_true q2;rw[decide_eq_true q2] at h4;refine⟨by constructor<;>omega,?_⟩;show Goes _ _ _ _;exact Ft [(4,.int .i64 ((k+1:Nat):Int)),(0,.ptr (.loc 0) 0)] (clN c (.bool c.sent) (.osl (.loc 1) gf 0 (c.flight.map opV).length) (.osl (.loc 3) g3 0 (b.map opV).length) [.vec gf 11 (c.flight.map opV),.vec gb 11 (c.buffer.map opV),.vec g3 11 (b.map opV)]) rfl (by rw[hi];exact Auy 3) ⟨⟨rfl,rfl⟩,⟨rfl,rfl⟩,trivial⟩ (H9 _ rfl) (ih (k+1) (by omega) hk1 (by omega) h4)
   ·have q2: ¬fitsE (b.take (k+1))=0:=of_decide_eq_false q2;rw[decide_eq_false q2] at h4;show Goes _ _ _ _;refine Ft [(4,.int .i64 ((k:Nat):Int)),(0,.ptr (.loc 0) 0)] (clN c (.bool c.sent) (.osl (.loc 1) gf 0 (c.flight.map opV).length) (.osl (.loc 3) g3 0 (b.map opV).length) [.vec gf 11 (c.flight.map opV),.vec gb 11 (c.buffer.map opV),.vec g3 11 (b.map opV)]) rfl (by rw[hi];exact Auy 3) ⟨⟨rfl,rfl⟩,⟨rfl,rfl⟩,trivial⟩ (H9 _ rfl) ?_;have hk:k=K:=h4;subst hk;have cd:=Ep (b.drop k) (by simp;omega) (λo ho=>okb o (Asp ho));have ct:=Ep (b.take k) (by simp;omega) (λo ho=>okb o (As0 ho));refine Ac [(9,false),(15,false),(16,true)] 60 ?_;refine⟨[3],.osl (.loc 3) g3 0 k,[],λgs hg=>Qe hg rfl rfl rfl rfl rfl rfl rfl rfl (by simp;omega),trivial,?_⟩;refine⟨[3],.osl (.loc 3) g3 (0+k) ((b.map opV).length-k),[],λgs hg=>Oj hg rfl rfl rfl rfl rfl rfl rfl rfl (by simp;omega),trivial,?_⟩;refine⟨[4,3],.osl (.loc 4) 2 0 ((bareL (b.drop k)).map opV).length,[(4,some (.vec 2 11 ((bareL (b.drop k)).map opV)))],λgs hg=>Gi 11 [3] hg rfl rfl rfl rfl cd (λT' hT=>⟨.cut (xs:=b.map opV) ((hT 3 (by simp)).trans rfl) (by simp;omega) (Az ⟨rfl,rfl⟩ _) (by rw[Ary,Ars (by simp),At3]),trivial⟩) rfl (Az ⟨rfl,rfl⟩ _),⟨rfl,show 4<5 by decide⟩,?_⟩;refine⟨by kernel_rfl,?_⟩;refine⟨by constructor<;>omega,?_⟩;show CallThen _ _ _ _ _ _;refine Dm 11 ct ⟨.cut (xs:=b.map opV) rfl (by simp;omega) (Az ⟨rfl,rfl⟩ _) (by rw[Atz,Atk]),trivial⟩ rfl ?_ ?_
    ·rintro x T1 ⟨g,rfl,rfl⟩;exact⟨rfl,by simp only[rowsB,Az (ss:=[11]) ⟨rfl,rfl⟩,Ast]⟩
    rintro x T1 ⟨g5,rfl,rfl⟩;have hlen:k=(((b.take k).map opV)).length:=by simp;omega
    have htk:(b.map opV).take ((b.take k).map opV).length=(b.take k).map opV:=by rw[←hlen,Atk]
    exact⟨trivial,rfl,rfl,rfl,rfl,rfl,_,Re {c with sent:=true,seq:=c.seq+1,flight:=b.take k,buffer:=bareL (b.drop k)} gf gb g3 2 k (c.flight.map opV) (c.buffer.map opV) (b.map opV) none rfl hlen htk (by rw[←hlen];simp;omega),clT {c with sent:=true,seq:=c.seq+1,flight:=b.take k,buffer:=bareL (b.drop k)} (bump gf) (bump gb),rfl,rfl,Cf _ _ rfl,subV (some (bareL (b.take k))),Wk.tup ⟨.refl _,Wk.tt,trivial⟩,rfl,rfl,bump gf,bump gb,by rw[←hR],by rw[←hR]⟩
  ·have q: ¬ (k:Int)<b.length:=by have:=Ah q;simp only[Arf] at this;omega
   have hk1: ¬k<b.length:=by omega
   rw[decide_eq_false hk1] at h4;show Goes _ _ _ _;refine Ft [(4,.int .i64 ((k:Nat):Int)),(0,.ptr (.loc 0) 0)] (clN c (.bool c.sent) (.osl (.loc 1) gf 0 (c.flight.map opV).length) (.osl (.loc 3) g3 0 (b.map opV).length) [.vec gf 11 (c.flight.map opV),.vec gb 11 (c.buffer.map opV),.vec g3 11 (b.map opV)]) rfl (by rw[hi];exact Auy 3) ⟨⟨rfl,rfl⟩,⟨rfl,rfl⟩,trivial⟩ (H9 _ rfl) ?_;have hk:k=K:=h4;subst hk;have cd:=Ep (b.drop k) (by simp;omega) (λo ho=>okb o (Asp ho));have ct:=Ep (b.take k) (by simp;omega) (λo ho=>okb o (As0 ho));refine Ac [(9,false),(15,false),(16,true)] 60 ?_;refine⟨[3],.osl (.loc 3) g3 0 k,[],λgs hg=>Qe hg rfl rfl rfl rfl rfl rfl rfl rfl (by simp;omega),trivial,?_⟩;refine⟨[3],.osl (.loc 3) g3 (0+k) ((b.map opV).length-k),[],λgs hg=>Oj hg rfl rfl rfl rfl rfl rfl rfl rfl (by simp;omega),trivial,?_⟩;refine⟨[4,3],.osl (.loc 4) 2 0 ((bareL (b.drop k)).map opV).length,[(4,some (.vec 2 11 ((bareL (b.drop k)).map opV)))],λgs hg=>Gi 11 [3] hg rfl rfl rfl rfl cd (λT' hT=>⟨.cut (xs:=b.map opV) ((hT 3 (by simp)).trans rfl) (by simp;omega) (Az ⟨rfl,rfl⟩ _) (by rw[Ary,Ars (by simp),At3]),trivial⟩) rfl (Az ⟨rfl,rfl⟩ _),⟨rfl,show 4<5 by decide⟩,?_⟩;refine⟨by kernel_rfl,?_⟩;refine⟨by constructor<;>omega,?_⟩;show CallThen _ _ _ _ _ _;refine Dm 11 ct ⟨.cut (xs:=b.map opV) rfl (by simp;omega) (Az ⟨rfl,rfl⟩ _) (by rw[Atz,Atk]),trivial⟩ rfl ?_ ?_
   ·rintro x T1 ⟨g,rfl,rfl⟩;exact⟨rfl,by simp only[rowsB,Az (ss:=[11]) ⟨rfl,rfl⟩,Ast]⟩
   rintro x T1 ⟨g5,rfl,rfl⟩;have hlen:k=(((b.take k).map opV)).length:=by simp;omega
   have htk:(b.map opV).take ((b.take k).map opV).length=(b.take k).map opV:=by rw[←hlen,Atk]
   exact⟨trivial,rfl,rfl,rfl,rfl,rfl,_,Re {c with sent:=true,seq:=c.seq+1,flight:=b.take k,buffer:=bareL (b.drop k)} gf gb g3 2 k (c.flight.map opV) (c.buffer.map opV) (b.map opV) none rfl hlen htk (by rw[←hlen];simp;omega),clT {c with sent:=true,seq:=c.seq+1,flight:=b.take k,buffer:=bareL (b.drop k)} (bump gf) (bump gb),rfl,rfl,Cf _ _ rfl,subV (some (bareL (b.take k))),Wk.tup ⟨.refl _,Wk.tt,trivial⟩,rfl,rfl,bump gf,bump gb,by rw[←hR],by rw[←hR]⟩
theorem Ahl (l:List Rv)(i:Nat)(hi:i<l.length):(l.map rvV)[i]?=some (rvV (l.getD i ⟨zeroT0,[]⟩)):=by
 rw[Arv,Aq3 hi,Asg,Aq3 hi];rfl
theorem Wn (low:Int)(l:List Rv)(h0:0≤low∧low≤2305843009213693952)(hl:0<l.length∧l.length≤1000):Pure Tryz.prog 15 [.iptr (winC low l) 0] (λx=>x=.int .i64 (low+l.length-1)):=by
 refine Aj (Ad 60 Tryz.func15 rfl rfl rfl λB=> ?_);show Goes _ _ _ _;refine U6 60 rfl rfl rfl rfl rfl ?_;show Goes _ _ _ _;refine Ac [] 60 ?_;refine⟨by constructor<;>(simp;omega),by constructor<;>(simp;omega),?_⟩;refine⟨by kernel_rfl,?_⟩;exact⟨trivial,rfl,rfl,rfl,_,.refl _,rfl,by simp;rfl⟩
theorem Ahm (low:Int)(l:List Rv)(h0:0≤low∧low≤2305843009213693952)(hl:0<l.length∧l.length≤1000)(rev:Int)(h1:low≤rev)(h2:rev<low+l.length):Pure Tryz.prog 55 [.iptr (winC low l) 0,.int .i64 rev] (λx=>x=.int .i64 0):=by
 have cr:=Wn low l h0 hl;refine Aj (Ad 60 Tryz.func55 rfl rfl rfl λB=> ?_);show Goes _ _ _ _;refine U6 60 rfl rfl rfl rfl rfl ?_;refine⟨λq=>absurd (Au q) (by omega),λ_=>go 60 ?_⟩;show CallThen _ _ _ _ _ _;refine Aa cr rfl ?_;rintro z rfl;refine⟨λq=>absurd (Au q) (by omega),λ_=>go 60 ?_⟩;exact⟨trivial,rfl,rfl,rfl,_,.refl _,rfl,rfl⟩
theorem Aqs (low:Int)(l:List Rv)(h0:0≤low∧low≤2305843009213693952)(hl:0<l.length∧l.length≤1000)(rev:Int)(i:Nat)(hr:rev=low+i)(hi:i<l.length)(hw:(l.getD i ⟨zeroT0,[]⟩).tree.weight≤1000000):Pure Tryz.prog 16 [.iptr (winC low l) 0,.int .i64 rev] (λx=>x=.tup [nodeV (l.getD i ⟨zeroT0,[]⟩).tree,.int .i64 0]):=by
 have ci:=Ahm low l h0 hl rev (by omega) (by omega);have cc:=Z3 _ hw;have hx:=Ahl l i hi;generalize l.getD i ⟨zeroT0,[]⟩=R at cc hx;refine Aj (Ad 60 Tryz.func16 rfl rfl rfl λB=> ?_);show CallThen _ _ _ _ _ _;refine Aa ci rfl ?_;rintro z rfl;refine⟨λq=>absurd rfl (A7 q),λ_=>go 60 ?_⟩;show Goes _ _ _ _;refine Ac [] 60 ?_;have e:rev-low=(i:Int):=by omega
 refine⟨by constructor<;>omega,by omega,rvV R,by rw[e];exact hx,_,cc,rfl,?_⟩;refine⟨by kernel_rfl,?_⟩;exact⟨trivial,rfl,rfl,rfl,_,.refl _,rfl,rfl⟩
theorem Z4 (low:Int)(l:List Rv)(h0:0≤low∧low≤2305843009213693952)(hl:0<l.length∧l.length≤1000)(rev:Int)(h1:low≤rev)(h2:rev<low+l.length)(hok: ∀r∈l,OkL r.made∧r.made.length≤1000):
  Iter Tryz.prog 90 [] [.iptr [.iptr (winC low l) 0] 0,.iptr [.int .i64 rev] 0] ((rowsL (l.drop ((rev-low).toNat+1))).map λr=>[opsV r]):=by
 intro m r kl T T' b hR hr;refine L5 60 Tryz.func90 rfl rfl rfl λB hout=> ?_;show Goes _ _ _ _;refine Ac [] 60 ?_;have hlm:((l.map rvV).length:Int)=l.length:=by rw[Arf]
 refine⟨by constructor<;>omega,by constructor<;>omega,by omega,by omega,Arr _,?_⟩;refine⟨by kernel_rfl,?_⟩;obtain⟨D,hD⟩: ∃D,l.drop ((rev-low).toNat+1)=D:=⟨_,rfl⟩;have hDl:D.length≤l.length:=by rw[←hD,Asf];omega
 have hDm: ∀r∈D,OkL r.made∧r.made.length≤1000:=λr hr=>hok r (Asp (hD▸hr));have eD:((l.map rvV).drop (rev-low+1).toNat).take ((((l.map rvV).length:Nat):Int).toNat- (rev-low+1).toNat)=D.map rvV:=by
  rw[←hD,show(rev-low+1).toNat=(rev-low).toNat+1 by omega,At3,Ars (by simp)]
 rw[hD] at hR;show Goes _ _ _ _;refine Hy 18 (v':=.int .i64 (D.map rvV).length) rfl rfl rfl (Wk.of_eq (congrArg (λz:List V=>V.int .i64 (z.length:Int)) eD)) ?_;refine Hy 17 (v':=.sl 7 (D.map rvV)) rfl rfl rfl (Wk.of_eq (congrArg (V.sl 7) eD)) ?_;clear eD hD;show Goes _ _ _ _;refine Uz (ι:=Nat×Heap) (λi B1=>i.1≤D.length∧Rounds Tryz.prog kl ((rowsL (D.drop i.1)).map λr=>[opsV r]) i.2 T' b∧Out m i.2 B1∧ ∀q,q∉m->B1 q=B q) (λi=>D.length-i.1)
  (λi=>[(19,.int .i64 i.1),(18,.int .i64 (D.map rvV).length),(17,.sl 7 (D.map rvV)),(0,.yld (.abs r))]) (λ_=>[]) (0,T) 60 (λ_=>rfl) (λ_=>rfl) ⟨⟨Aq4 _,hR,hout,λ_ _=>rfl⟩,Zq4,trivial⟩ ?_
 rintro⟨i,Ti⟩ B1 ⟨k1,k2,k3,k4⟩ next;refine⟨λhlt=>go 60 ?_,λhge=>go 60 ?_⟩
 ·have hi:i<D.length:=by simpa using hlt
  have hx:(D.map rvV)[((i:Nat):Int).toNat]?=some (rvV D[i]):=by simp[hi]
  have hm:=hDm _ (Arq hi);have cb:=Af8 D[i].made (by omega) λo ho=>(hm.1 o ho).1.lt;have e:(rowsL (D.drop i)).map (λr=>[opsV r])=[opsV (bareL D[i].made)]::(rowsL (D.drop (i+1))).map λr=>[opsV r]:=by
   rw[Bi hi];rfl
  simp only at k2;rw[e] at k2;generalize D[i]=R at hx cb k2;refine⟨Aq5 i,rvV R,hx,?_⟩;show CallThen _ _ _ _ _ _;refine Aa cb rfl ?_;rintro z rfl;have hlp: ∃ob,Ti[kl]?=some (some ob)∧isLoop ob:=by cases k2<;>assumption
  obtain⟨T1,b1,hy,hk⟩: ∃T1 b1,YieldOk Tryz.prog Ti kl [opsV (bareL R.made)] b1 T1∧((b1=true∧Rounds Tryz.prog kl ((rowsL (D.drop (i+1))).map λr=>[opsV r]) T1 T' b)∨(b1=false∧T'=T1∧b=false)):=by
   cases k2 with
   |go hl h k=>exact⟨_,_,h,.inl ⟨rfl,k⟩⟩
   |stop hl h=>exact⟨_,_,h,.inr ⟨rfl,rfl,rfl⟩⟩
  show Goes _ _ _ _;refine Uy 60 rfl rfl rfl rfl rfl k3 hr hlp rfl hy ?_;intro B2 hout2 hB2
  rcases hk with⟨rfl,hk⟩| ⟨rfl,rfl,rfl⟩
  ·refine⟨by constructor<;>omega,?_⟩;show Goes _ _ _ _;exact next (i+1,T1) B2 _ _ ⟨⟨hi,hk,hout2,λq hq=>(hB2 q hq).trans (k4 q hq)⟩,by simp only;omega,Zq4,trivial⟩
  ·exact⟨trivial,rfl,λq hq=>(hB2 q hq).trans (k4 q hq),_,hout2,rfl,rfl⟩
 ·have hi:D.length≤i:=by simpa using hge
  simp only at k2;rw[Aro hi] at k2;cases k2;exact⟨trivial,rfl,k4,_,k3,rfl,rfl⟩
theorem Wo {α:Type}: ∀(rows:List α) (g:Nat) (s:List α),(rows.foldl (λ(s:Nat×List α) r=>(bump s.1,s.2++ [r])) (g,s)).2=s++rows
 | [],g,s=>by simp
 |r::rows,g,s=>by
  rw[Au2,Wo rows,Arz];rfl
theorem Aex (low rev:Int)(l:List Rv)(rows:List (List OpT))(hit:Iter Tryz.prog 90 [] [.iptr [.iptr (winC low l) 0] 0,.iptr [.int .i64 rev] 0] (rows.map λr=>[opsV r]))(hl:rows.length≤1000):Pure Tryz.prog 89 [.nilsl,.fn (.func 90) [] [.iptr [.iptr (winC low l) 0] 0,.iptr [.int .i64 rev] 0]] (λx=>x=listsV rows):=by
 refine Aj (Ad 3 Tryz.func89 rfl rfl rfl λB=> ?_);show Goes _ _ _ _;refine Aef 0 1 rfl ?_;refine go 60 ?_;show Goes _ _ _ _;refine Xn (σ:=Nat×List (List OpT)) 60 2 (λs=>[some (.box [.osl (.loc 1) s.1 0 (s.2.map opsV).length]),some (.vec s.1 1 (s.2.map opsV))]) (λs r=>(bump s.1,s.2++ [r])) (λr=>[opsV r]) (λs l=>s.2.length+l.length≤1000) (0,[]) rows rfl rfl rfl hit rfl (λ_=>rfl) (λ_=>rfl) (λ_=>rfl) rfl (λ_=>rfl) (λ_ _ h=>by cases h) (by show 0+rows.length≤1000;omega) ?_ ?_
 ·rintro⟨g1,s⟩ a l hI;have hI:s.length+ (l.length+1)≤1000:=hI;refine⟨by show(s++ [a]).length+l.length≤1000;rw[Arb,Aut];omega,λimps B r l h1 h2=> ?_⟩;show Goes _ _ _ _;refine Mo 60 rfl h2 rfl ?_;refine⟨⟨rfl,trivial⟩,rfl,rfl,rfl,rfl,Ark (Arg _ (show _≤1001 by simp only[Arf,Aq8,Arc];omega)) (by decide),?_⟩;refine⟨rfl,rfl,trivial,⟨⟨?_,rfl⟩,⟨?_,rfl⟩,⟨rfl,rfl⟩,⟨rfl,rfl⟩,trivial⟩⟩
  ·exact congrArg (λn=>some (HObj.box [V.osl (.loc 1) (bump g1) 0 n])) (by simp)
  ·exact congrArg (λz=>some (HObj.vec (bump g1) 1 z)) (by rw[Asr];rfl)
 ·rintro s hs;have e:=Wo rows 0 [];rw[←hs,Ar9] at e;refine⟨trivial,rfl,rfl,rfl,rfl,rfl,listsV rows,?_,rfl,rfl⟩;exact Wk.of_eq (congrArg (λz=>V.sl 1 (z.map opsV)) e)
theorem Z5 (low rev:Int)(l:List Rv)(rows:List (List OpT))(hit:Iter Tryz.prog 90 [] [.iptr [.iptr (winC low l) 0] 0,.iptr [.int .i64 rev] 0] (rows.map λr=>[opsV r]))(hl:rows.length≤1000):Pure Tryz.prog 56 [.fn (.func 90) [] [.iptr [.iptr (winC low l) 0] 0,.iptr [.int .i64 rev] 0]] (λx=>x=listsV rows):=by
 have c1:=Aex low rev l rows hit hl;refine Ad 60 Tryz.func56 rfl rfl rfl λB=> ?_;show CallThen _ _ _ _ _ _;refine Aa c1 rfl ?_;rintro z rfl;exact⟨trivial,rfl,rfl,rfl,rfl⟩
theorem Adg (low rev:Int)(l:List Rv):Pure Tryz.prog 57 [.iptr (winC low l) 0,.int .i64 rev] (λx=>x=.fn (.func 90) [] [.iptr [.iptr (winC low l) 0] 0,.iptr [.int .i64 rev] 0]):=by
 refine Sj [0,1] 60 Tryz.func57 rfl rfl rfl λB=> ?_;exact⟨trivial,rfl,rfl,rfl,rfl,rfl,rfl⟩
theorem Ug (l:List Rv):(rowsL l).length=l.length:=by simp[rowsL]
theorem Am1 (low:Int)(l:List Rv)(h0:0≤low∧low≤2305843009213693952)(hl:0<l.length∧l.length≤1000)(rev:Int)(i:Nat)(hr:rev=low+i)(hi:i<l.length)(hok: ∀r∈l,OkL r.made∧r.made.length≤1000):
  Pure Tryz.prog 17 [.iptr (winC low l) 0,.int .i64 rev] (λx=>x=.tup [listsV (rowsL (l.drop (i+1))),.int .i64 0]):=by
 have ci:=Ahm low l h0 hl rev (by omega) (by omega);have cb:=Adg low rev l;have h1:=Z4 low l h0 hl rev (by omega) (by omega) hok;rw[show(rev-low).toNat+1=i+1 by omega] at h1;have cc:=Z5 low rev l (rowsL (l.drop (i+1))) h1 (by rw[Ug,Asf];omega);refine Aj (Ad 60 Tryz.func17 rfl rfl rfl λB=> ?_);show CallThen _ _ _ _ _ _;refine Aa ci rfl ?_;rintro z rfl;refine⟨λq=>absurd rfl (A7 q),λ_=>go 60 ?_⟩;show CallThen _ _ _ _ _ _;refine Aa cb rfl ?_;rintro z rfl;show CallThen _ _ _ _ _ _;refine Aa cc rfl ?_;rintro z rfl;exact⟨trivial,rfl,rfl,rfl,_,.refl _,rfl,rfl⟩
theorem Am2 (low:Int)(l:List Rv)(h0:0≤low∧low≤2305843009213693952)(hl:0<l.length∧l.length≤100)(rev:Int)(i:Nat)(hr:rev=low+i)(hi:i<l.length)(hok: ∀r∈l,OkL r.made∧r.made.length≤1000)(o:List OpT)(hol:o.length≤1000)(ho:OkL o)
  (hw:(l.getD i ⟨zeroT0,[]⟩).tree.weight+costs o≤400000):
  Pure Tryz.prog 20 [.iptr (winC low l) 0,.int .i64 rev,opsV o] (λx=>x=.tup [opsV (bringR l i o).1,.int .i64 (bringR l i o).2]):=by
 have ci:=Ahm low l h0 ⟨hl.1,by omega⟩ rev (by omega) (by omega);have ca:=Hu (l.getD i ⟨zeroT0,[]⟩).tree o hw (by omega) λz hz=>(ho z hz).1;have cb:=Adg low rev l;have h1:=Z4 low l h0 ⟨hl.1,by omega⟩ rev (by omega) (by omega) hok;rw[show(rev-low).toNat+1=i+1 by omega] at h1;have cc:=Z5 low rev l (rowsL (l.drop (i+1))) h1 (by rw[Ug,Asf];omega);have ct:=Aid o (rowsL (l.drop (i+1))) false ho (λr hr=>by
  unfold rowsL at hr;rw[Ato] at hr;obtain⟨z,hz,rfl⟩:=hr;obtain⟨q1,q2⟩:=hok z (Asp hz);exact⟨By q1,by rw[Bj];exact q2⟩) hol (by rw[Ug,Asf];omega)
 have hx:=Ahl l i hi;obtain⟨R,hR⟩: ∃R,bringR l i o=R:=⟨_,rfl⟩;rw[hR];unfold bringR at hR;generalize thrG false (bareL o) [] (rowsL (l.drop (i+1)))=th at ct hR;obtain⟨⟨a1,a2,a3⟩,hA⟩: ∃r,AllR (l.getD i ⟨zeroT0,[]⟩).tree o=r:=⟨_,rfl⟩;rw[hA] at ca hR;obtain⟨t1,t2,t3⟩:=th;simp only at hR;generalize l.getD i ⟨zeroT0,[]⟩=rv at ca hx;refine Aj (Ad 60 Tryz.func20 rfl rfl rfl λB=> ?_);show CallThen _ _ _ _ _ _;refine Aa ci rfl ?_;rintro z rfl;refine⟨λq=>absurd rfl (A7 q),λ_=>go 60 ?_⟩;refine⟨λq=>absurd (Au q) (by simp;omega),λ_=>go 60 ?_⟩;show Goes _ _ _ _;refine Ac [] 60 ?_;have e:rev-low=(i:Int):=by omega
 refine⟨by constructor<;>omega,by omega,rvV rv,by rw[e];exact hx,_,ca,rfl,?_⟩;refine⟨by kernel_rfl,?_⟩;refine⟨λq=>go 60 ?_,λq=>go 60 ?_⟩
 ·have q:=A7 q;refine⟨trivial,rfl,rfl,rfl,.tup [opsV [],.int .i64 a3],Wk.tup ⟨Wk.nil 11,.refl _,trivial⟩,rfl,?_⟩;rw[←hR,decide_eq_false q];rfl
 have q:=Bk q;show CallThen _ _ _ _ _ _;refine Aa cb rfl ?_;rintro z rfl;show CallThen _ _ _ _ _ _;refine Aa cc rfl ?_;rintro z rfl;show CallThen _ _ _ _ _ _;refine Aa (Fx ct ⟨.refl _,.refl _,Wk.ff,trivial⟩ rfl rfl) rfl ?_;rintro z rfl;refine⟨λq2=>go 60 ?_,λq2=>go 60 ?_⟩
 ·have q2:=A7 q2;refine⟨trivial,rfl,rfl,rfl,.tup [opsV [],.int .i64 t3],Wk.tup ⟨Wk.nil 11,.refl _,trivial⟩,rfl,?_⟩;rw[←hR,decide_eq_true q,decide_eq_false q2];rfl
 ·have q2:=Bk q2;refine⟨trivial,rfl,rfl,rfl,.tup [opsV t1,.int .i64 0],.refl _,rfl,?_⟩;rw[←hR,decide_eq_true q,decide_eq_true q2];rfl
def winT (low:Int)(g:Nat)(l:List Rv):Heap:=[some (.box [.int .i64 low,.osl (.loc 1) g 0 (l.map rvV).length]),some (.vec g 7 (l.map rvV))]
theorem Aqt {cs:List V}{x:V}{t:Tree}{m:List OpT}(hc:cs=(nodeV t).cells)(hx:Wk x (opsV m)):WkL (cs++ [x]) (rvV ⟨t,m⟩).cells:=by
 subst hc;cases t;exact⟨.refl _,.refl _,.refl _,.refl _,.refl _,.refl _,hx,trivial⟩
theorem Ap6 (r:Rv):okE 7 (rvV r):=by
 obtain⟨t,m⟩:=r;cases t;exact⟨rfl,rfl⟩
theorem Ap7 (low:Int)(t:Tree)(h1:0≤low∧low≤2305843009213693952)(hr:rightT t=true)(hw:t.weight≤1000000):
  Fun Tryz.prog 12 [] [.int .i64 low,nodeV t] (λx T'=>x=.tup [.ptr (.loc 2) 0,.int .i64 0]∧T'=[some (.box (nodeV t).cells),some (.vec 0 7 [.agg ((nodeV t).cells++ [.nilsl])]),some (.box [.int .i64 low,.osl (.loc 1) 0 0 1])]):=by
 have c1:=Pr t hw;have c2:=Z3 t hw;refine Ay 60 Tryz.func12 rfl rfl rfl λimps B hi=> ?_;have:imps=[]:=Ard.1 hi;subst this;refine⟨λq=>absurd (Au q) (by omega),λ_=>go 60 ?_⟩;refine⟨λq=>absurd (Au q) (by omega),λ_=>go 60 ?_⟩;show CallThen _ _ _ _ _ _;refine Aa c1 rfl ?_;rintro z rfl;refine⟨λq=>absurd q (by rw[hr];decide),λ_=>go 60 ?_⟩;show CallThen _ _ _ _ _ _;refine Aa c2 rfl ?_;rintro z rfl;refine⟨⟨rfl,trivial⟩,?_⟩;exact⟨trivial,rfl,rfl,rfl,rfl⟩
theorem Ap8 (low:Int)(g:Nat)(l:List Rv)(o:List OpT)(hl:0<l.length∧l.length≤32)(hol:o.length≤4096)(hok:OkL o)(hw:(lastT l).weight+costs o≤400000):
  Fun Tryz.prog 13 (winT low g l) [.ptr (.loc 0) 0,opsV o] (λx T'=>(x=.int .i64 (AllR (lastT l) o).2.2)∧((AllR (lastT l) o).2.2=0∧T'=winT low (bump g) (l++ [⟨(AllR (lastT l) o).1,bareL o⟩])∨(AllR (lastT l) o).2.2≠0∧T'=winT low g l)):=by
 have ca:=Hu (lastT l) o hw (by omega) λz hz=>(hok z hz).1;have cb:=Af8 o (by omega) λz hz=>(hok z hz).1.lt;have hx:=Ahl l (l.length-1) (by omega);have e:(l.getD (l.length-1) ⟨zeroT0,[]⟩).tree=lastT l:=by
  unfold lastT;rw[Asg,Av0];cases l[l.length-1]?<;>rfl
 rw[←e] at ca ⊢;generalize l.getD (l.length-1) ⟨zeroT0,[]⟩=R at ca hx;obtain⟨⟨t2,n2,er⟩,hA⟩: ∃r,AllR R.tree o=r:=⟨_,rfl⟩;rw[hA] at ca ⊢;simp only;refine A9 2 rfl (Ay 60 Tryz.func13 rfl rfl rfl λimps B hi=> ?_);show Goes _ _ _ _;refine C4 60 rfl rfl rfl rfl rfl rfl ?_;refine⟨λq=>absurd (Au q) (by simp;omega),λ_=>go 60 ?_⟩;show Goes _ _ _ _;refine Ac [] 60 ?_;have e2:(((l.map rvV).length:Nat):Int)-1=((l.length-1:Nat):Int):=by rw[Arf];omega
 refine⟨rfl,by constructor<;>(simp;omega),rfl,by rw[e2];exact Aq5 _,by rw[e2,Arf];omega,rfl,rfl,rvV R,by rw[e2,Ary];exact hx,_,ca,rfl,?_⟩;refine⟨by kernel_rfl,?_⟩;refine⟨by kernel_rfl,?_⟩;refine⟨λq=>go 60 ?_,λq=>go 60 ?_⟩
 ·have q:=A7 q;exact⟨trivial,rfl,rfl,winT low g l,rfl,rfl,Zq2,rfl,.inr ⟨q,rfl⟩⟩
 have q:=Bk q;show Goes _ _ _ _;refine Ac [] 60 ?_;refine⟨_,cb,rfl,?_⟩;refine⟨rfl,⟨rfl,trivial⟩,rfl,rfl,rfl,rfl,rfl,Ark (Arg _ (show _≤1001 by simp only[Arf,Aq8,Arc];omega)) (by decide),?_⟩;refine⟨by kernel_rfl,?_⟩;refine⟨rfl,λh=>absurd (of_decide_eq_true h) (by simp only[Arf,Aq8,Arc];omega),λ_=>go 60 ?_⟩;refine⟨trivial,rfl,rfl,winT low (bump g) (l++ [⟨t2,bareL o⟩]),rfl,rfl,⟨⟨?_,rfl⟩,⟨?_,rfl⟩,trivial⟩,by rw[show er=0 from q];rfl,.inl ⟨q,rfl⟩⟩
 ·exact congrArg (λn=>some (HObj.box [V.int .i64 low,V.osl (.loc 1) (bump g) 0 n])) (by simp)
 ·exact congrArg (λz=>some (HObj.vec (bump g) 7 z)) (by rw[Asr];rfl)
theorem Adh {P:Program}{f:FuncId}{T:Heap}{args args':List V}{Q:V->Heap->Prop}(h:Fun P f T args' Q)(hl:args.length=args'.length)(hw: ∀(j:Nat) (x y:V),args[j]?=some x->args'[j]?=some y->x=y∨(x.pureB=true∧y.pureB=true∧Wk x y)):Fun P f T args Q:=by
 unfold Fun at*;refine⟨h.1,λw β H m B vals cs hs hl' hr=>h.2 w β H m B vals cs hs (hl▸hl') λj y v hj hv=> ?_⟩;have hjl:=Ab hj;have hx:=Aq3 (l:=args) (i:=j) (by omega)
 rcases hw j _ y hx hj with e| ⟨p1,p2,k⟩
 ·rw[←e];exact hr j _ v hx hv
 ·have h1:=hr j _ v hx hv;rw[Ao _ _ p1] at h1;rw[Ao _ _ p2];exact k w β H v h1
def two20:Tree:=.mk 1 false [114] [] [] [.mk 2 false [97] [] [] [],.mk 3 false [98] [] [] []]
def one20:Tree:=.mk 1 false [114] [] [] [.mk 3 false [98] [] [] []]
def end20:Tree:=.mk 1 false [114] [] [] [.mk 3 false [120] [] [] []]
def dO20:OpT:= {noOp 2 with path:=[0]}
def xO20:OpT:= {noOp 5 with path:=[0],label:=[120]}
theorem Adi {p:Bool}{xs ys:List OpT}{r:List OpT×List OpT×Int}(n:Nat)(h:bringF p n xs ys=some r):listsX p xs ys=(bareL r.1,bareL r.2.1,r.2.2):=by
 unfold listsX;rw[Qm h]
theorem wkL20 {b:Bool}{i:Int}{label text:List UInt8}{ats ks leaf:V}{al:List (List UInt8×List UInt8)}{ss:List Tree}(hl:Wk leaf (.bool b))(ha:Wk ats (.sl 2 (al.map attrV)))(hk:Wk ks (.sl 6 (ss.map nodeV))):
  WkL [.int .u64 i,leaf,.str label,ats,.str text,ks] (nodeV (.mk i b label al text ss)).cells:=by
 refine⟨.refl _,hl,.refl _,ha,.refl _,?_,trivial⟩;rw[A2];exact hk
theorem Am3 {p:List Int}:WkE 11 [.agg [.int .u8 2,pathV p,.int .i64 0,.nilsl,.int .u64 0,.ff,.str [],.str [],.str [],.ff,.nilsl]] ([{noOp 2 with path:=p}].map opV):=
 ⟨⟨⟨.refl _,.refl _,.refl _,Wk.nil 1,.refl _,Wk.ff,.refl _,.refl _,.refl _,Wk.ff,Wk.nil 3,trivial⟩,rfl,rfl⟩,trivial⟩
theorem Am4 {p:List Int}{s:List UInt8}:WkE 11 [.agg [.int .u8 5,pathV p,.int .i64 0,.nilsl,.int .u64 0,.ff,.str s,.str [],.str [],.ff,.nilsl]] ([{noOp 5 with path:=p,label:=s}].map opV):=
 ⟨⟨⟨.refl _,.refl _,.refl _,Wk.nil 1,.refl _,Wk.ff,.refl _,.refl _,.refl _,Wk.ff,Wk.nil 3,trivial⟩,rfl,rfl⟩,trivial⟩
theorem okL20 {o:OpT}(h1:o.path.length≤10)(h2:o.to.length≤10)(h3:o.label.length≤10)(h4:o.key.length≤10)(h5:o.value.length≤10)(h6:o.pieces=[]):OkL [o]:=λz hz=>by
 rw[Ar5.1 hz];exact⟨⟨⟨by omega,by omega,by omega,by omega,by omega,by rw[h6];simp⟩,by rw[h6];simp[putsLen]⟩,by omega⟩
theorem Adj {P:Program}{f:FuncId}{T:Heap}{p x y:V}{Q:V->Heap->Prop}(h:Fun P f T [p,y] Q)(hx:x.pureB=true)(hy:y.pureB=true)(hw:Wk x y):Fun P f T [p,x] Q:=
 Adh h rfl λj a b ha hb=>by
  match j,ha,hb with
  |0,ha,hb=>
   injection ha with ha
   injection hb with hb
   exact .inl (ha.symm.trans hb)
  |1,ha,hb=>
   injection ha with ha
   injection hb with hb
   subst ha hb;exact .inr ⟨hx,hy,hw⟩
  |j+2,ha,_=>simp at ha
def rawDel (p:List Int):V:=.sl 11 [.agg [.int .u8 2,pathV p,.int .i64 0,.nilsl,.int .u64 0,.ff,.str [],.str [],.str [],.ff,.nilsl]]
def rawLab (p:List Int)(s:List UInt8):V:=.sl 11 [.agg [.int .u8 5,pathV p,.int .i64 0,.nilsl,.int .u64 0,.ff,.str s,.str [],.str [],.ff,.nilsl]]
def iO22:OpT:= {noOp 1 with id:=9,label:=[110]}
def R6:Cl:=⟨5,0,two20,one20,false,[],[dO20]⟩
def R7:Cl:=⟨5,1,two20,one20,true,[dO20],[]⟩
def Dw:Cl:=⟨5,1,two20,end20,true,[dO20],[xO20]⟩
def base22:Tree:=.mk 1 false [114] [] [] [.mk 9 false [110] [] [] [],.mk 2 false [97] [] [] [],.mk 3 false [98] [] [] []]
def mid22:Tree:=.mk 1 false [114] [] [] [.mk 9 false [110] [] [] [],.mk 3 false [98] [] [] []]
def end22:Tree:=.mk 1 false [114] [] [] [.mk 9 false [110] [] [] [],.mk 3 false [120] [] [] []]
def d1O22:OpT:= {noOp 2 with path:=[1]}
def x1O22:OpT:= {noOp 5 with path:=[1],label:=[120]}
def Fq:Cl:=⟨6,1,base22,end22,true,[d1O22],[x1O22]⟩
def Ji:Cl:=⟨7,1,mid22,end22,false,[],[x1O22]⟩
theorem Aqe:(Cl.new 5 0 two20).edit [dO20]=(R6,0):=by kernel_rfl
theorem sub22:R6.submit=(R7,some [dO20]):=by kernel_rfl
theorem Aqf:R7.edit [xO20]=(Dw,0):=by kernel_rfl
theorem Akk:listsX true [iO22] [dO20]=([iO22],[d1O22],0):=by
 rw[Adi 3 (r:=([iO22],[d1O22],0)) (by kernel_rfl)]
 kernel_rfl
theorem Akl:listsX true [iO22] [xO20]=([iO22],[x1O22],0):=by
 rw[Adi 3 (r:=([iO22],[x1O22],0)) (by kernel_rfl)]
 kernel_rfl
theorem hear22:Dw.hear 6 [iO22]=(Fq,0):=by
 have e1:(listsX true [iO22] Dw.flight)=([iO22],[d1O22],0):=Akk;have e2:(listsX true [iO22] Dw.buffer)=([iO22],[x1O22],0):=Akl;have key: ∀r1 r2:List OpT×List OpT×Int,r1=([iO22],[d1O22],0)->r2=([iO22],[x1O22],0)->(bif !decide ((6:Int)=Dw.seen+1) then(Dw,(4:Int))
 else bif !decide ((AllR Dw.base [iO22]).2.2=0) then(Dw,(AllR Dw.base [iO22]).2.2)
 else bif !decide (r1.2.2=0) then(Dw,r1.2.2)
 else bif !decide (r2.2.2=0) then(Dw,r2.2.2)
 else(({Dw with base:=(AllR Dw.base [iO22]).1,tree:=(AllR Dw.tree r2.1).1,seen:=6,flight:=r1.2.1,buffer:=r2.2.1}:Cl),0))=(Fq,0):=by
  rintro _ _ rfl rfl
  kernel_rfl
 refine key _ _ e1 ?_;rw[e1];exact e2
theorem acc22:Fq.accepted 7=(Ji,0):=by kernel_rfl
theorem Ao4:Pure Tryz.prog 45 [] (λx=>x=nodeV two20):=by
 refine Aj (Ad 60 Tryz.func45 rfl rfl rfl λB=> ?_);refine⟨⟨rfl,rfl,trivial⟩,?_⟩;refine⟨trivial,rfl,rfl,rfl,rfl,rfl,nodeV two20,?_,rfl,rfl⟩;exact Wk.agg (wkL20 Wk.ff (Wk.nil 2) (Wk.sl ⟨⟨wkL20 Wk.ff (Wk.nil 2) (Wk.nil 6),Ad0 _⟩,⟨wkL20 Wk.ff (Wk.nil 2) (Wk.nil 6),Ad0 _⟩,trivial⟩))
def hp22 (c:Cl)(gf gb:Nat)(r:Heap):Heap:=some (.box (nodeV two20).cells)::some (.box (clC c (.osl (.loc 2) gf 0 (c.flight.map opV).length) (.osl (.loc 3) gb 0 (c.buffer.map opV).length)))::some (.vec gf 11 (c.flight.map opV))::some (.vec gb 11 (c.buffer.map opV))::r
def rawIns22:V:=.sl 11 [.agg [.int .u8 1,.nilsl,.int .i64 0,.nilsl,.int .u64 9,.ff,.str [110],.str [],.str [],.ff,.nilsl]]
theorem Am6:Wk rawIns22 (opsV [iO22]):=
 Wk.sl ⟨⟨⟨.refl _,Wk.nil 1,.refl _,Wk.nil 1,.refl _,Wk.ff,.refl _,.refl _,.refl _,Wk.ff,Wk.nil 3,trivial⟩,rfl,rfl⟩,trivial⟩
theorem Aqu:Fun Tryz.prog 29 (clT (Cl.new 5 0 two20) 0 0) [.ptr (.loc 0) 0,rawDel [0]] (λx T'=> ∃gb,x=.int .i64 0∧T'=clT R6 0 gb):=by
 refine Adj (y:=opsV [dO20]) ((R5 (Cl.new 5 0 two20) 0 0 [dO20] (by decide) (by decide) (okL20 (by decide) (by decide) (by decide) (by decide) (by decide) rfl) (by decide)).mono λx T' hq=> ?_) rfl rfl (Wk.sl Am3);rw[Aqe] at hq;exact hq
theorem Aqv (gf gb:Nat):Fun Tryz.prog 30 (clT R6 gf gb) [.ptr (.loc 0) 0] (λx T'=> ∃gf' gb',x=.tup [opsV [dO20],.bool true]∧T'=clT R7 gf' gb'):=by
 refine(Z9 R6 gf gb (by decide) (by decide) (Hs (okL20 (by decide) (by decide) (by decide) (by decide) (by decide) rfl)) (λ_=>rfl)).mono λx T' hq=> ?_;rw[sub22] at hq;exact hq
theorem Aqw (gf gb:Nat):Fun Tryz.prog 29 (clT R7 gf gb) [.ptr (.loc 0) 0,rawLab [0] [120]] (λx T'=> ∃gb',x=.int .i64 0∧T'=clT Dw gf gb'):=by
 refine Adj (y:=opsV [xO20]) ((R5 R7 gf gb [xO20] (by decide) (by decide) (okL20 (by decide) (by decide) (by decide) (by decide) (by decide) rfl) (by decide)).mono λx T' hq=> ?_) rfl rfl (Wk.sl Am4);rw[Aqf] at hq;exact hq
theorem Am7 {P:Program}{f:FuncId}{T:Heap}{p n x y:V}{Q:V->Heap->Prop}(h:Fun P f T [p,n,y] Q)(hx:x.pureB=true)(hy:y.pureB=true)(hw:Wk x y):Fun P f T [p,n,x] Q:=
 Adh h rfl λj a b ha hb=>by
  match j,ha,hb with
  |0,ha,hb=>
   injection ha with ha
   injection hb with hb
   exact .inl (ha.symm.trans hb)
  |1,ha,hb=>
   injection ha with ha
   injection hb with hb
   exact .inl (ha.symm.trans hb)
  |2,ha,hb=>
   injection ha with ha
   injection hb with hb
   subst ha hb;exact .inr ⟨hx,hy,hw⟩
  |j+3,ha,_=>simp at ha
theorem Aqx (gf gb:Nat):Fun Tryz.prog 31 (clT Dw gf gb) [.ptr (.loc 0) 0,.int .i64 6,rawIns22] (λx T'=> ∃gf' gb',x=.int .i64 0∧T'=clT Fq gf' gb'):=by
 have e1:(listsX true [iO22] Dw.flight).1=[iO22]:=congrArg (·.1) Akk;have e2:(listsX true [iO22] Dw.buffer).1=[iO22]:=congrArg (·.1) Akl;refine Am7 (y:=opsV [iO22]) ((Aga Dw gf gb 6 [iO22] (by decide) (by decide) (okL20 (by decide) (by decide) (by decide) (by decide) (by decide) rfl) (okL20 (by decide) (by decide) (by decide) (by decide) (by decide) rfl) (okL20 (by decide) (by decide) (by decide) (by decide) (by decide) rfl) (by decide) (by rw[e1,e2];decide)).mono λx T' hq=> ?_) rfl rfl Am6;rw[hear22] at hq;exact⟨_,_,hq⟩
theorem Aqy (gf gb:Nat):Fun Tryz.prog 34 (clT Fq gf gb) [.ptr (.loc 0) 0,.int .i64 7] (λx T'=> ∃gf',x=.int .i64 0∧T'=clT Ji gf' gb):=by
 refine(Tc Fq gf gb 7 (by decide) (by decide) (okL20 (by decide) (by decide) (by decide) (by decide) (by decide) rfl) (by decide)).mono λx T' hq=> ?_;rw[acc22] at hq;exact⟨_,hq⟩
theorem Akm:Pure Tryz.prog 24 [] (λx=>x=.bool true):=by
 refine Aj (Ad 60 Tryz.func24 rfl rfl rfl λB=> ?_);show CallThen _ _ _ _ _ _;refine Aa Ao4 rfl ?_;rintro z rfl;show CallThen _ _ _ _ _ _;refine Ag [] (Akg 5 0 two20 (by decide) (by decide)) rfl rfl trivial rfl rfl rfl ?_;rintro x T1 ⟨rfl,rfl⟩;refine⟨rfl,?_⟩;refine⟨λq=>absurd rfl (A7 q),λ_=> ?_⟩;refine C9 1 15 11 rfl rfl ?_;refine C9 1 16 11 rfl rfl ?_;refine go 1 ?_;show Goes _ _ _ _;refine Agp (t:= 56) (e:= 114) 60 rfl rfl rfl rfl rfl rfl rfl rfl rfl ?_;refine⟨⟨rfl,trivial⟩,rfl,rfl,⟨rfl,trivial⟩,?_⟩;show CallThen _ _ _ _ _ _;refine Dl 5 rfl rfl ?_;refine Ax [1,2,3] Aqu rfl rfl Zq3 rfl rfl rfl ?_;rintro x T1 ⟨gb1,rfl,rfl⟩;refine⟨rfl,hp22 R6 0 gb1 [none,none],_,rfl,rfl,?_⟩;show CallThen _ _ _ _ _ _;refine Ax [1,2,3] (Aqv 0 gb1) rfl rfl Zq3 rfl rfl rfl ?_;rintro x T1 ⟨gf2,gb2,rfl,rfl⟩;refine⟨rfl,hp22 R7 gf2 gb2 [none,none],_,rfl,rfl,?_⟩;refine⟨⟨rfl,trivial⟩,rfl,rfl,⟨rfl,trivial⟩,?_⟩;show CallThen _ _ _ _ _ _;refine Dl 7 rfl rfl ?_;refine Ax [1,2,3] (Aqw gf2 gb2) rfl rfl Zq3 rfl rfl rfl ?_;rintro x T1 ⟨gb3,rfl,rfl⟩;refine⟨rfl,hp22 Dw gf2 gb3 [none,none,none,none],_,rfl,rfl,?_⟩;refine⟨⟨rfl,trivial⟩,?_⟩;show CallThen _ _ _ _ _ _;refine Dl 8 rfl rfl ?_;refine Ax [1,2,3] (Aqx gf2 gb3) rfl rfl Zq3 rfl rfl rfl ?_;rintro x T1 ⟨gf4,gb4,rfl,rfl⟩;refine⟨rfl,hp22 Fq gf4 gb4 [none,none,none,none,none],_,rfl,rfl,?_⟩;show CallThen _ _ _ _ _ _;refine Ax [1,2,3] (Z7 Fq gf4 gb4 (by decide) (Hs (okL20 (by decide) (by decide) (by decide) (by decide) (by decide) rfl))) rfl rfl Zq3 rfl rfl rfl ?_;rintro x T1 ⟨rfl,rfl⟩;refine⟨rfl,hp22 Fq gf4 gb4 [none,none,none,none,none,some (.vec 2 11 ((bareL Fq.flight).map opV))],.tup [.osl (.loc 9) 2 0 ((bareL Fq.flight).map opV).length,.bool true],rfl,rfl,?_⟩;refine⟨λq=>absurd q (by decide),λ_=>go 60 ?_⟩;refine⟨λq=>absurd q (by decide),λ_=>go 60 ?_⟩;refine⟨λq=>absurd q (by decide),λ_=>go 60 ?_⟩;refine⟨λq=>absurd q (by decide),λ_=>go 60 ?_⟩;refine⟨λq=>absurd q (by decide),λ_=>go 60 ?_⟩;refine⟨λq=>absurd q (by decide),λ_=>go 60 ?_⟩;refine⟨rfl,?_⟩;refine⟨λq=>absurd q (by decide),λ_=>go 60 ?_⟩;refine⟨rfl,by decide,by decide,rfl,rfl,opV d1O22,rfl,?_⟩;refine⟨λq=>absurd q (by decide),λ_=>go 60 ?_⟩;refine⟨rfl,by decide,by decide,rfl,rfl,opV d1O22,rfl,?_⟩;refine⟨by decide,intV 1,rfl,?_⟩;refine⟨λq=>absurd q (by decide),λ_=> ?_⟩;show Goes {P:= Tryz.prog,nt:= Tryz.f24.ntmps,fn:= 24,ro:=none,imps:=[],X:=XR Tryz.prog [] Tryz.f24.results B λx T=>frz x T False λx' _=>x'.pureB=true∧ ∃y,Wk x' y∧y.pureB=true∧y=V.bool true,B:=B,D:=[]} _ _ _;refine go 60 ?_;show CallThen _ _ _ _ _ _;refine Ax [1,2,3] (Aqy gf4 gb4) rfl rfl Zq3 rfl rfl rfl ?_;rintro x T1 ⟨gf5,rfl,rfl⟩;refine⟨rfl,hp22 Ji gf5 gb4 [none,none,none,none,none,some (.vec 2 11 ((bareL Fq.flight).map opV))],_,rfl,rfl,?_⟩;show CallThen _ _ _ _ _ _;refine Ax [1,2,3] (Aa3 Ji gf5 gb4 rfl) rfl rfl Zq3 rfl rfl rfl ?_;rintro x T1 ⟨rfl,rfl⟩;refine⟨rfl,hp22 Ji gf5 gb4 [none,none,none,none,none,some (.vec 2 11 ((bareL Fq.flight).map opV))],_,rfl,rfl,?_⟩;show CallThen _ _ _ _ _ _;refine Ax [1,2,3] (X8 Ji gf5 gb4 (by decide)) rfl rfl Zq3 rfl rfl rfl ?_;rintro x T1 ⟨rfl,rfl⟩;refine⟨rfl,hp22 Ji gf5 gb4 [none,none,none,none,none,some (.vec 2 11 ((bareL Fq.flight).map opV))],nodeV end22,rfl,rfl,?_⟩;refine⟨λ_=>go 60 ?_,λq=>absurd q (by decide)⟩;refine⟨λ_=>go 60 ?_,λq=>absurd q (by decide)⟩;show CallThen _ _ _ _ _ _;refine Ax [1,2,3] (Lx Ji gf5 gb4) rfl rfl Zq3 rfl rfl rfl ?_;rintro x T1 ⟨rfl,rfl⟩;refine⟨rfl,hp22 Ji gf5 gb4 [none,none,none,none,none,some (.vec 2 11 ((bareL Fq.flight).map opV)),some (.box (nodeV end22).cells)],_,rfl,rfl,?_⟩;refine⟨λ_=>go 60 ?_,λq=>absurd q (by decide)⟩;show CallThen _ _ _ _ _ _;refine Ax [1,2,3] (Aqd Ji gf5 gb4) rfl rfl Zq3 rfl rfl rfl ?_;rintro x T1 ⟨rfl,rfl⟩;refine⟨rfl,hp22 Ji gf5 gb4 [none,none,none,none,none,some (.vec 2 11 ((bareL Fq.flight).map opV)),some (.box (nodeV end22).cells)],_,rfl,rfl,?_⟩;refine⟨λ_=>go 60 ?_,λq=>absurd q (by decide)⟩;refine⟨λ_=>go 60 ?_,λq=>absurd q (by decide)⟩;refine⟨by decide,nodeV (.mk 3 false [120] [] [] []),rfl,?_⟩;exact⟨trivial,rfl,rfl,rfl,B8 (show decide _=true by decide)⟩
end Bow
namespace Bow
open Go
theorem Q3 {b a:OpT}{p:Bool}(h:(rowO b a p).length=2): ∀o∈rowO b a p,costO (bareO o)≤2:=by
 have hk:=Nx h;have hd: ∀q:List Int,costO (bareO (dropO q))≤2:=λq=>G6 (dropO q);have hu:costO (bareO (undoO a))≤2:=Ark (G6 _) (by rw[Ze];omega);have hb:b.kind=3->costO (bareO b)≤2:=λe=>by
  unfold bareO;rw[e];exact Avg rfl
 unfold rowO at h ⊢;cases h1:decide (a.kind=2) with
 |true=>
  rw[h1] at h;cases h2:within a.path b.path with
  |true=>rw[h2] at h;cases h
  |false=>
   rw[h2] at h;cases h3:decide (b.kind=3)&&within a.path b.to<;>(rw[h3] at h;cases h)
 |false=>
  rw[h1] at h;cases h2:wonO b a with
  |true=>rw[h2] at h;cases p<;>cases h
  |false=>
   rw[h2] at h;cases h3:decide (a.kind=3) with
   |false=>rw[h3] at h;cases h
   |true=>
    rw[h3] at h;cases h4:decide (b.kind=2) with
    |true=>
     rw[h4] at h;cases h5:within b.path a.path&& (!decide (b.path=a.path)&& !within b.path a.to) with
     |false=>rw[h5] at h;cases h
     |true=>
      intro o ho;simp only[cond_true,cond_false,Arm,Arl,Av5,or_false] at ho
      rcases ho with rfl|rfl<;>exact hd _
    |false=>
     rw[h4] at h;cases h5:decide (b.kind=3)&& (within b.path a.to&&within a.path b.to) with
     |false=>rw[h5] at h;cases h
     |true=>
      have k3:b.kind=3:=by
       simp only[Aq6,decide_eq_true_eq] at h5;exact h5.1
      rw[h5] at h;cases p with
      |false=>cases h
      |true=>
       intro o ho;simp only[cond_true,cond_false,Arm,Arl,Av5,or_false] at ho
       rcases ho with rfl|rfl
       ·exact hu
       ·exact hb k3
theorem Jf {C:Nat}: ∀ {l:List OpT},(∀o∈l,costO o≤C)->costs l≤l.length*C
 | [],_=>by rw[Cb];omega
 |o::l,h=>by
  have h1:=h o (by simp);have h2:=Jf λz hz=>h z (Are _ hz);rw[B7,Aq8,Asn];omega
theorem Amn (a b:OpT)(prior:Bool):costs (bothX a b prior).1+costs (bothX a b prior).2.1≤costO a+costO b:=by
 obtain⟨⟨x,y,e⟩,h⟩: ∃r,bothX a b prior=r:=⟨_,rfl⟩;have c1:=Aet a b prior;have c2:=Ag3 a b prior;rw[h] at c1 c2 ⊢;simp only at c1 c2 ⊢
 by_cases he0:e=0
 ·subst he0;obtain⟨h1,h2⟩:=T6 h;have hs:=Ow h1;have hx:=Jf c1;have hy:=Jf c2;have ma:=Jv a;have mb:=Jv b;have one:x.length≤1->y.length≤1->costs x+costs y≤costO a+costO b:=λl1 l2=>by
   have:=Ark hx (Arg _ l1);have:=Ark hy (Arg _ l2);omega
  cases hed:bothEdit a b with
  |true=>
   obtain⟨q1,_⟩:=Ry hed h1;obtain⟨q3,_⟩:=Ry (by rw[Et];exact hed) h2;exact one (by omega) (by omega)
  |false=>
   have ex:=Kc hs hed h1;have ey:=Kc ⟨hs.2,hs.1⟩ (by rw[Et];exact hed) h2;have lx:x.length=(rowO a b prior).length:=by rw[ex];simp
   have ly:y.length=(rowO b a (!prior)).length:=by rw[ey];simp
   have ba:=Nz a b prior;have bb:=Nz b a (!prior)
   by_cases c1:(rowO a b prior).length=2
   ·have r0:=(Nx c1).1;have hc:=Q3 c1;rw[r0] at ly;have hy0:y=[]:=Ard.1 (by simpa using ly);have:costs x≤x.length*2:=Jf λo ho=>by
     rw[ex] at ho;obtain⟨z,hz,rfl⟩:=Ato.1 ho;exact hc z hz
    rw[hy0,Cb];omega
   ·by_cases c2:(rowO b a (!prior)).length=2
    ·have r0:=(Nx c2).1;have hc:=Q3 c2;rw[Att] at r0;rw[r0] at lx;have hx0:x=[]:=Ard.1 (by simpa using lx);have:costs y≤y.length*2:=Jf λo ho=>by
      rw[ey] at ho;obtain⟨z,hz,rfl⟩:=Ato.1 ho;exact hc z hz
     rw[hx0,Cb];omega
    ·exact one (by omega) (by omega)
 ·have e1:bringF prior 1 [a] [b]=some (x,y,e):=by
   rw[A0];unfold bringS;have:muchP [a] [b]=false:=rfl;rw[this,cond_false];simp only;rw[h]
  obtain⟨rfl,rfl⟩:=Vm e1 he0;rw[Cb];omega
theorem Jg (prior:Bool): ∀(n:Nat) (xs ys:List OpT) (r:List OpT×List OpT×Int),bringF prior n xs ys=some r->costs r.1+costs r.2.1≤costs xs+costs ys
 |0,_,_,_,h=>by cases h
 |n+1,xs,ys,r,h=>by
  have none3: ∀e:Int,costs (([],[],e):List OpT×List OpT×Int).1+costs (([],[],e):List OpT×List OpT×Int).2.1≤costs xs+costs ys:=λe=>by
   simp only[Cb];omega
  rw[A0] at h;unfold bringS at h;cases hm:muchP xs ys with
  |true=>
   rw[hm] at h;injection h with h
   subst h;exact none3 3
  |false=>
   rw[hm,cond_false] at h
   match xs,ys,h,none3 with
   | [],ys,h,_=>
    injection h with h
    subst h;exact Ara _
   |a::xs,[],h,_=>
    injection h with h
    subst h;exact Ara _
   | [a],[b],h,_=>
    injection h with h
    subst h;have:=Amn a b prior;simp only[B7,Cb];omega
   |a::a'::xs,b::ys,h,none3=>
    simp only at h;cases h1:bringF prior n [a] (b::ys) with
    |none=>rw[h1] at h;cases h
    |some q=>
     obtain⟨x1,y1,e1⟩:=q;rw[h1] at h;have i1:=Jg prior n _ _ _ h1;simp only at h i1;cases d1: !decide (e1=0) with
     |true=>
      rw[d1] at h;injection h with h
      subst h;exact none3 e1
     |false=>
      rw[d1,cond_false] at h;cases h2:bringF prior n (a'::xs) y1 with
      |none=>rw[h2] at h;cases h
      |some q=>
       obtain⟨z,w,e2⟩:=q;rw[h2] at h;have i2:=Jg prior n _ _ _ h2;simp only at h i2;cases d2: !decide (e2=0) with
       |true=>
        rw[d2] at h;injection h with h
        subst h;exact none3 e2
       |false=>
        rw[d2,cond_false] at h;cases hmm:muchP (x1++z) w with
        |true=>
         rw[hmm] at h;injection h with h
         subst h;exact none3 3
        |false=>
         rw[hmm] at h;injection h with h
         subst h;simp only[Iz,B7,Cb] at i1 i2 ⊢;omega
   | [a],b::b'::ys,h,none3=>
    simp only at h;cases h1:bringF prior n [a] [b] with
    |none=>rw[h1] at h;cases h
    |some q=>
     obtain⟨x1,y1,e1⟩:=q;rw[h1] at h;have i1:=Jg prior n _ _ _ h1;simp only at h i1;cases d1: !decide (e1=0) with
     |true=>
      rw[d1] at h;injection h with h
      subst h;exact none3 e1
     |false=>
      rw[d1,cond_false] at h;cases h2:bringF prior n x1 (b'::ys) with
      |none=>rw[h2] at h;cases h
      |some q=>
       obtain⟨z,w,e2⟩:=q;rw[h2] at h;have i2:=Jg prior n _ _ _ h2;simp only at h i2;cases d2: !decide (e2=0) with
       |true=>
        rw[d2] at h;injection h with h
        subst h;exact none3 e2
       |false=>
        rw[d2,cond_false] at h;cases hmm:muchP z (y1++w) with
        |true=>
         rw[hmm] at h;injection h with h
         subst h;exact none3 3
        |false=>
         rw[hmm] at h;injection h with h
         subst h;simp only[Iz,B7,Cb] at i1 i2 ⊢;omega
theorem Dp: ∀l:List OpT,costs (bareL l)≤costs l
 | []=>Ara _
 |o::l=>by
  have h1:=G6 o;have h2:=Dp l;have e:bareL (o::l)=bareO o::bareL l:=rfl;rw[e,B7,B7];omega
theorem Pg (prior:Bool)(xs ys:List OpT):costs (listsX prior xs ys).1+costs (listsX prior xs ys).2.1≤costs xs+costs ys:=by
 obtain⟨n,hn⟩:=B4 prior xs ys;have h:=Jg prior n xs ys _ hn;have h1:=Dp (bringX prior xs ys).1;have h2:=Dp (bringX prior xs ys).2.1;show costs (bareL _)+costs (bareL _)≤_;omega
theorem We (l:List OpT)(k:Nat):costs (l.take k)+costs (l.drop k)=costs l:=by
 rw[←Iz,Ar4]
end Bow
