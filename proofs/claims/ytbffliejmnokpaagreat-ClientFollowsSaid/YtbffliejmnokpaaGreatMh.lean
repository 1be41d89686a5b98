/- The library, part 8: W132, W114, SP18, SP73, SP74, SP75, W135, SP76, W136, W137, W112, W115, W138, W139, W133, W140, TD1, TD2, TD4, TD6. -/
import Derived.Test.YtbffliejmnokpaaGreatMg
import Derived.Test.YtbffliejmnokpaaGreatMd
import Derived.Test.YtbffliejmnokpaaGreatMe
import Derived.Test.YtbffliejmnokpaaGreatMf
import Derived.Test.YtbffliejmnokpaaGreatMc
import Derived.Test.YtbffliejmnokpaaGreatRows
import Derived.ChangeShapes
set_option maxRecDepth 100000
set_option maxHeartbeats 4000000
namespace Bow
open Go Go.Proofs
def wt:Nat->Nat
 |0=>100
 |k+1=>wt k+648* (k+1)
theorem Agb {k:Nat}: ∀n,wt k≤wt (k+n)
 |0=>Ara _
 |n+1=>Ark (Agb n) (show wt (k+n)≤wt (k+n)+648* (k+n+1) by omega)
theorem Aqz {k:Nat}(h:k≤32):wt k≤345000:=by
 have:=Agb (k:=k) (32-k);rw[At4 h] at this;exact Ark this (by decide)
structure CI (c:Cl)(k:Nat):Prop where
 flight:OkL c.flight
 buffer:OkL c.buffer
 len:c.flight.length+c.buffer.length≤4*k
 cost:costs c.flight+costs c.buffer≤648*k
 seen:0≤c.seen∧c.seen≤2305843009213693952+k
 seq:0≤c.seq∧c.seq≤2305843009213693952+k
 base:c.base.weight≤wt k
 tree:c.tree.weight≤wt k
 none:c.sent=false->c.flight=[]
structure Lc (l:List OpT):Prop where
 ok:OkL l
 len:l.length≤4
 cost:costs l≤648
theorem Aq0 {l:List OpT}(h:LightL l 4 40):Lc l:=
 ⟨Ali ⟨h.len,λo ho=>⟨Age (h.ops o ho).1 (by decide),Ark (h.ops o ho).2 (by decide)⟩⟩,h.len,Abu h.len (Aie h)⟩
theorem CI.mono {c:Cl}{k:Nat}(h:CI c k):CI c (k+1):=by
 have e:wt (k+1)=wt k+648* (k+1):=rfl;obtain⟨h1,h2,h3,h4,h5,h6,h7,h8,h9⟩:=h;exact⟨h1,h2,by omega,by omega,⟨h5.1,by omega⟩,⟨h6.1,by omega⟩,by omega,by omega,h9⟩
theorem Agc {a b:List OpT}(h:OkL a)(k:OkL b):OkL (a++b):=λo ho=>by
 rcases Asi.1 ho with ho|ho
 ·exact h o ho
 ·exact k o ho
theorem CI.edit {c:Cl}{k:Nat}(h:CI c k){l:List OpT}(hl:Lc l):CI (c.edit l).1 (k+1):=by
 have e:wt (k+1)=wt k+648* (k+1):=rfl;have hw:=Gq c.tree l;unfold Cl.edit;cases !decide (firstBad l=0) with
 |true=>exact h.mono
 |false=>
 cases decide (512< (c.buffer.length:Int)+l.length) with
 |true=>exact h.mono
 |false=>
 obtain⟨⟨t2,n2,er⟩,hA⟩: ∃r,AllR c.tree l=r:=⟨_,rfl⟩;rw[hA] at hw ⊢;simp only[cond_false] at hw ⊢;cases decide (er=0) with
 |false=>exact h.mono
 |true=>
  have hb:=Dp l;obtain⟨h1,h2,h3,h4,h5,h6,h7,h8,h9⟩:=h;obtain⟨l1,l2,l3⟩:=hl;refine⟨h1,Agc h2 (By l1),?_,?_,⟨h5.1,?_⟩,⟨h6.1,?_⟩,?_,?_,h9⟩
  ·simp only[cond_true,Arb,Bj];omega
  ·simp only[cond_true,Iz];omega
  ·simp only[cond_true];omega
  ·simp only[cond_true];omega
  ·simp only[cond_true];omega
  ·simp only[cond_true];omega
theorem Ao5 {a b z:OpT}(h:pairO a b=some (some z)):z.to=[]:=by
 unfold pairO at h;have kb: ∀o:OpT,o.kind≠3->(bareO o).to=[]:=λo ho=>by
  unfold bareO;have:(o.kind==3)=false:=by simpa using ho
  cases o.kind==1<;>cases o.kind==2<;>cases o.kind==4<;>cases o.kind==5<;>cases o.kind==6<;>simp[this,noOp]
 cases h1: !busyO a|| !busyO b with
 |true=>rw[h1] at h;cases h
 |false=>
 rw[h1,cond_false] at h;cases h2:decide (a.kind=1)&&decide (a.path++ [a.at_]=b.path)&&decide (b.kind=2) with
 |true=>rw[h2] at h;simp at h
 |false=>
 rw[h2,cond_false] at h;cases h3:decide (a.kind=1)&&decide (a.path++ [a.at_]=b.path)&&decide (b.kind=5) with
 |true=>
  rw[h3,cond_true] at h;injection h with h
  injection h with h
  rw[←h];simp only[Aq6,decide_eq_true_eq] at h3;exact kb _ (by simp only;omega)
 |false=>
 rw[h3,cond_false] at h;cases h4: !decide (a.kind=b.kind)|| !decide (a.path=b.path) with
 |true=>rw[h4] at h;cases h
 |false=>
 rw[h4,cond_false] at h;simp only[Asw,Aul,decide_eq_true_eq] at h4;cases h5:decide (a.kind=5) with
 |true=>
  rw[h5,cond_true] at h;injection h with h
  injection h with h
  rw[←h];exact kb _ (by have:=of_decide_eq_true h5;omega)
 |false=>
 rw[h5,cond_false] at h;cases h6:decide (a.kind=4) with
 |true=>
  rw[h6,cond_true] at h;cases h7:decide (a.key=b.key) with
  |false=>rw[h7] at h;cases h
  |true=>
   rw[h7,cond_true] at h;injection h with h
   injection h with h
   rw[←h];exact kb _ (by have:=of_decide_eq_true h6;omega)
 |false=>
 rw[h6,cond_false] at h;cases h7:decide (a.kind=6) with
 |false=>rw[h7] at h;cases h
 |true=>
 rw[h7,cond_true] at h;cases h8: !decide ((composeP a.pieces b.pieces).2=0) with
 |true=>rw[h8] at h;cases h
 |false=>
 rw[h8,cond_false] at h;cases h9:decide ((composeP a.pieces b.pieces).1.length=0) with
 |true=>rw[h9] at h;simp at h
 |false=>
 rw[h9,cond_false] at h;injection h with h
 injection h with h
 rw[←h];exact kb _ (by have:=of_decide_eq_true h7;simp only;omega)
theorem Am8 (o:OpT):(bareO o).to.length≤o.to.length:=by
 unfold bareO;cases o.kind==1<;>cases o.kind==2<;>cases o.kind==3<;>cases o.kind==4<;>cases o.kind==5<;>cases o.kind==6<;>simp[noOp]
theorem Ahq (prior:Bool)(xs:List OpT):(listsX prior xs []).2.1=[]:=by
 obtain⟨n,hn⟩:=B4 prior xs [];have:(bringX prior xs []).2.1=[]:=by
  generalize bringX prior xs []=r at hn;cases n with
  |zero=>cases hn
  |succ n=>
   rw[A0] at hn;unfold bringS at hn;cases hm:muchP xs [] with
   |true=>
    rw[hm] at hn;injection hn with hn
    rw[←hn]
   |false=>
    rw[hm,cond_false] at hn;cases xs with
    |nil=>
     injection hn with hn
     rw[←hn]
    |cons a xs=>
     injection hn with hn
     rw[←hn]
 show bareL _=_;rw[this];rfl
theorem Akn {l:List OpT}(h:OkL l):OkL (listS l):=by
 have key: ∀(n:Nat) (s:List OpT) (x:OpT),s.length≤n->OkL s->OkL [x]->OkL (pushO s x):=by
  intro n
  induction n with
  |zero=>
   intro s x hn hs hx;have:s=[]:=Ard.1 (by omega);subst this;exact hx
  |succ n ih=>
   intro s x hn hs hx;have cons: ∀ {s:List OpT} {x:OpT},OkL s->OkL [x]->OkL (x::s):=λ {s x} hs hx=>Agc (a:=[x]) hx hs;cases s with
   |nil=>exact hx
   |cons a rest=>
    have ha:=hs a (by simp);have hr:OkL rest:=λz hz=>hs z (by simp[hz]);rw[Kz];cases hp:pairO a x with
    |none=>exact cons hs hx
    |some z=>
     cases z with
     |some z=>
      refine ih rest z (by simp at hn;omega) hr λo ho=> ?_;rw[Ar5.1 ho];exact⟨Uh ha.1 (hx x (by simp)).1 hp,by rw[Ao5 hp];exact Aq4 _⟩
     |none=>
      cases rest with
      |nil=>exact hr
      |cons y rest=>
       refine ih rest y (by simp at hn;omega) (λz hz=>hr z (by simp[hz])) λo ho=> ?_;rw[Ar5.1 ho];exact hr y (by simp)
 have go: ∀(l s:List OpT),OkL l->OkL s->OkL (listR l s):=by
  intro l
  induction l with
  |nil=>exact λs _ hs=>hs
  |cons o l ih=>
   intro s hl hs;have ho:=hl o (by simp);have hl':OkL l:=λz hz=>hl z (by simp[hz]);rw[listR];cases idleO o with
   |true=>exact ih s hl' hs
   |false=>
    refine ih _ hl' (key _ s _ (Ara _) hs λz hz=> ?_);rw[Ar5.1 hz];exact⟨Hr ho.1,Ark (Am8 o) ho.2⟩
 intro o ho;unfold listS at ho;rw[List.mem_reverse] at ho;exact go l [] h Bn o ho
theorem CI.submit {c:Cl}{k:Nat}(h:CI c k):CI c.submit.1 (k+1):=by
 have e:wt (k+1)=wt k+648* (k+1):=rfl;have l1:=Zy c.buffer;have l2:=Aha c.buffer;have l3:=Akn h.buffer;unfold Cl.submit;cases hs:c.sent with
 |true=>exact h.mono
 |false=>
 have hf:=h.none hs;obtain⟨h1,h2,h3,h4,h5,h6,h7,h8,h9⟩:=h;generalize listS c.buffer=b at l1 l2 l3;cases decide (b.length=0) with
 |true=>
  simp only[cond_true,cond_false];exact⟨h1,l3,by simp only;omega,by simp only;omega,⟨h5.1,by simp only;omega⟩,⟨h6.1,by simp only;omega⟩,by simp only;omega,by simp only;omega,λ_=>hf⟩
 |false=>
  simp only[cond_false];generalize subK b b.length 1=K;have ht:=We b K;have hd:=Dp (b.drop K);refine⟨λo ho=>l3 o (As0 ho),By λo ho=>l3 o (Asp ho),?_,?_,⟨h5.1,by simp only;omega⟩,⟨by simp only;omega,by simp only;omega⟩,by simp only;omega,by simp only;omega,λq=>by cases q⟩
  ·simp only[Bj,Ar1,Asf];omega
  ·simp only;omega
theorem CI.hear {c:Cl}{k:Nat}(h:CI c k){l:List OpT}(hl:Lc l)(rev:Int):CI (c.hear rev l).1 (k+1)∧costs (listsX true (listsX true l c.flight).1 c.buffer).1≤648* (k+1):=by
 have e:wt (k+1)=wt k+648* (k+1):=rfl;have hw:=Gq c.base l;have s1:=Pg true l c.flight;have s2:=Pg true (listsX true l c.flight).1 c.buffer;have o1:=Fg (prior:=true) hl.ok h.flight;have i1:=Gh true l c.flight;have o2:=Fg (prior:=true) (By o1.1) h.buffer;have i2:=Gh true (bareL (bringX true l c.flight).1) c.buffer;have hw2:=Gq c.tree (listsX true (listsX true l c.flight).1 c.buffer).1;have p1:OkL (listsX true l c.flight).2.1:=By o1.2;have p2:OkL (listsX true (listsX true l c.flight).1 c.buffer).2.1:=By o2.2;have q1:(listsX true l c.flight).1.length+ (listsX true l c.flight).2.1.length≤l.length+c.flight.length:=by
  show(bareL _).length+ (bareL _).length≤_;rw[Bj,Bj];exact i1
 have q2:(listsX true (listsX true l c.flight).1 c.buffer).1.length+ (listsX true (listsX true l c.flight).1 c.buffer).2.1.length≤(listsX true l c.flight).1.length+c.buffer.length:=by
  show(bareL _).length+ (bareL _).length≤_;rw[Bj,Bj];exact i2
 have hm:=h.mono;obtain⟨h1,h2,h3,h4,h5,h6,h7,h8,h9⟩:=h;obtain⟨l1,l2,l3⟩:=hl;refine⟨?_,by omega⟩;unfold Cl.hear;cases hr: !decide (rev=c.seen+1) with
 |true=>exact hm
 |false=>
 have hr:rev=c.seen+1:=by simpa using hr
 cases hA: !decide ((AllR c.base l).2.2=0) with
 |true=>exact hm
 |false=>
 cases !decide ((listsX true l c.flight).2.2=0) with
 |true=>exact hm
 |false=>
 cases !decide ((listsX true (listsX true l c.flight).1 c.buffer).2.2=0) with
 |true=>exact hm
 |false=>
  simp only[cond_false];obtain⟨b1,b2⟩:=Fg (prior:=true) l1 h1;exact⟨p1,p2,by simp only;omega,by simp only;omega,⟨by simp only;omega,by simp only;omega⟩,⟨h6.1,by simp only;omega⟩,by simp only;omega,by simp only;omega,λq=>by simp only;rw[h9 q];exact Ahq true l⟩
theorem CI.accepted {c:Cl}{k:Nat}(h:CI c k)(rev:Int):CI (c.accepted rev).1 (k+1):=by
 have e:wt (k+1)=wt k+648* (k+1):=rfl;have hw:=Gq c.base c.flight;have hm:=h.mono;obtain⟨h1,h2,h3,h4,h5,h6,h7,h8,h9⟩:=h;unfold Cl.accepted;cases !c.sent with
 |true=>exact hm
 |false=>
 cases hr: !decide (rev=c.seen+1) with
 |true=>exact hm
 |false=>
 have hr:rev=c.seen+1:=by simpa using hr
 cases decide ((AllR c.base c.flight).2.2=0) with
 |false=>exact hm
 |true=>
  simp only[Auc,cond_true,cond_false];exact⟨Bn,h2,by simp only[Arc];omega,by simp only[Cb];omega,⟨by simp only;omega,by simp only;omega⟩,⟨h6.1,by simp only;omega⟩,by simp only;omega,by simp only;omega,λ_=>rfl⟩
theorem CI.drop {c:Cl}{k:Nat}(h:CI c k):CI c.dropped (k+1):=by
 have hm:=h.mono;obtain⟨h1,h2,h3,h4,h5,h6,h7,h8,h9⟩:=hm;exact⟨Bn,Bn,by simp[Cl.dropped],by simp[Cl.dropped,Cb],h5,h6,h7,h7,λ_=>rfl⟩
theorem CI.begun {t:Tree}(h:t.weight≤100)(rev seq:Int)(hm:mayE rev seq t=0):CI (Cl.new rev seq t) 0:=by
 have hr:0≤rev∧0≤seq∧rev≤2305843009213693952∧seq≤2305843009213693952:=by
  unfold mayE at hm;cases h1:decide (min rev seq<0)||decide (2305843009213693952<max rev seq) with
  |true=>rw[h1] at hm;simp at hm
  |false=>
   simp only[Asw,decide_eq_false_iff_not] at h1;omega
 exact⟨Bn,Bn,by simp[Cl.new],by simp[Cl.new,Cb],⟨hr.1,by simp only[Cl.new];omega⟩,⟨hr.2.1,by simp only[Cl.new];omega⟩,h,h,λ_=>rfl⟩
def rv0:Rv:=⟨zeroT0,[]⟩
theorem Fd {t T:Tree}{o:List OpT}(hr:rightT t=true)(h:Comes t o T):(AllR t o).2.2=0∧(AllR t o).1=T:=by
 obtain⟨i,hi⟩:=h;unfold AllR;rw[hr];simp only[cond_true];rw[hi];exact⟨rfl,rfl⟩
theorem K1 {t:Tree}{o:List OpT}(hr:rightT t=true)(h:(AllR t o).2.2=0):Comes t o (AllR t o).1:=by
 unfold AllR at h ⊢;rw[hr] at h ⊢;simp only[cond_true] at h ⊢;obtain⟨⟨T,i,e⟩,hA⟩: ∃r,allR t o 0=r:=⟨_,rfl⟩;rw[hA] at h ⊢;simp only at h;subst h;exact⟨i,hA⟩
theorem N3 {l:List Rv}{i:Nat}(h:i<l.length):l[i]?=some (l.getD i ⟨zeroT0,[]⟩):=by
 rw[Asg,Aq3 h];rfl
theorem J4 {l:List Rv}{i:Nat}(h:i<l.length):l.getD i ⟨zeroT0,[]⟩∈l:=Aq7 (N3 h)
theorem Aj8 {l:List Rv}{i:Nat}(h:i+1<l.length):rowsL (l.drop (i+1))=bareL (l.getD (i+1) ⟨zeroT0,[]⟩).made::rowsL (l.drop (i+2)):=by
 have e:l.drop (i+1)=l[i+1]::l.drop (i+2):=Aru h;rw[e,Asg,Aq3 h];rfl
theorem Z6 {l:List Rv}{j:Nat}{o:List OpT}(h:(AllR (l.getD j ⟨zeroT0,[]⟩).tree o).2.2=0):
  bringR l j o=bif !decide ((thrG false (bareL o) [] (rowsL (l.drop (j+1)))).2.2=0) then([],(thrG false (bareL o) [] (rowsL (l.drop (j+1)))).2.2) else((thrG false (bareL o) [] (rowsL (l.drop (j+1)))).1,0):=by
 unfold bringR;rw[decide_eq_true h];rfl
theorem Ahn {l:List Rv}{j:Nat}{o:List OpT}(h:(bringR l j o).2=0)(ha:(AllR (l.getD j ⟨zeroT0,[]⟩).tree o).2.2=0):
  (thrG false (bareL o) [] (rowsL (l.drop (j+1)))).2.2=0∧(bringR l j o).1=(thrG false (bareL o) [] (rowsL (l.drop (j+1)))).1:=by
 rw[Z6 ha] at h ⊢;cases e:decide ((thrG false (bareL o) [] (rowsL (l.drop (j+1)))).2.2=0) with
 |true=>exact⟨of_decide_eq_true e,rfl⟩
 |false=>
  rw[e] at h;exact⟨h,absurd h (of_decide_eq_false e)⟩
end Bow
namespace Bow
open Go
theorem Df {F G:Tree->Tree}{y:Tree}: ∀ {p:List Int} {t:Tree},atT t p=some y->changeT G (changeT F t p) p=changeT (λy=>G (F y)) t p
 | [],t,h=>rfl
 |i::p,t,h=>by
  rw[atT] at h;cases hs:subT t i with
  |none=>rw[hs] at h;cases h
  |some s=>
   rw[hs] at h;obtain⟨h1,h2,_⟩:=A1 hs;have hl:=Ab h2;rw[Bm _ _ _ _ hs,Bm _ _ _ _ hs];have hs1:subT (t.withSubs (t.subs.set i.toNat (changeT F s p))) i=some (changeT F s p):=by
    rw[Bx _ _ _ h1,As5 hl]
   rw[Bm _ _ _ _ hs1,As,Ap,Awh,Df (p:=p) h]
theorem K7 (t:Tree):t.withSubs t.subs=t:=by cases t;rfl
theorem H0 {F:Tree->Tree}{y:Tree}(hF:F y=y): ∀ {p:List Int} {t:Tree},atT t p=some y->changeT F t p=t
 | [],t,h=>by
  rw[atT] at h;injection h with h
  subst h;exact hF
 |i::p,t,h=>by
  rw[atT] at h;cases hs:subT t i with
  |none=>rw[hs] at h;cases h
  |some s=>
   rw[hs] at h;obtain⟨h1,h2,_⟩:=A1 hs;have hl:=Ab h2;rw[Bm _ _ _ _ hs,H0 hF (p:=p) h];have:t.subs.set i.toNat s=t.subs:=by
    have e:t.subs[i.toNat]=s:=by rw[Aq3 hl] at h2;injection h2
    rw[←e];exact Awc hl
   rw[this,K7]
theorem Afk (x:Tree): ∀(l:List Tree) (i:Nat),l[i]?=some x->insL i x (delL i l)=l
 | [],i,h=>by simp at h
 |a::l,0,h=>by
  simp at h;subst h;rfl
 |a::l,i+1,h=>by
  rw[E6,D9,Afk x l i (by simpa using h)]
theorem Aiy {t x:Tree}{fr to:List Int}{at_:Int}(hne:fr≠[])(hx:atT t fr=some x)(hq:fr.dropLast=to)(hat:at_=lastP fr∨at_=lastP fr+1):
  changeT (insT (landT fr.dropLast (lastP fr) to at_).2 x) (withoutT t fr) (landT fr.dropLast (lastP fr) to at_).1=t:=by
 obtain⟨y,y1,y2,y3,y4⟩:=F6 hne hx;rw[Dc hne] at y2 y3 y4;have e:landT fr.dropLast (lastP fr) to at_=(to,lastP fr):=by
  unfold landT;rw[decide_eq_true hq]
  rcases hat with rfl|rfl
  ·have h1:within fr.dropLast to=true:=by unfold within;rw[hq];simp
   rw[decide_eq_false (by omega: ¬lastP fr<lastP fr),h1,hq];simp
  ·rw[decide_eq_true (by omega:lastP fr<lastP fr+1)];simp
 rw[e,←hq];unfold withoutT;rw[Df y1];refine H0 ?_ y1;rw[Ei,Hi,Ap,As,Afk x y.subs (lastP fr).toNat y4,K7]
theorem S4 {F:Tree->Tree}{y:Tree}{i:Int}: ∀ {p:List Int} {t:Tree},atT t p=some y->changeT F t (p++ [i])=changeT (λy=>changeT F y [i]) t p
 | [],t,h=>rfl
 |k::p,t,h=>by
  rw[atT] at h;cases hs:subT t k with
  |none=>rw[hs] at h;cases h
  |some s=>
   rw[hs] at h;rw[Arx,Bm _ _ _ _ hs,Bm _ _ _ _ hs,S4 h]
theorem Ph {F:Tree->Tree}{y:Tree}: ∀ {p:List Int} {t:Tree},atT t p=some y->atT (changeT F t p) p=some (F y)
 | [],t,h=>by
  rw[atT] at h;injection h with h
  subst h;show atT (F t) []=_;rw[atT]
 |k::p,t,h=>by
  rw[atT] at h;cases hs:subT t k with
  |none=>rw[hs] at h;cases h
  |some s=>
   rw[hs] at h;obtain⟨h1,h2,_⟩:=A1 hs;have hl:=Ab h2;rw[Bm _ _ _ _ hs,atT,Bx _ _ _ h1,As5 hl];exact Ph h
theorem G9 {F G:Tree->Tree}: ∀ {p:List Int} {t:Tree},(∀z,atT t p=some z->F z=G z)->changeT F t p=changeT G t p
 | [],t,h=>h t (by rw[atT])
 |k::p,t,h=>by
  rw[changeT,changeT];cases hs:subT t k with
  |none=>rfl
  |some s=>
   simp only;rw[G9 λz hz=>h z (by rw[atT,hs];exact hz)]
theorem Aoq (x y:Tree)(i:Int)(h:0≤i∧i≤y.subs.length):delT i (insT i x y)=y:=by
 have h1:i.toNat≤y.subs.length:=by omega
 unfold delT insT;rw[Ap,As];have e1:(y.subs.take i.toNat++x::y.subs.drop i.toNat).take i.toNat=y.subs.take i.toNat:=by
  rw[As9 (by rw[Ar1];omega),Avk,Nat.min_self]
 have e2:(y.subs.take i.toNat++x::y.subs.drop i.toNat).drop (i.toNat+1)=y.subs.drop i.toNat:=by
  rw[show y.subs.take i.toNat++x::y.subs.drop i.toNat=(y.subs.take i.toNat++ [x])++y.subs.drop i.toNat by simp];rw[Av6 (by rw[Arb,Ar1];simp;omega)]
 rw[e1,e2,Ar4,K7]
theorem Aor (x y:Tree)(i:Int)(h:0≤i∧i≤y.subs.length):subT (insT i x y) i=some x:=by
 unfold insT;rw[Bx _ _ _ h.1,Arh (by rw[Ar1];omega),Ar1,Atv (by omega),Aub];rfl
theorem Ahb (F:Tree->Tree)(x y:Tree)(i:Int)(h:0≤i∧i≤y.subs.length):changeT F (insT i x y) [i]=insT i (F x) y:=by
 rw[Bm _ _ _ _ (Aor x y i h)];unfold insT;rw[Ap,As,changeT];have hl:(y.subs.take i.toNat).length=i.toNat:=by rw[Ar1];omega
 rw[Awd _ _ (by omega),hl,Aub];rfl
theorem Ajv {t:Tree}{a:OpT}(hk:a.kind=1)(hv:ValidE t a=0): ∃y,atT t a.path=some y∧0≤a.at_∧a.at_≤y.subs.length∧applyT t a=changeT (insT a.at_ (freshT a)) t a.path:=by
 obtain⟨_,hf,h⟩:=An hv;unfold validE at h;have e:applyT t a=changeT (insT a.at_ (freshT a)) t a.path:=by
  unfold applyT;rw[decide_eq_true hk];rfl
 have h2:(decide (a.kind=2)||decide (a.kind=3))=false:=by rw[hk];rfl
 rw[h2,Asy,cond_false] at h;cases hy:atT t a.path with
 |none=>rw[hy] at h;cases h
 |some y=>
  rw[hy] at h;simp only[decide_eq_true hk,cond_true] at h;unfold intoE at h;cases hl:y.leaf with
  |true=>rw[hl] at h;cases h
  |false=>
   rw[hl,cond_false] at h
   by_cases hg:(y.subs.length:Int)<a.at_
   ·rw[decide_eq_true hg] at h;cases h
   ·refine⟨y,rfl,?_,by omega,e⟩;unfold formedB at hf;have k1:(a.kind==1)=true:=by rw[hk];rfl
    rw[k1,cond_true] at hf;simp only[Aq6] at hf;have:=hf.2.1;unfold gapOk at this;simp only[Aq6,decide_eq_true_eq] at this;omega
theorem Ac2 {t:Tree}{a b:OpT}(ka:a.kind=1)(kb:b.kind=2)(hp:a.path++ [a.at_]=b.path)(hv:ValidE t a=0):applyT (applyT t a) b=t:=by
 obtain⟨y,h1,h2,h3,e⟩:=Ajv ka hv;rw[e];unfold applyT;have k1:decide (b.kind=1)=false:=by rw[kb];rfl
 rw[k1,decide_eq_true kb,cond_false,cond_true,←hp];unfold withoutT;have e1:(a.path++ [a.at_]).dropLast=a.path:=by simp
 have e2:lastP (a.path++ [a.at_])=a.at_:=by unfold lastP;simp
 rw[e1,e2,Df h1];exact H0 (Aoq _ y _ ⟨h2,h3⟩) h1
theorem Ac3 {t:Tree}{a b:OpT}(ka:a.kind=1)(kb:b.kind=5)(hp:a.path++ [a.at_]=b.path)(hv:ValidE t a=0)(hv2:ValidE (applyT t a) b=0):
  ValidE t {a with label:=b.label}=0∧applyT t {a with label:=b.label}=applyT (applyT t a) b:=by
 obtain⟨y,h1,h2,h3,e⟩:=Ajv ka hv;obtain⟨hr,hf,hw⟩:=An hv;obtain⟨_,hfb,_⟩:=An hv2;constructor
 ·have hf':formedB {a with label:=b.label}=true:=by
   have k1:(a.kind==1)=true:=by rw[ka];rfl
   have k5:(b.kind==5)=true:=by rw[kb];rfl
   have n1:(b.kind==1)=false:=by rw[kb];rfl
   have n2:(b.kind==2)=false:=by rw[kb];rfl
   have n3:(b.kind==3)=false:=by rw[kb];rfl
   have n4:(b.kind==4)=false:=by rw[kb];rfl
   unfold formedB at hf hfb ⊢;rw[k1,cond_true] at hf;rw[n1,n2,n3,n4,k5,cond_false,cond_false,cond_false,cond_false,cond_true] at hfb;simp only[k1,cond_true];simp only[Aq6] at hf hfb ⊢;exact⟨hf.1,hf.2.1,hfb.2⟩
  unfold ValidE;rw[hr,hf'];exact hw
 ·rw[e];unfold applyT;have k1:decide (b.kind=1)=false:=by rw[kb];rfl
  have k2:decide (b.kind=2)=false:=by rw[kb];rfl
  have k3:decide (b.kind=3)=false:=by rw[kb];rfl
  have k4:decide (b.kind=4)=false:=by rw[kb];rfl
  simp only[decide_eq_true ka,cond_true];rw[k1,k2,k3,k4,decide_eq_true kb,cond_false,cond_false,cond_false,cond_false,cond_true,←hp,S4 (Ph h1),Df h1];have: ∀z,atT t a.path=some z->z=y:=λz hz=>by rw[h1] at hz;exact(Option.some.inj hz).symm
  refine G9 λz hz=> ?_;rw[this z hz,Ahb _ _ _ _ ⟨h2,h3⟩];rfl
theorem Q4 {t:Tree}{o:OpT}(hk:4≤o.kind∧o.kind≤6)(hv:ValidE t o=0): ∃y,atT t o.path=some y∧(o.kind=6->y.leaf=true∧(applyE y.text o.pieces).2=0):=by
 obtain⟨_,_,h⟩:=An hv;unfold validE at h;rw[decide_eq_false (show ¬o.kind=2 by omega),decide_eq_false (show ¬o.kind=3 by omega),Auc,Asy,cond_false] at h;cases hy:atT t o.path with
 |none=>rw[hy] at h;cases h
 |some y=>
  rw[hy] at h;refine⟨y,rfl,λh6=> ?_⟩;simp only[decide_eq_false (show ¬o.kind=1 by omega),cond_false,decide_eq_true h6,cond_true] at h;cases hl:y.leaf with
  |false=>rw[hl] at h;cases h
  |true=>rw[hl] at h;exact⟨rfl,h⟩
theorem Q5 {t y:Tree}{o:OpT}(hk:4≤o.kind∧o.kind≤6)(hr:rightT t=true)(hf:formedB o=true)(hy:atT t o.path=some y)(h6:o.kind=6->y.leaf=true∧(applyE y.text o.pieces).2=0):ValidE t o=0:=by
 unfold ValidE;rw[hr,hf,Arm,cond_false,cond_false];unfold validE;rw[decide_eq_false (show ¬o.kind=2 by omega),decide_eq_false (show ¬o.kind=3 by omega),Auc,Asy,cond_false,hy];simp only[decide_eq_false (show ¬o.kind=1 by omega),cond_false]
 by_cases h:o.kind=6
 ·rw[decide_eq_true h,cond_true,(h6 h).1];exact(h6 h).2
 ·rw[decide_eq_false h,cond_false]
theorem Q6 {t:Tree}{o:OpT}(hk:o.kind=5):applyT t o=changeT (relabelT o.label) t o.path:=by
 unfold applyT;rw[decide_eq_false (show ¬o.kind=1 by omega),decide_eq_false (show ¬o.kind=2 by omega),decide_eq_false (show ¬o.kind=3 by omega),decide_eq_false (show ¬o.kind=4 by omega),decide_eq_true hk];rfl
theorem Pi {t:Tree}{o:OpT}(hk:o.kind=4):applyT t o=changeT (setAT o) t o.path:=by
 unfold applyT;rw[decide_eq_false (show ¬o.kind=1 by omega),decide_eq_false (show ¬o.kind=2 by omega),decide_eq_false (show ¬o.kind=3 by omega),decide_eq_true hk];rfl
theorem Gd {t:Tree}{o:OpT}(hk:o.kind=6):applyT t o=changeT (retextT o.pieces) t o.path:=by
 unfold applyT;rw[decide_eq_false (show ¬o.kind=1 by omega),decide_eq_false (show ¬o.kind=2 by omega),decide_eq_false (show ¬o.kind=3 by omega),decide_eq_false (show ¬o.kind=4 by omega),decide_eq_false (show ¬o.kind=5 by omega)];rfl
theorem Amo {t:Tree}{a b:OpT}(ka:a.kind=5)(kb:b.kind=5)(hp:a.path=b.path)(hv:ValidE t a=0)(hv2:ValidE (applyT t a) b=0):ValidE t b=0∧applyT t b=applyT (applyT t a) b:=by
 obtain⟨y,h1,_⟩:=Q4 (by omega) hv;obtain⟨hr,_,_⟩:=An hv;obtain⟨_,hf,_⟩:=An hv2;refine⟨Q5 (by omega) hr hf (hp▸h1) (λh=>by omega),?_⟩;rw[Q6 kb,Q6 kb,Q6 ka,←hp,Df h1];refine G9 λz _=> ?_;cases z;rfl
theorem S5 {o:OpT}(hk:o.kind=4)(hf:formedB o=true):keyOk o.key=true∧(o.gone=true∨o.value.length≤256):=by
 have n1:(o.kind==1)=false:=by rw[hk];rfl
 have n2:(o.kind==2)=false:=by rw[hk];rfl
 have n3:(o.kind==3)=false:=by rw[hk];rfl
 have k4:(o.kind==4)=true:=by rw[hk];rfl
 unfold formedB at hf;rw[n1,n2,n3,k4,cond_false,cond_false,cond_false,cond_true] at hf;simp only[Aq6,At0,decide_eq_true_eq] at hf;exact⟨hf.2.1,hf.2.2.imp id λh=>by omega⟩
theorem Ajw {t:Tree}{a b:OpT}(ka:a.kind=4)(kb:b.kind=4)(hp:a.path=b.path)(hkey:a.key=b.key)(hv:ValidE t a=0)(hv2:ValidE (applyT t a) b=0):ValidE t b=0∧applyT t b=applyT (applyT t a) b:=by
 obtain⟨y,h1,_⟩:=Q4 (by omega) hv;obtain⟨hr,hfa,_⟩:=An hv;obtain⟨_,hf,_⟩:=An hv2;obtain⟨a1,a2⟩:=S5 ka hfa;obtain⟨b1,b2⟩:=S5 kb hf;refine⟨Q5 (by omega) hr hf (hp▸h1) (λh=>by omega),?_⟩;rw[Pi kb,Pi kb,Pi ka,←hp,Df h1];refine G9 λz hz=> ?_;have hz':=Fk (Dg (Ja hr).2 hz);have e:=Vz (a:=a) (b:=b) hz' a1 a2 b2 hkey;cases z;unfold setAT;show Tree.withAttrs _ _=Tree.withAttrs (Tree.withAttrs _ _) (setA b (Tree.withAttrs _ _).attrs);simp only[Tree.withAttrs,Tree.attrs] at e ⊢;rw[e]
theorem Ac4 {r:List PieceT}(h:RN r)(A:List UInt8):editP A r=(rowPut r).1++editP A (rowPut r).2:=by
 cases r with
 |nil=>rfl
 |cons p l=>
  rw[rowPut];cases hb:(decide (0<p.keep)||p.put.isEmpty) with
  |true=>rfl
  |false=>
   simp only[Asw,decide_eq_false_iff_not] at hb;have hk:p.keep.toNat=0:=by omega
   rw[cond_false,editP,editP];simp only[hk,Avm,Ar9,Asc]
theorem Amp {r:List PieceT}(h:RN r)(hc:Clean r)(A:List UInt8):editP A (rowRun r).2=editP A r:=by
 cases r with
 |nil=>rfl
 |cons p l=>
  obtain⟨h1,h2,h3⟩:=h;rw[rowRun];cases hk:decide (0<p.keep) with
  |true=>rfl
  |false=>
   have hk:=of_decide_eq_false hk;cases hd:decide (0<p.drop) with
   |true=>rfl
   |false=>
    have hd:=of_decide_eq_false hd;have e:editP A (p::l)=editP A l:=by
     rw[editP,hc (by omega),show p.keep.toNat=0 by omega,show(p.keep+p.drop).toNat=0 by omega];simp
    rw[cond_false,cond_false,e];cases l with
    |nil=>rfl
    |cons q m=>
     have hq:=h3 q Ari;rw[rowRun,decide_eq_true hq.1];rfl
theorem Q7 {n j:Int}{r:List PieceT}(h:Run n false true r)(hj:0≤j)(hn:j≤n)(A:List UInt8):editP A r=A.take j.toNat++editP (A.drop j.toNat) (rowTake j r):=by
 rcases h with⟨h,_⟩| ⟨_,h0,p,l,rfl,hd,hl,⟨_,rfl⟩| ⟨h,_⟩⟩
 ·cases h
 ·rw[rowTake,decide_eq_true h0,cond_true,editP,editP];have e1:p.keep.toNat=j.toNat+ (p.keep-j).toNat:=by omega
  have e2:(p.keep+p.drop).toNat=j.toNat+ (p.keep-j+p.drop).toNat:=by omega
  rw[e1,e2,List.take_add,Aud];simp only[Arz]
 ·cases h
theorem Q8 {n j:Int}{r:List PieceT}(h:Run n true true r)(hj:0≤j)(hn:j≤n)(A:List UInt8):editP A r=editP (A.drop j.toNat) (rowTake j r):=by
 rcases h with⟨h,_⟩| ⟨_,h0,p,l,rfl,hd,hl,⟨h,_⟩| ⟨_,hk,hp,rfl⟩⟩
 ·cases h
 ·cases h
 ·rw[rowTake,decide_eq_false (by omega: ¬0<p.keep),cond_false,editP,editP,hk,hp];have e2:(0+p.drop).toNat=j.toNat+ (0+ (p.drop-j)).toNat:=by omega
  rw[e2,Aud];simp
theorem J2 {n:Int}{d:Bool}{r:List PieceT}(h:Run n d false r):d=false∧n=0∧r=[]:=by
 rcases h with⟨_,h⟩| ⟨h,_⟩
 ·exact h
 ·cases h
theorem Pj {q:List PieceT}(h:rowHas q=false):Clean q:=by
 cases q with
 |nil=>trivial
 |cons p r=>
  intro hk;unfold rowHas at h;simp only[Aul,At0,decide_eq_true_eq] at h
  rcases h with h|h
  ·omega
  ·exact Auw.1 h
theorem Wf (m:Mk)(u:List UInt8):m.put u=m.piece ⟨0,0,u⟩:=by
 unfold Mk.piece;rw[Ku];rfl
theorem Af5 (m:Mk)(n:Int):m.drop n=m.piece ⟨0,n,[]⟩:=by
 unfold Mk.piece;rw[Ku,Lv]
theorem Aos (m:Mk)(n:Int):m.kept n=m.piece ⟨n,0,[]⟩:=by
 unfold Mk.piece;rw[Lv];rfl
structure CpJ (T R:List UInt8)(s:Cp)(t pre:List UInt8):Prop where
 p:RN s.p
 q:RN s.q
 x:s.x.Ok
 hx: ∀w,editP T (s.x.l++ ⟨s.x.keep,0,[]⟩::w)=pre++editP t w
 hR:R=pre++editP (s.fr++editP t s.p) s.q
 he:extentP s.x.l+s.x.keep+t.length=T.length
 hp:extN s.p≤t.length
 hq:extN s.q≤(s.fr++editP t s.p).length
theorem Amq {T t pre:List UInt8}{m:Mk}(hm:m.Ok)(hx: ∀w,editP T (m.l++ ⟨m.keep,0,[]⟩::w)=pre++editP t w){p:PieceT}(hp:p.Nn)(w:List PieceT):
  editP T ((m.piece p).l++ ⟨(m.piece p).keep,0,[]⟩::w)=pre++t.take p.keep.toNat++p.put++editP (t.drop (p.keep+p.drop).toNat) w:=by
 rw[V6 hm hp,hx,editP];simp only[Arz]
theorem CpJ.step {T R t pre:List UInt8}{s:Cp}(I:CpJ T R s t pre){z:PieceT}{p2 q2:List PieceT}{fr2:List UInt8}(hz:z.Nn)(hl:(z.keep+z.drop).toNat≤t.length)(rp:RN p2)(rq:RN q2)
  (hR:editP (s.fr++editP t s.p) s.q=t.take z.keep.toNat++z.put++editP (fr2++editP (t.drop (z.keep+z.drop).toNat) p2) q2) (ep:extN p2≤(t.drop (z.keep+z.drop).toNat).length) (eq:extN q2≤(fr2++editP (t.drop (z.keep+z.drop).toNat) p2).length):
  CpJ T R ⟨p2,q2,s.x.piece z,fr2⟩ (t.drop (z.keep+z.drop).toNat) (pre++t.take z.keep.toNat++z.put):=by
 refine⟨rp,rq,(Mk.piece_ok I.x hz).1,Amq I.x I.hx hz,?_,?_,ep,eq⟩
 ·rw[I.hR,hR];simp only[Arz]
 ·have:=Zq I.x hz;have:=I.he;have:=hz.k;have:=hz.d;rw[Asf];simp only;omega
theorem Af6 (m:Mk):m.piece ⟨0,0,[]⟩=m:=by rw[←Wf,Lv]
theorem Aa7 {t fr:List UInt8}{s:Cp}{p:List PieceT}(h:RN s.p)(hf:(bif s.fr.isEmpty then rowPut s.p else(s.fr,s.p))=(fr,p)):s.fr++editP t s.p=fr++editP t p∧RN p∧extN p=extN s.p∧(fr=[]->Clean p):=by
 cases hb:s.fr.isEmpty with
 |true=>
  rw[hb,cond_true] at hf;have e:=Ac4 h t;have c:=Mr h;rw[hf] at e c;rw[Auw.1 hb];exact⟨e,c.1,c.2.2,λ_=>c.2.1⟩
 |false=>
  rw[hb,cond_false] at hf;injection hf with h1 h2
  subst h1 h2;exact⟨rfl,h,rfl,λc=>by rw[c] at hb;cases hb⟩
theorem Pk {s q:List PieceT}{n:Int}{d m:Bool}(h:RN s)(hc:Clean s)(hq:rowRun s=((n,d,m),q)):Run n d m q∧extN q=extN s∧ ∀A,editP A s=editP A q:=by
 have e:=Qi h hc;have k:=Amp h hc;rw[hq] at e k;exact⟨e.1,e.2,λA=>(k A).symm⟩
theorem Ap1 {n:Int}{d m:Bool}{r:List PieceT}(h:Run n d m r):RN r:=by
 rcases h with⟨_,_,_,rfl⟩| ⟨_,hn,p,l,rfl,hd,hl,⟨_,rfl⟩| ⟨_,hk,_,_⟩⟩
 ·trivial
 ·exact⟨by omega,hd,hl⟩
 ·exact⟨by omega,hd,hl⟩
theorem Wg {n:Int}{d m:Bool}{r:List PieceT}(h:Run n d m r):0≤n∧(m=true->0<n):=by
 rcases h with⟨h1,_,h2,_⟩| ⟨_,hn,_⟩
 ·exact⟨by omega,λc=>by rw[h1] at c;cases c⟩
 ·exact⟨by omega,λ_=>hn⟩
theorem X2 {T R t pre:List UInt8}{c c':Cp}(e:c'=c)(S:CpJ T R c t pre):CpJ T R c' t pre:=e▸S
theorem Ap2 {T R t pre:List UInt8}{s:Cp}{z:Bool×Cp}(I:CpJ T R s t pre)(h:CpTo s z): ∃t' pre',CpJ T R z.2 t' pre'∧(z.1=false->z.2.p=[]∧z.2.q=[]∧z.2.fr=[]):=by
 cases h with
 |put h=>
  have e:=Ac4 I.q (s.fr++editP t s.p);have c:=Mr I.q;have hq:=I.hq;generalize rowPut s.q=r at e c ⊢;obtain⟨u,q⟩:=r;have S:=I.step (z:=⟨0,0,u⟩) (p2:=s.p) (q2:=q) (fr2:=s.fr) ⟨Arr 0,Arr 0⟩ (Aq4 _) I.p c.1 (by simpa using e) (by simpa using I.hp) (by
   have:=c.2.2;simp only at this;rw[this];simpa using hq)
  rw[←Wf] at S;exact⟨_,_,S,λc=>by cases c⟩
 |old fr p q n gone more k h hf hq hne hk=>
  obtain⟨e1,r1,x1,_⟩:=Aa7 (t:=t) I.p hf;obtain⟨r2,x2,e2⟩:=Pk I.q (Pj h) hq;obtain⟨n0,n1⟩:=Wg r2;have hql:=I.hq;have hpl:=I.hp;rw[e1,←x2] at hql;rw[←x1] at hpl;have hfl:0<fr.length:=Arw.2 hne;cases more with
  |false=>
   obtain⟨rfl,rfl,rfl⟩:=J2 r2;rw[cond_false,Int.min_self] at hk;subst hk;have S:=I.step (z:=⟨0,0,fr⟩) (p2:=p) (q2:=[]) (fr2:=[]) ⟨Arr 0,Arr 0⟩ (Aq4 _) r1 trivial (by rw[e2,e1];simp[editP]) (by simpa using hpl) (Aq4 _);rw[←Wf] at S;have t1:fr.take (fr.length:Int).toNat=fr:=by simp
   have t2:fr.drop (fr.length:Int).toNat=[]:=by simp
   exact⟨_,_,X2 (by simp only[cond_false,t1,t2,rowTake]) S,λc=>by cases c⟩
  |true=>
   rw[cond_true] at hk;have n1:=n1 rfl;have k0:0≤k:=by omega
   have kn:k≤n:=by omega
   have kf:k≤fr.length:=by omega
   have hmin:min k n=k:=by omega
   obtain⟨rt,xt,_,_⟩:=r2.rn k0 λ_=>kn;rw[cond_true] at xt;have ed:(fr++editP t p).drop k.toNat=fr.drop k.toNat++editP t p:=Atm (by omega);have et:(fr++editP t p).take k.toNat=fr.take k.toNat:=As9 (by omega);have hlen:extN (rowTake k q)≤(fr.drop k.toNat++editP t p).length:=by
    rw[xt,←ed,Asf];omega
   cases gone with
   |true=>
    have S:=I.step (z:=⟨0,0,[]⟩) (p2:=p) (q2:=rowTake k q) (fr2:=fr.drop k.toNat) ⟨Arr 0,Arr 0⟩ (Aq4 _) r1 rt (by rw[e2,e1,Q8 r2 k0 kn,ed];simp) (by simpa using hpl) (by simpa using hlen);rw[Af6] at S;exact⟨_,_,X2 (by simp only[cond_true,hmin]) S,λc=>by cases c⟩
   |false=>
    have S:=I.step (z:=⟨0,0,fr.take k.toNat⟩) (p2:=p) (q2:=rowTake k q) (fr2:=fr.drop k.toNat) ⟨Arr 0,Arr 0⟩ (Aq4 _) r1 rt (by rw[e2,e1,Q7 r2 k0 kn,ed,et];simp) (by simpa using hpl) (by simpa using hlen);rw[←Wf] at S;exact⟨_,_,X2 (by simp only[cond_false,hmin]) S,λc=>by cases c⟩
 |drop p q n gone more m any p' h hf hq hp=>
  obtain⟨e1,r1,x1,c1⟩:=Aa7 (t:=t) I.p hf;obtain⟨r2,x2,e2⟩:=Pk I.q (Pj h) hq;obtain⟨r3,x3,e3⟩:=Pk r1 (c1 rfl) hp;obtain⟨m0,_⟩:=Wg r3;have hql:=I.hq;have hpl:=I.hp;rw[e1,←x2] at hql;rw[←x1,←x3] at hpl;cases any with
  |false=>cases(J2 r3).1
  |true=>
   obtain⟨rt,xt,xm,_⟩:=r3.rn m0 λ_=>Arr m;have xm:=xm rfl;rw[cond_true] at xt;have eA:editP t p=editP (t.drop m.toNat) (rowTake m p'):=by rw[e3,Q8 r3 m0 (Arr m)]
   have S:=I.step (z:=⟨0,m,[]⟩) (p2:=rowTake m p') (q2:=q) (fr2:=[]) ⟨Arr 0,m0⟩ (by show(0+m).toNat≤_;rw[Auu];omega) rt (Ap1 r2) (by rw[e2,e1,eA];simp) (by
    show _≤(t.drop (0+m).toNat).length;rw[Auu,Asf,xt];omega) (by
    show _≤([]++editP (t.drop (0+m).toNat) _).length;rw[Auu,←eA];exact hql)
   rw[←Af5] at S;exact⟨_,_,S,λc=>by cases c⟩
 |fin p q n gone m p' h hf hq hp=>
  obtain⟨e1,r1,x1,c1⟩:=Aa7 (t:=t) I.p hf;obtain⟨r2,x2,e2⟩:=Pk I.q (Pj h) hq;obtain⟨r3,x3,e3⟩:=Pk r1 (c1 rfl) hp;obtain⟨_,_,rfl⟩:=J2 r2;obtain⟨_,_,rfl⟩:=J2 r3;have S:=I.step (z:=⟨0,0,[]⟩) (p2:=[]) (q2:=[]) (fr2:=[]) ⟨Arr 0,Arr 0⟩ (Aq4 _) trivial trivial (by rw[e2,e1,e3];simp[editP]) (Aq4 _) (Aq4 _);rw[Af6] at S;exact⟨_,_,S,λ_=>⟨rfl,rfl,rfl⟩⟩
 |both p q n gone more m any p' k h hf hq hp hne hk=>
  obtain⟨e1,r1,x1,c1⟩:=Aa7 (t:=t) I.p hf;obtain⟨r2,x2,e2⟩:=Pk I.q (Pj h) hq;obtain⟨r3,x3,e3⟩:=Pk r1 (c1 rfl) hp;obtain⟨m0,m1⟩:=Wg r3;obtain⟨n0,n1⟩:=Wg r2;have hql:=I.hq;have hpl:=I.hp;rw[e1,←x2] at hql;rw[←x1,←x3] at hpl;have k0:0≤k:=by
   rw[hk];cases more<;>cases any<;>simp only[Arm,Ash,cond_true,cond_false]<;>omega
  have hb:(any=true->k≤m)∧(more=true->k≤n)∧(any=false->p'=[]∧m=0)∧(more=false->q=[]∧n=0∧gone=false)∧(any=true∨more=true):=by
   rw[hk];refine⟨λc=> ?_,λc=> ?_,λc=> ?_,λc=> ?_,?_⟩
   ·subst c;cases more<;>simp only[Arm,Ash,cond_true,cond_false]<;>omega
   ·subst c;cases any<;>simp only[Arm,cond_true,cond_false]<;>omega
   ·subst c;obtain⟨_,h1,h2⟩:=J2 r3;exact⟨h2,h1⟩
   ·subst c;obtain⟨h0,h1,h2⟩:=J2 r2;exact⟨h2,h1,h0⟩
   ·cases any
    ·cases more
     ·cases hne
     ·exact .inr rfl
    ·exact .inl rfl
  obtain⟨b1,b2,b3,b4,b5⟩:=hb;rw[e3] at hql;have kt:k.toNat≤t.length:=by
   cases any with
   |true=>
    have:=(r3.rn k0 λ_=>b1 rfl).2.2.1 rfl;have:=b1 rfl;omega
   |false=>
    obtain⟨rfl,_⟩:=b3 rfl;have hm:=b5.resolve_left λc=>by cases c
    subst hm;have:=(r2.rn k0 λ_=>b2 rfl).2.2.1 rfl;have:=b2 rfl;simp only[Ar9,editP] at hql;omega
  have hP:editP t p'=t.take k.toNat++editP (t.drop k.toNat) (rowTake (min k m) p')∧RN (rowTake (min k m) p')∧extN (rowTake (min k m) p')≤(t.drop k.toNat).length:=by
   rw[Asf];cases any with
   |true=>
    have hm:=b1 rfl;obtain⟨h1,h2,h3,_⟩:=r3.rn k0 λ_=>hm;rw[show min k m=k by omega];rw[cond_true] at h2;exact⟨Q7 r3 k0 hm t,h1,by omega⟩
   |false=>
    obtain⟨rfl,rfl⟩:=b3 rfl;rw[rowTake];exact⟨by rw[editP,editP,Ar4],trivial,Aq4 _⟩
  obtain⟨p1,p2,p3⟩:=hP;generalize rowTake (min k m) p'=P2 at p1 p2 p3 ⊢;have ed:([]++editP t p').drop k.toNat=editP (t.drop k.toNat) P2:=by
   rw[Ar9,p1,Av6 (by rw[Ar1];omega)]
  have et:([]++editP t p').take k.toNat=t.take k.toNat:=by
   rw[Ar9,p1,List.take_left' (by rw[Ar1];omega)]
  have hQ:editP ([]++editP t p') q=(bif gone then [] else t.take k.toNat)++editP (editP (t.drop k.toNat) P2) (rowTake (min k n) q)∧RN (rowTake (min k n) q)∧extN (rowTake (min k n) q)≤(editP (t.drop k.toNat) P2).length:=by
   rw[←ed,←et,Asf];cases more with
   |true=>
    have hn:=b2 rfl;obtain⟨h1,h2,h3,_⟩:=r2.rn k0 λ_=>hn;rw[show min k n=k by omega];rw[cond_true] at h2;refine⟨?_,h1,by omega⟩;cases gone with
    |true=>exact Q8 r2 k0 hn _
    |false=>exact Q7 r2 k0 hn _
   |false=>
    obtain⟨rfl,rfl,rfl⟩:=b4 rfl;rw[rowTake];exact⟨by rw[cond_false,editP,editP,Ar4],trivial,Aq4 _⟩
  obtain⟨q1,q2,q3⟩:=hQ;generalize rowTake (min k n) q=Q2 at q1 q2 q3 ⊢;cases gone with
  |true=>
   have S:=I.step (z:=⟨0,k,[]⟩) (p2:=P2) (q2:=Q2) (fr2:=[]) ⟨Arr 0,k0⟩ (by show(0+k).toNat≤_;rw[Auu];exact kt) p2 q2 (by
    rw[e2,e1,e3,q1];simp) (by show _≤(t.drop (0+k).toNat).length;rw[Auu];exact p3) (by show _≤([]++editP (t.drop (0+k).toNat) _).length;rw[Auu];exact q3)
   rw[←Af5] at S;exact⟨_,_,S,λc=>by cases c⟩
  |false=>
   have S:=I.step (z:=⟨k,0,[]⟩) (p2:=P2) (q2:=Q2) (fr2:=[]) ⟨k0,Arr 0⟩ (by show(k+0).toNat≤_;rw[At1];exact kt) p2 q2 (by
    rw[e2,e1,e3,q1];simp) (by show _≤(t.drop (k+0).toNat).length;rw[At1];exact p3) (by show _≤([]++editP (t.drop (k+0).toNat) _).length;rw[At1];exact q3)
   rw[←Aos] at S;exact⟨_,_,S,λc=>by cases c⟩
theorem Ajx {T R:List UInt8}: ∀(f:Nat) (s:Cp) (t pre:List UInt8),s.Ok->CpJ T R s t pre->(cpM s).toNat<f-> ∃t' pre',CpJ T R (cpGo f s) t' pre'∧(cpGo f s).p=[]∧(cpGo f s).q=[]∧(cpGo f s).fr=[]
 |0,s,t,pre,_,_,hf=>by omega
 |f+1,s,t,pre,ho,I,hf=>by
  have hc:=cpTo s;obtain⟨⟨b,s'⟩,hz⟩: ∃z,cpStep s=z:=⟨_,rfl⟩;rw[hz] at hc;obtain⟨t',pre',I',hend⟩:=Ap2 I hc;obtain⟨ho',hm,_,h0⟩:=R4 ho hc;rw[Mx hz];cases b with
  |true=>
   obtain⟨⟨b2,s2⟩,hz2⟩: ∃z,cpStep s'=z:=⟨_,rfl⟩;have hc2:=cpTo s';rw[hz2] at hc2;have h1:=(R4 ho' hc2).2.2.2;have:=hm rfl;exact Ajx f s' t' pre' ho' I' (by omega)
  |false=>exact⟨t',pre',I',hend rfl⟩
theorem Ac5 {t:List UInt8}{a b l:List PieceT}(h:composeP a b=(l,0))(ha:(applyE t a).2=0)(hb:(applyE (applyE t a).1 b).2=0):applyE t l=((applyE (applyE t a).1 b).1,0):=by
 obtain⟨ra,xa,ea⟩:=Iw ha;rw[ea] at hb ⊢;obtain⟨rb,xb,eb⟩:=Iw hb;rw[eb];have hr:=La h;have na:=(Xv ra).1;have nb:=(Xv rb).1;have I:CpJ t (editP (editP t a) b) ⟨normP a,normP b,Mk.nil,[]⟩ t []:=by
  refine⟨Hl ra,Hl rb,Mk.nil_ok,λw=>Ky w t,?_,?_,?_,?_⟩
  ·rw[Ar9,Ar9,Iv (Ch ra).1,Iv (Ch rb).1]
  ·show(0:Int)+0+_=_;omega
  ·have:=Mh na;have:=J0 (Ch ra).1;simp only;omega
  ·have:=Mh nb;have:=J0 (Ch rb).1;simp only[Ar9,Iv (Ch ra).1];simp only at xb;omega
 obtain⟨t',pre',I',e1,e2,e3⟩:=Ajx ((cpM ⟨normP a,normP b,Mk.nil,[]⟩).toNat+1) _ t [] (Ue ra rb).1 I (by omega);have hl:l=(cpGo ((cpM ⟨normP a,normP b,Mk.nil,[]⟩).toNat+1) ⟨normP a,normP b,Mk.nil,[]⟩).x.l:=by
  unfold composeP at h;rw[ra,rb] at h;simp only[Arm,Auc,cond_false] at h;cases hx: !rightP (cpGo ((cpM ⟨normP a,normP b,Mk.nil,[]⟩).toNat+1) ⟨normP a,normP b,Mk.nil,[]⟩).x.l with
  |true=>rw[hx] at h;simp at h
  |false=>
   rw[hx] at h;injection h with h _
   exact h.symm
 generalize cpGo ((cpM ⟨normP a,normP b,Mk.nil,[]⟩).toNat+1) ⟨normP a,normP b,Mk.nil,[]⟩=s' at I' e1 e2 e3 hl;subst hl;have hk:=I'.x.k;have he:=I'.he;have hR:=I'.hR;have hx:=I'.hx [];rw[e1,e2,e3,Ar9,editP,editP] at hR;rw[V4,editP] at hx;unfold applyE;rw[hr,decide_eq_false (by omega)];simp only[Arm,cond_false];rw[hx,hR]
theorem Aeu (l:List PieceT)(y:Tree):(retextT l y).text=(applyE y.text l).1:=by cases y;rfl
theorem Wh {l m n:List PieceT}{y:Tree}(h:(applyE (applyE y.text l).1 m).1=(applyE y.text n).1):retextT m (retextT l y)=retextT n y:=by
 cases y;unfold retextT;simp only[Tree.text] at h;simp only[h]
theorem S6 {l:List PieceT}{y:Tree}(h:(applyE y.text l).1=y.text):retextT l y=y:=by
 cases y;unfold retextT;simp only[Tree.text] at h;simp only[h]
theorem S7 {o:OpT}(hk:o.kind=6):formedB o=(mayP o.path&&rightP o.pieces):=by
 have n1:(o.kind==1)=false:=by rw[hk];rfl
 have n2:(o.kind==2)=false:=by rw[hk];rfl
 have n3:(o.kind==3)=false:=by rw[hk];rfl
 have n4:(o.kind==4)=false:=by rw[hk];rfl
 have n5:(o.kind==5)=false:=by rw[hk];rfl
 have k6:(o.kind==6)=true:=by rw[hk];rfl
 unfold formedB;rw[n1,n2,n3,n4,n5,k6];rfl
theorem Ahc (t:List UInt8):applyE t []=(t,0):=by
 have h1:rightP []=true:=by decide
 have h2:extentP []=0:=rfl;unfold applyE;rw[h1,h2,decide_eq_false (by omega)];rfl
theorem Ajy {t:Tree}{a b:OpT}{l:List PieceT}(ka:a.kind=6)(kb:b.kind=6)(hp:a.path=b.path)(hl:composeP a.pieces b.pieces=(l,0))(hv:ValidE t a=0)(hv2:ValidE (applyT t a) b=0):
  ValidE t {b with pieces:=l}=0∧applyT t {b with pieces:=l}=applyT (applyT t a) b∧(l=[]->applyT (applyT t a) b=t):=by
 obtain⟨y,h1,h2⟩:=Q4 (by omega) hv;obtain⟨hr,_,_⟩:=An hv;obtain⟨_,hf,_⟩:=An hv2;obtain⟨lf,e1⟩:=h2 ka;obtain⟨y2,h3,h4⟩:=Q4 (by omega) hv2;rw[Gd ka,←hp,Ph h1] at h3;injection h3 with h3
 subst h3;obtain⟨_,e2⟩:=h4 kb;rw[Aeu] at e2;have hc:=Ac5 hl e1 e2;have kb':({b with pieces:=l}:OpT).kind=6:=kb;refine⟨Q5 (by simp only;omega) hr ?_ (hp▸h1) λ_=>⟨lf,by simp only;rw[hc]⟩,?_,λh0=> ?_⟩
 ·rw[S7 kb] at hf;rw[S7 kb'];simp only[Aq6] at hf ⊢;exact⟨hf.1,La hl⟩
 ·rw[Gd kb',Gd kb,Gd ka,←hp,Df h1];refine G9 λz hz=> ?_;rw[h1] at hz;injection hz with hz
  subst hz;exact(Wh (by rw[hc])).symm
 ·rw[Gd kb,Gd ka,←hp,Df h1];refine H0 ?_ h1;rw[Wh (n:=l) (by rw[hc])];refine S6 ?_;rw[h0,Ahc]
theorem Ahd {t:Tree}{o:OpT}(hi:idleO o=true)(hv:ValidE t o=0):applyT t o=t:=by
 unfold idleO at hi;simp only[Aq6] at hi;obtain⟨hf,hi⟩:=hi
 by_cases k6:o.kind=6
 ·rw[decide_eq_true k6,cond_true] at hi;obtain⟨y,h1,h2⟩:=Q4 (by omega) hv;obtain⟨_,e1⟩:=h2 k6;rw[Gd k6];refine H0 (S6 ?_) h1;obtain⟨r1,_,r3⟩:=Iw e1;have hn:normP o.pieces=[]:=by
   have:=of_decide_eq_true hi;unfold normR at this;rw[r1,cond_true] at this;exact Ard.1 this
  rw[r3,←Iv (Ch r1).1,hn];rfl
 ·rw[decide_eq_false k6,cond_false] at hi
  by_cases k3:o.kind=3
  ·rw[decide_eq_true k3,cond_true] at hi;simp only[Aq6,At0,decide_eq_true_eq,Atn] at hi;obtain⟨i1,i2,i3⟩:=hi;have hne:o.path≠[]:=λc=>by rw[c] at i1;cases i1
   have hw:=(An hv).2.2;unfold validE at hw;rw[decide_eq_false hne,Atu,cond_false] at hw;unfold applyT;rw[decide_eq_false (show ¬o.kind=1 by omega),decide_eq_false (show ¬o.kind=2 by omega),decide_eq_true k3,cond_false,cond_false,cond_true];cases hx:atT t o.path with
   |none=>rfl
   |some x=>
    exact Aiy hne hx i2 i3
  ·rw[decide_eq_false k3,cond_false] at hi;cases hi
theorem Ajz {t T:Tree}{a b:OpT}(h:Comes t [a,b] T):ValidE t a=0∧ValidE (applyT t a) b=0∧T=applyT (applyT t a) b:=by
 obtain⟨h1,h2⟩:=Cn.1 h;obtain⟨h3,h4⟩:=Qz h2;exact⟨h1,h3,h4⟩
theorem Ac6 {t T:Tree}{o:OpT}(hv:ValidE t o=0)(h:T=applyT t o):Comes t [o] T:=Cn.2 ⟨hv,by rw[h];exact B0 _⟩
theorem Jh {t T:Tree}{o:OpT}(h:ValidE t o=0∧applyT t o=T):Comes t [bareO o] T:=Ac6 (by rw[Vk];exact h.1) (by rw[Vl h.1];exact h.2.symm)
theorem Ahe {t T:Tree}{a b:OpT}{r:Option OpT}(hp:pairO a b=some r)(h:Comes t [a,b] T):(r=none->T=t)∧ ∀z,r=some z->Comes t [z] T:=by
 obtain⟨hv,hv2,rfl⟩:=Ajz h;unfold pairO at hp;cases h1: !busyO a|| !busyO b with
 |true=>rw[h1] at hp;cases hp
 |false=>
 rw[h1,cond_false] at hp;cases h2:decide (a.kind=1)&&decide (a.path++ [a.at_]=b.path)&&decide (b.kind=2) with
 |true=>
  rw[h2,cond_true] at hp;injection hp with hp
  subst hp;simp only[Aq6,decide_eq_true_eq] at h2;exact⟨λ_=>Ac2 h2.1.1 h2.2 h2.1.2 hv,λz c=>by cases c⟩
 |false=>
 rw[h2,cond_false] at hp;cases h3:decide (a.kind=1)&&decide (a.path++ [a.at_]=b.path)&&decide (b.kind=5) with
 |true=>
  rw[h3,cond_true] at hp;injection hp with hp
  subst hp;simp only[Aq6,decide_eq_true_eq] at h3;refine⟨(λc=>by cases c),λz c=> ?_⟩;injection c with c
  subst c;exact Jh (Ac3 h3.1.1 h3.2 h3.1.2 hv hv2)
 |false=>
 rw[h3,cond_false] at hp;cases h4: !decide (a.kind=b.kind)|| !decide (a.path=b.path) with
 |true=>rw[h4] at hp;cases hp
 |false=>
 rw[h4,cond_false] at hp;simp only[Asw,Aul,decide_eq_true_eq] at h4;obtain⟨hk,hpath⟩:=h4;cases h5:decide (a.kind=5) with
 |true=>
  rw[h5,cond_true] at hp;injection hp with hp
  subst hp;have k5:=of_decide_eq_true h5;refine⟨(λc=>by cases c),λz c=> ?_⟩;injection c with c
  subst c;exact Jh (Amo k5 (hk▸k5) hpath hv hv2)
 |false=>
 rw[h5,cond_false] at hp;cases h6:decide (a.kind=4) with
 |true=>
  rw[h6,cond_true] at hp;have k4:=of_decide_eq_true h6;cases h7:decide (a.key=b.key) with
  |false=>rw[h7] at hp;cases hp
  |true=>
   rw[h7,cond_true] at hp;injection hp with hp
   subst hp;refine⟨(λc=>by cases c),λz c=> ?_⟩;injection c with c
   subst c;exact Jh (Ajw k4 (hk▸k4) hpath (of_decide_eq_true h7) hv hv2)
 |false=>
 rw[h6,cond_false] at hp;cases h7:decide (a.kind=6) with
 |false=>rw[h7] at hp;cases hp
 |true=>
 rw[h7,cond_true] at hp;have k6:=of_decide_eq_true h7;obtain⟨⟨l,e⟩,hc⟩: ∃z,composeP a.pieces b.pieces=z:=⟨_,rfl⟩;rw[hc] at hp;simp only at hp;cases h8: !decide (e=0) with
 |true=>rw[h8] at hp;cases hp
 |false=>
 rw[h8,cond_false] at hp;have he:e=0:=by simpa using h8
 subst he;obtain⟨p1,p2,p3⟩:=Ajy k6 (hk▸k6) hpath hc hv hv2;cases h9:decide (l.length=0) with
 |true=>
  rw[h9,cond_true] at hp;injection hp with hp
  subst hp;exact⟨λ_=>p3 (Ard.1 (of_decide_eq_true h9)),λz c=>by cases c⟩
 |false=>
  rw[h9,cond_false] at hp;injection hp with hp
  subst hp;refine⟨(λc=>by cases c),λz c=> ?_⟩;injection c with c
  subst c;exact Jh ⟨p1,p2⟩
theorem Ahf {t T:Tree}: ∀(n:Nat) (s:List OpT) (x:OpT),s.length≤n->Comes t (s.reverse++ [x]) T->Comes t (pushO s x).reverse T:=by
 intro n
 induction n with
 |zero=>
  intro s x hn h;have:s=[]:=Ard.1 (by omega);subst this;exact h
 |succ n ih=>
  intro s x hn h;cases s with
  |nil=>exact h
  |cons a rest=>
   rw[Kz];rw[Aur,Arz] at h;cases hp:pairO a x with
   |none=>
    show Comes t (x::a::rest).reverse T;rw[Aur,Aur,Arz];exact h
   |some r=>
    obtain⟨X,h1,h2⟩:=Ef.1 h;obtain⟨k1,k2⟩:=Ahe hp h2;cases r with
    |some z=>exact ih rest z (by simp at hn;omega) (Ef.2 ⟨X,h1,k2 z rfl⟩)
    |none=>
     have e:=k1 rfl;subst e;cases rest with
     |nil=>exact h1
     |cons y rest=>
      rw[Aur] at h1;exact ih rest y (by simp at hn;omega) h1
theorem Ahg {t T:Tree}: ∀(l s:List OpT),Comes t (s.reverse++l) T->Comes t (listR l s).reverse T:=by
 intro l
 induction l with
 |nil=>intro s h;rw[Asc] at h;exact h
 |cons o l ih=>
  intro s h;rw[listR];obtain⟨X,h1,h2⟩:=Ef.1 h;obtain⟨hv,h3⟩:=Cn.1 h2;cases hi:idleO o with
  |true=>
   rw[Ahd hi hv] at h3;exact ih s (Ef.2 ⟨X,h1,h3⟩)
  |false=>
   exact ih _ (Ef.2 ⟨applyT X o,Ahf _ s _ (Ara _) (Ef.2 ⟨X,h1,Jh ⟨hv,rfl⟩⟩),h3⟩)
theorem Aev {t T:Tree}{l:List OpT}(h:Comes t l T):Comes t (listS l) T:=Ahg l [] h
end Bow
namespace Bow
open Go Go.Proofs
structure Cl.Good (c:Cl):Prop where
 base:rightT c.base=true
 pend: ∃M,Comes c.base c.flight M∧Comes M c.buffer c.tree
theorem Cl.Good.tree {c:Cl}(h:c.Good):rightT c.tree=true:=by
 obtain⟨M,h1,h2⟩:=h.pend;exact Gs (Gs h.base h1) h2
theorem Good.new {t:Tree}(h:rightT t=true)(rev seq:Int):(Cl.new rev seq t).Good:=⟨h,t,B0 t,B0 t⟩
theorem Good.edit {c:Cl}(h:c.Good)(l:List OpT):(c.edit l).1.Good:=by
 have ht:=h.tree;obtain⟨h1,M,h2,h3⟩:=h;unfold Cl.edit;cases !decide (firstBad l=0) with
 |true=>exact⟨h1,M,h2,h3⟩
 |false=>
 cases decide (512< (c.buffer.length:Int)+l.length) with
 |true=>exact⟨h1,M,h2,h3⟩
 |false=>
 cases hA:decide ((AllR c.tree l).2.2=0) with
 |false=>exact⟨h1,M,h2,h3⟩
 |true=>
  have:=K1 ht (of_decide_eq_true hA);exact⟨h1,M,h2,Ef.2 ⟨c.tree,h3,Bs this⟩⟩
theorem Good.submit {c:Cl}(h:c.Good)(hf:c.sent=false->c.flight=[]):c.submit.1.Good:=by
 obtain⟨h1,M,h2,h3⟩:=h;unfold Cl.submit;cases hs:c.sent with
 |true=>exact⟨h1,M,h2,h3⟩
 |false=>
 have hf:=hf hs;rw[hf] at h2;have e:=Ev h2;subst e;have hb:=Aev h3;generalize listS c.buffer=b at hb;cases decide (b.length=0) with
 |true=>exact⟨h1,c.base,by simp only[cond_true,cond_false,hf];exact B0 _,hb⟩
 |false=>
  simp only[cond_false];generalize subK b b.length 1=K;rw[←Ar4 K b] at hb;obtain⟨X,k1,k2⟩:=Ef.1 hb;exact⟨h1,X,k1,Bs k2⟩
theorem Good.hear {c:Cl}(h:c.Good)(rev:Int)(l:List OpT):(c.hear rev l).1.Good:=by
 have hg:=h;have ht:=h.tree;obtain⟨h1,M,h2,h3⟩:=h;unfold Cl.hear;cases hr: !decide (rev=c.seen+1) with
 |true=>exact hg
 |false=>
 cases hA: !decide ((AllR c.base l).2.2=0) with
 |true=>exact hg
 |false=>
 cases hB: !decide ((listsX true l c.flight).2.2=0) with
 |true=>exact hg
 |false=>
 cases hC: !decide ((listsX true (listsX true l c.flight).1 c.buffer).2.2=0) with
 |true=>exact hg
 |false=>
  simp only[cond_false];have hA:(AllR c.base l).2.2=0:=by simpa using hA
  have hB:(listsX true l c.flight).2.2=0:=by simpa using hB
  have hC:(listsX true (listsX true l c.flight).1 c.buffer).2.2=0:=by simpa using hC
  have kl:=K1 h1 hA;obtain⟨n,hn⟩:=B4 true l c.flight;have m1:=D7 true n l c.flight _ c.base _ M hn kl h2;have e1:(bringX true l c.flight).2.2=0:=hB
  rcases m1 with m1| ⟨_,Y,c1,c2⟩
  ·omega
  have c1:Comes M (listsX true l c.flight).1 Y:=Bs c1;have c2:Comes (AllR c.base l).1 (listsX true l c.flight).2.1 Y:=Bs c2;generalize listsX true l c.flight=r at c1 c2 hC ⊢;obtain⟨n2,hn2⟩:=B4 true r.1 c.buffer;have m2:=D7 true n2 r.1 c.buffer _ M _ c.tree hn2 c1 h3;have e2:(bringX true r.1 c.buffer).2.2=0:=hC
  rcases m2 with m2| ⟨_,Z,d1,d2⟩
  ·omega
  have d1:Comes c.tree (listsX true r.1 c.buffer).1 Z:=Bs d1;have d2:Comes Y (listsX true r.1 c.buffer).2.1 Z:=Bs d2;refine⟨Gs h1 kl,Y,c2,?_⟩;simp only;rw[(Fd ht d1).2];exact d2
theorem Good.accepted {c:Cl}(h:c.Good)(rev:Int):(c.accepted rev).1.Good:=by
 have hg:=h;obtain⟨h1,M,h2,h3⟩:=h;unfold Cl.accepted;cases !c.sent|| !decide (rev=c.seen+1) with
 |true=>exact hg
 |false=>
 obtain⟨e1,e2⟩:=Fd h1 h2;rw[e1,e2];exact⟨Gs h1 h2,M,B0 M,h3⟩
theorem Good.drop {c:Cl}(h:c.Good):c.dropped.Good:=⟨h.base,c.base,B0 _,B0 _⟩
end Bow
namespace Bow
open Go
def Thr (bs:List OpT)(rows:List (List OpT))(x:List OpT):Prop:=(thrG false bs [] rows).2.2=0∧(thrG false bs [] rows).1=x
theorem X3 (bs:List OpT):Thr bs [] bs:=⟨rfl,rfl⟩
theorem J3 {bs x r:List OpT}{rows:List (List OpT)}:Thr bs (r::rows) x↔ (listsX false bs r).2.2=0∧Thr (listsX false bs r).1 rows x:=by
 unfold Thr;rw[thrG];have o:=Af4 (prior:=false) rows (listsX false bs r).1 ([]++ [(listsX false bs r).2.1]) []
 by_cases h:(listsX false bs r).2.2=0
 ·rw[decide_eq_true h];simp only[Arm,cond_false];rw[o.1,o.2];exact⟨λk=>⟨h,k⟩,λk=>k.2⟩
 ·rw[decide_eq_false h];simp only[Ash,cond_true];exact⟨λk=>absurd k.1 h,λk=>absurd k.1 h⟩
theorem X4 {x:List OpT}{more:List (List OpT)}: ∀ {rows:List (List OpT)} {bs:List OpT},Thr bs (rows++more) x↔ ∃y,Thr bs rows y∧Thr y more x
 | [],bs=>⟨λh=>⟨bs,X3 bs,h⟩,λ⟨y,h1,h2⟩=>by
   have:bs=y:=h1.2;rw[this];exact h2⟩
 |r::rows,bs=>by
  rw[Arx,J3,X4];constructor
  ·rintro⟨h,y,h1,h2⟩;exact⟨y,J3.2 ⟨h,h1⟩,h2⟩
  ·rintro⟨y,h1,h2⟩;obtain⟨h,h1⟩:=J3.1 h1;exact⟨h,y,h1,h2⟩
theorem Amr {l f:List OpT}(hl:l.length+f.length≤4096)(h:(listsX true l f).2.2=0):(listsX false f l).2.2=0∧(listsX false f l).1=(listsX true l f).2.1:=by
 obtain⟨h1,h2⟩:=Aeo (prior:=true) hl;rw[decide_eq_true h] at h1;exact⟨of_decide_eq_true h1,h2 h⟩
end Bow
namespace Bow
open Go Go.Proofs
theorem Lq (l:List OpT):bareL (bareL l)=bareL l:=(Vs l).symm
theorem Ao7 {bs x y:List OpT}{rows:List (List OpT)}(h:Thr bs rows x)(k:Thr bs rows y):x=y:=h.2.symm.trans k.2
def rowsOf (l:List Rv)(i j:Nat):List (List OpT):=rowsL ((l.take j).drop i)
theorem Wq (l:List Rv)(i:Nat):rowsOf l i i=[]:=by
 unfold rowsOf;rw[Aro (by rw[Ar1];omega)];rfl
theorem Ako (a b:List Rv):rowsL (a++b)=rowsL a++rowsL b:=by
 unfold rowsL;rw[Asr]
theorem Po {l:List Rv}{i j n:Nat}(h1:i≤j)(h2:j≤n)(h3:j≤l.length):rowsOf l i n=rowsOf l i j++rowsOf l j n:=by
 unfold rowsOf;have e:l.take n=l.take j++ (l.take n).drop j:=by
  have e1:(l.take n).take j=l.take j:=by rw[Avk,Atv h2]
  rw[←e1,Ar4]
 rw[e,Atm (by rw[Ar1];omega),Ako];have e2:(l.take j++ (l.take n).drop j).drop j=(l.take n).drop j:=by rw[←e]
 rw[e2]
theorem Wr {l:List Rv}{j:Nat}(h:j<l.length):rowsOf l j (j+1)=[bareL (l.getD j rv0).made]:=by
 unfold rowsOf;have e:=N3 h;obtain⟨_,e⟩:=Ar8.1 e;rw[Ask h,Atm (by rw[Ar1];omega),Aro (by rw[Ar1];omega),Ar9,e];rfl
theorem Ae0 {l:List Rv}{i n:Nat}(h:i<n)(hn:n≤l.length):rowsOf l i n=bareL (l.getD i rv0).made::rowsOf l (i+1) n:=by
 rw[Po (j:=i+1) (by omega) (by omega) (by omega),Wr (by omega)];rfl
theorem Ahr (l:List Rv)(i:Nat):rowsOf l i l.length=rowsL (l.drop i):=by
 unfold rowsOf;rw[Asj]
theorem Nk {l:List Rv}{i j:Nat}(r:Rv)(h:j≤l.length):rowsOf (l++ [r]) i j=rowsOf l i j:=by
 unfold rowsOf;rw[As9 h]
theorem I1 {l:List Rv}{i:Nat}(r:Rv)(h:i<l.length):(l++ [r]).getD i rv0=l.getD i rv0:=by
 rw[Asg,Asg,Aq9 h]
theorem Adm (l:List Rv)(r:Rv):(l++ [r]).getD l.length rv0=r:=by
 rw[Asg,Arh (Ara _),Aub];rfl
structure WF (l:List Rv)(k:Nat):Prop where
 ne:l≠[]
 len:l.length≤k+1
 linked:Linked l
 right: ∀r∈l,rightT r.tree=true
 weight: ∀r∈l,r.tree.weight≤wt k
 made: ∀r∈l,OkL r.made∧r.made.length≤4*k
theorem WF.mono {l:List Rv}{k:Nat}(h:WF l k):WF l (k+1):=by
 have e:wt (k+1)=wt k+648* (k+1):=rfl;exact⟨h.ne,by have:=h.len;omega,h.linked,h.right,λr hr=>by have:=h.weight r hr;omega,λr hr=>⟨(h.made r hr).1,by have:=(h.made r hr).2;omega⟩⟩
theorem WF.last {l:List Rv}{k:Nat}(h:WF l k): ∃z,l.getLast?=some z∧z∈l∧lastT l=z.tree:=by
 refine⟨l.getLast h.ne,Atx h.ne,Avd h.ne,?_⟩;unfold lastT;rw[Atx h.ne];rfl
theorem Aqg {t:Tree}(hr:rightT t=true)(hw:t.weight≤100):WF [⟨t,[]⟩] 0:=by
 refine⟨by simp,by simp,trivial,λr h=> ?_,λr h=> ?_,λr h=> ?_⟩
 all_goals rw[Ar5.1 h]
 ·exact hr
 ·exact hw
 ·exact⟨Bn,Aq4 _⟩
theorem WF.add {l:List Rv}{k:Nat}(h:WF l k){o:List OpT}(hok:OkL o)(hl:o.length≤4* (k+1))(hc:costs o≤648* (k+1))(ha:(AllR (lastT l) o).2.2=0):WF (l++ [⟨(AllR (lastT l) o).1,bareL o⟩]) (k+1):=by
 obtain⟨z,hz,hm,e⟩:=h.last;rw[e] at ha ⊢;have hr:=h.right z hm;have hw:=h.weight z hm;have hcm:=K1 hr ha;have hwt:=Gq z.tree o;have ew:wt (k+1)=wt k+648* (k+1):=rfl;have hM:=h.mono;generalize AllR z.tree o=R at hcm hwt;refine⟨by simp,?_,?_,λr hr'=> ?_,λr hr'=> ?_,λr hr'=> ?_⟩
 ·rw[Arb];have:=h.len;simp;omega
 ·obtain⟨l',rfl⟩: ∃l',l=l'++ [z]:=by
   refine⟨l.dropLast,?_⟩;have e:=Atg h.ne;have e2:l.getLast h.ne=z:=by
    rw[Atx h.ne] at hz;injection hz
   rw[←e2];exact e.symm
  exact S0 h.linked (Bs hcm)
 all_goals rcases Asi.1 hr' with hr'|hr'
 ·exact h.right r hr'
 ·rw[Ar5.1 hr'];exact Gs hr hcm
 ·exact hM.weight r hr'
 ·rw[Ar5.1 hr'];simp only;omega
 ·exact hM.made r hr'
 ·rw[Ar5.1 hr'];exact⟨By hok,by simp only;rw[Bj];exact hl⟩
theorem Am9 {l:List Rv}{k j:Nat}{o:List OpT}(h:WF l k)(hj:j<l.length)(ha:(AllR (l.getD j rv0).tree o).2.2=0):
  (bringR l j o).2=3∨((bringR l j o).2=0∧(AllR (lastT l) (bringR l j o).1).2.2=0):=by
 obtain⟨z,hz,hm,hl⟩:=h.last;have hb:=brought h.linked (N3 hj) hz (K1 (h.right _ (J4 hj)) ha);rw[Z6 ha,hl]
 rcases hb with e| ⟨e,Y,hY⟩
 ·rw[e];exact .inl rfl
 ·rw[e];exact .inr ⟨rfl,(Fd (h.right z hm) hY).1⟩
theorem Akp (c:Cl)(l:List OpT): ∃t b,(c.edit l).1= {c with tree:=t,buffer:=b}:=by
 unfold Cl.edit;cases !decide (firstBad l=0) with
 |true=>exact⟨c.tree,c.buffer,rfl⟩
 |false=>
 cases decide (512< (c.buffer.length:Int)+l.length) with
 |true=>exact⟨c.tree,c.buffer,rfl⟩
 |false=>
 cases decide ((AllR c.tree l).2.2=0) with
 |true=>exact⟨_,_,rfl⟩
 |false=>exact⟨c.tree,c.buffer,rfl⟩
theorem Ae1 (c:Cl):(∃b,c.submit=({c with buffer:=b},none))∨(c.sent=false∧ ∃b f q,c.submit=({c with sent:=true,seq:=q,flight:=f,buffer:=b},some (bareL f))):=by
 rcases(Asd c.sent).symm with hs|hs
 ·have e:c.submit=bif decide ((listS c.buffer).length=0) then({c with buffer:=listS c.buffer},none) else({c with sent:=true,seq:=c.seq+1,flight:=(listS c.buffer).take (subK (listS c.buffer) (listS c.buffer).length 1),buffer:=bareL ((listS c.buffer).drop (subK (listS c.buffer) (listS c.buffer).length 1))},
    some (bareL ((listS c.buffer).take (subK (listS c.buffer) (listS c.buffer).length 1)))):=by
   unfold Cl.submit;rw[hs];rfl
  rw[e];cases decide ((listS c.buffer).length=0) with
  |true=>exact .inl ⟨_,rfl⟩
  |false=>exact .inr ⟨hs,_,_,_,rfl⟩
 ·have e:c.submit=(c,none):=by
   unfold Cl.submit;rw[hs];rfl
  exact .inl ⟨c.buffer,e⟩
theorem Td {prior:Bool}{l f:List OpT}{t A B:Tree}(h1:Comes t l A)(h2:Comes t f B):(listsX prior l f).2.2=0∨(listsX prior l f).2.2=3:=by
 obtain⟨n,hn⟩:=B4 prior l f
 rcases D7 prior n l f _ t A B hn h1 h2 with e| ⟨e,_⟩
 ·exact .inr e
 ·exact .inl e
theorem Akq {c:Cl}(h:c.Good){l:List OpT}(ha:(AllR c.base l).2.2=0):(c.hear (c.seen+1) l=(c,3))∨((listsX true l c.flight).2.2=0∧ ∃t b,c.hear (c.seen+1) l=({c with base:=(AllR c.base l).1,tree:=t,seen:=c.seen+1,flight:=(listsX true l c.flight).2.1,buffer:=b},0)):=by
 obtain⟨h1,M,h2,h3⟩:=h;have kl:=K1 h1 ha;have e1:=Td (prior:=true) kl h2;obtain⟨n,hn⟩:=B4 true l c.flight;have m1:=D7 true n l c.flight _ c.base _ M hn kl h2;unfold Cl.hear;rw[decide_eq_true rfl,decide_eq_true ha]
 rcases e1 with e1|e1
 ·rw[decide_eq_true e1];have e0:(bringX true l c.flight).2.2=0:=e1
  rcases m1 with m1| ⟨_,Y,c1,c2⟩
  ·omega
  have c1:Comes M (listsX true l c.flight).1 Y:=Bs c1;have e2:=Td (prior:=true) c1 h3
  rcases e2 with e2|e2
  ·rw[decide_eq_true e2];exact .inr ⟨e1,_,_,rfl⟩
  ·rw[decide_eq_false (by rw[e2];decide),e2];exact .inl rfl
 ·rw[decide_eq_false (by rw[e1];decide),e1];exact .inl rfl
structure Wd where
 l:List Rv
 c:Cl
 list:List OpT
 base:Int
 way:Bool
 own:Int
 refused:Bool
inductive Wst (x:Wd)(s k:Nat):Prop
 |idle (h1:x.way=false) (h2:x.own=0) (h3:x.refused=false) (h4:x.c.sent=false)
 |way (b:Nat) (h1:x.way=true) (h2:x.own=0) (h3:x.refused=false) (h4:x.c.sent=true) (h5:x.base=b) (h6:b≤s) (h7:(AllR (x.l.getD b rv0).tree x.list).2.2=0)
   (h8:OkL x.list) (h9:x.list.length≤4*k) (h10:costs x.list≤648*k) (h11:Thr (bareL x.list) (rowsOf x.l (b+1) (s+1)) (bareL x.c.flight))
 |own (o:Nat) (h1:x.way=false) (h2:x.own=o) (h3:x.refused=false) (h4:x.c.sent=true) (h5:s<o) (h6:o<x.l.length) (h7:Thr (bareL x.c.flight) (rowsOf x.l (s+1) o) (x.l.getD o rv0).made)
 |refused (h1:x.way=false) (h2:x.own=0) (h3:x.refused=true) (h4:x.c.sent=true)
theorem Wst.mono {x:Wd}{s k:Nat}(h:Wst x s k):Wst x s (k+1):=by
 cases h with
 |idle h1 h2 h3 h4=>exact .idle h1 h2 h3 h4
 |way b h1 h2 h3 h4 h5 h6 h7 h8 h9 h10 h11=>exact .way b h1 h2 h3 h4 h5 h6 h7 h8 (by omega) (by omega) h11
 |own o h1 h2 h3 h4 h5 h6 h7=>exact .own o h1 h2 h3 h4 h5 h6 h7
 |refused h1 h2 h3 h4=>exact .refused h1 h2 h3 h4
def ownN (x:Wd):Nat:=bif decide (x.own=0) then 0 else 1
structure Wd.Inv (x:Wd)(s k:Nat):Prop where
 win:WF x.l k
 good:x.c.Good
 seen:x.c.seen=s
 lo:s<x.l.length
 base:x.c.base=(x.l.getD s rv0).tree
 rows: ∀i,s<i->i<x.l.length->(i:Int)≠x.own->Lc (x.l.getD i rv0).made
 ci: ∃j,CI x.c j∧j+x.l.length≤k+1+s+ownN x
 st:Wst x s k
theorem Ya {l:List OpT}(h:Lc l):Lc (bareL l):=⟨By h.ok,by rw[Bj];exact h.len,Ark (Dp l) h.cost⟩
theorem CI.up {c:Cl}{j:Nat}(h:CI c j): ∀n,CI c (j+n)
 |0=>h
 |n+1=>(CI.up h n).mono
theorem Wd.Inv.ck {x:Wd}{s k:Nat}(h:x.Inv s k):CI x.c k:=by
 obtain⟨j,hj,hk⟩:=h.ci;have hl:=h.lo;have ho:ownN x≤1:=by unfold ownN;cases decide (x.own=0)<;>simp
 have key:j≤k:=by
  by_cases hz:x.own=0
  ·have:ownN x=0:=by unfold ownN;rw[decide_eq_true hz];rfl
   omega
  ·cases h.st with
   |idle h1 h2 h3 h4=>exact absurd h2 hz
   |way b h1 h2=>exact absurd h2 hz
   |refused h1 h2=>exact absurd h2 hz
   |own o h1 h2 h3 h4 h5 h6 h7=>omega
 have:=hj.up (k-j);rwa [At4 key] at this
theorem Wd.Inv.mono {x:Wd}{s k:Nat}(h:x.Inv s k):x.Inv s (k+1):=by
 obtain⟨j,hj,hk⟩:=h.ci;exact⟨h.win.mono,h.good,h.seen,h.lo,h.base,h.rows,⟨j,hj,by omega⟩,h.st.mono⟩
theorem Ao8 {t:Tree}(hr:rightT t=true)(hw:t.weight≤100)(hm:mayE 0 0 t=0):Wd.Inv ⟨[⟨t,[]⟩],Cl.new 0 0 t,[],0,false,0,false⟩ 0 0:=
 ⟨Aqg hr hw,Good.new hr 0 0,rfl,Nat.one_pos,rfl,λi h1 h2 _=>absurd h2 (by simp only[Aq8,Arc];omega),⟨0,CI.begun hw 0 0 hm,Ara _⟩,.idle rfl rfl rfl rfl⟩
theorem Adn {x:Wd}{s k:Nat}(h:x.Inv s k){l:List OpT}(hl:Lc l):Wd.Inv {x with c:=(x.c.edit l).1} s (k+1):=by
 obtain⟨j,hj,hk⟩:=h.ci;have h1:=hj.edit hl;have h2:=Good.edit h.good l;obtain⟨t,b,e⟩:=Akp x.c l;rw[e] at h1 h2 ⊢;refine⟨h.win.mono,h2,h.seen,h.lo,h.base,h.rows,⟨j+1,h1,?_⟩,?_⟩
 ·have:ownN {x with c:= {x.c with tree:=t,buffer:=b}}=ownN x:=rfl;rw[this];simp only;omega
 ·cases h.st.mono with
  |idle h1 h2 h3 h4=>exact .idle h1 h2 h3 h4
  |way b h1 h2 h3 h4 h5 h6 h7 h8 h9 h10 h11=>exact .way b h1 h2 h3 h4 h5 h6 h7 h8 h9 h10 h11
  |own o h1 h2 h3 h4 h5 h6 h7=>exact .own o h1 h2 h3 h4 h5 h6 h7
  |refused h1 h2 h3 h4=>exact .refused h1 h2 h3 h4
def Wd.sub (x:Wd):Wd:=match x.c.submit.2 with
 |none=> {x with c:=x.c.submit.1}
 |some s=> {x with c:=x.c.submit.1,list:=s,base:=x.c.submit.1.seen,way:=true}
theorem Ahs {x:Wd}{s k:Nat}(h:x.Inv s k):x.sub.Inv s (k+1):=by
 have hck:=h.ck;obtain⟨j,hj,hk⟩:=h.ci;have h1:=hj.submit;have h1k:=hck.submit;have h2:=Good.submit h.good hj.none;unfold Wd.sub
 rcases Ae1 x.c with⟨b,e⟩| ⟨hs,b,f,q,e⟩
 ·rw[e] at h1 h2 ⊢;refine⟨h.win.mono,h2,h.seen,h.lo,h.base,h.rows,⟨j+1,h1,?_⟩,?_⟩
  ·have:ownN {x with c:= {x.c with buffer:=b}}=ownN x:=rfl;simp only;rw[this];omega
  ·cases h.st.mono with
   |idle h1 h2 h3 h4=>exact .idle h1 h2 h3 h4
   |way b h1 h2 h3 h4 h5 h6 h7 h8 h9 h10 h11=>exact .way b h1 h2 h3 h4 h5 h6 h7 h8 h9 h10 h11
   |own o h1 h2 h3 h4 h5 h6 h7=>exact .own o h1 h2 h3 h4 h5 h6 h7
   |refused h1 h2 h3 h4=>exact .refused h1 h2 h3 h4
 ·rw[e] at h1 h2 h1k ⊢;have hz:x.own=0∧x.refused=false:=by
   cases h.st with
   |idle q1 q2 q3 q4=>exact⟨q2,q3⟩
   |way b q1 q2 q3 q4=>rw[hs] at q4;cases q4
   |own o q1 q2 q3 q4=>rw[hs] at q4;cases q4
   |refused q1 q2 q3 q4=>rw[hs] at q4;cases q4
  refine⟨h.win.mono,h2,h.seen,h.lo,h.base,h.rows,⟨j+1,h1,?_⟩,?_⟩
  ·have e0:ownN x=0:=by unfold ownN;rw[decide_eq_true hz.1];rfl
   simp only;omega
  ·obtain⟨_,M,c1,_⟩:=h2;have hb:=h.base;simp only at c1;rw[hb] at c1;have hf:=h1k.flight;have hlen:=h1k.len;have hcost:=h1k.cost;simp only at hf hlen hcost;have cb:=Dp f;refine .way s rfl hz.1 hz.2 rfl h.seen (Ara _) (Fd (h.win.right _ (J4 h.lo)) (Bs c1)).1 (By hf) (by simp only[Bj];omega) (by simp only;omega) ?_;simp only[Lq];rw[Wq];exact X3 _
theorem Ao9 {x:Wd}{s k:Nat}(r:Rv)(hlo:s<x.l.length)(h:Wst x s k):Wst {x with l:=x.l++ [r]} s k:=by
 cases h with
 |idle h1 h2 h3 h4=>exact .idle h1 h2 h3 h4
 |way b h1 h2 h3 h4 h5 h6 h7 h8 h9 h10 h11=>
  refine .way b h1 h2 h3 h4 h5 h6 ?_ h8 h9 h10 ?_
  ·simp only;rw[I1 r (by omega)];exact h7
  ·simp only;rw[Nk r (by omega)];exact h11
 |own o h1 h2 h3 h4 h5 h6 h7=>
  refine .own o h1 h2 h3 h4 h5 (by simp only[Arb];omega) ?_;simp only;rw[Nk r (by omega),I1 r h6];exact h7
 |refused h1 h2 h3 h4=>exact .refused h1 h2 h3 h4
theorem Apa {x:Wd}{s k:Nat}(h:x.Inv s k){l:List OpT}(hl:Lc l)(ha:(AllR (lastT x.l) l).2.2=0):Wd.Inv {x with l:=x.l++ [⟨(AllR (lastT x.l) l).1,bareL l⟩]} s (k+1):=by
 obtain⟨j,hj,hk⟩:=h.ci;have hlo:=h.lo;have hw:=h.win.add hl.ok (by have:=hl.len;omega) (by have:=hl.cost;omega) ha;obtain⟨r,hr⟩: ∃r:Rv,(⟨(AllR (lastT x.l) l).1,bareL l⟩:Rv)=r:=⟨_,rfl⟩;have hm:r.made=bareL l:=by rw[←hr]
 rw[hr] at hw ⊢;refine⟨hw,h.good,h.seen,by simp only[Arb];omega,?_,λi h1 h2 h3=> ?_,⟨j,hj,?_⟩,Ao9 r hlo h.st.mono⟩
 ·simp only;rw[I1 r hlo];exact h.base
 ·simp only[Arb,Aq8,Arc] at h2 h3 ⊢
  by_cases hi:i<x.l.length
  ·rw[I1 r hi];exact h.rows i h1 hi h3
  ·have:i=x.l.length:=by omega
   subst this;rw[Adm,hm];exact Ya hl
 ·have:ownN {x with l:=x.l++ [r]}=ownN x:=rfl;rw[this];simp only[Arb,Aq8,Arc];omega
theorem Akr {x:List OpT}: ∀ {rows:List (List OpT)} {bs:List OpT},(∀r∈rows,Lc r)->OkL bs->Thr bs rows x->OkL x∧x.length≤bs.length+4*rows.length∧costs x≤costs bs+648*rows.length
 | [],bs,_,ho,h=>by
  have e:bs=x:=h.2;subst e;exact⟨ho,by omega,by omega⟩
 |r::rows,bs,hr,ho,h=>by
  obtain⟨_,h2⟩:=J3.1 h;have hl:=hr r (by simp);obtain⟨o1,_,o3⟩:=Aan (prior:=false) ho hl.ok;have s1:=Pg false bs r;have ih:=Akr (rows:=rows) (λz hz=>hr z (by simp[hz])) o1 h2;have:=hl.len;have:=hl.cost;refine⟨ih.1,?_,?_⟩
  ·have:=ih.2.1;rw[Aq8];omega
  ·have:=ih.2.2;rw[Aq8];omega
theorem Aks {bs x:List OpT}{rows:List (List OpT)}(h:Thr (bareL bs) rows x):bareL x=x:=by
 obtain⟨l,e⟩:=Wc (prior:=false) rows bs [];have:x=bareL l:=h.2.symm.trans e;rw[this,Lq]
theorem Aht {l:List Rv}{i n:Nat}{r:List OpT}(h:r∈rowsOf l i n)(hn:n≤l.length): ∃j,i≤j∧j<n∧r=bareL (l.getD j rv0).made:=by
 unfold rowsOf rowsL at h;rw[Ato] at h;obtain⟨z,hz,rfl⟩:=h;obtain⟨j,hj,e⟩:=List.getElem_of_mem hz;rw[Asf,Ar1] at hj;refine⟨i+j,by omega,by omega,?_⟩;rw[List.getElem_drop,List.getElem_take] at e;obtain⟨_,e2⟩:=Ar8.1 (N3 (l:=l) (i:=i+j) (by omega));have e3:l.getD (i+j) rv0=z:=e2.symm.trans e;rw[e3]
theorem Ws {l:List Rv}{i n:Nat}(hn:n≤l.length):(rowsOf l i n).length=n-i:=by
 unfold rowsOf rowsL;rw[Arf,Asf,Ar1,Atv hn]
theorem Ahu {x:Wd}{s k:Nat}(h:x.Inv s k)(hw:x.way=true):Wd.Inv {x with way:=false,refused:=true} s (k+1):=by
 obtain⟨j,hj,hk⟩:=h.ci;have hs:x.own=0∧x.c.sent=true:=by
  cases h.st with
  |idle q1=>rw[hw] at q1;cases q1
  |way b q1 q2 q3 q4=>exact⟨q2,q4⟩
  |own o q1=>rw[hw] at q1;cases q1
  |refused q1=>rw[hw] at q1;cases q1
 refine⟨h.win.mono,h.good,h.seen,h.lo,h.base,h.rows,⟨j,hj,?_⟩,.refused rfl hs.1 rfl hs.2⟩;have:ownN {x with way:=false,refused:=true}=ownN x:=rfl;rw[this];simp only;omega
theorem Akt {x:Wd}{s k:Nat}(h:x.Inv s k)(hw:x.way=true): ∃b:Nat,x.base=b∧b<x.l.length∧OkL x.list∧x.list.length≤4*k∧costs x.list≤648*k∧
  ((bringR x.l b x.list).2=3∨((bringR x.l b x.list).2=0∧OkL (bringR x.l b x.list).1∧(bringR x.l b x.list).1.length≤4*k∧costs (bringR x.l b x.list).1≤648*k∧(AllR (lastT x.l) (bringR x.l b x.list).1).2.2=0∧
   Wd.Inv {x with way:=false,l:=x.l++ [⟨(AllR (lastT x.l) (bringR x.l b x.list).1).1,bareL (bringR x.l b x.list).1⟩],own:=(x.l.length:Int)} s (k+1))):=by
 have hck:=h.ck;obtain⟨j,hj,hk⟩:=h.ci;have hlo:=h.lo;cases h.st with
 |idle q1=>rw[hw] at q1;cases q1
 |own o q1=>rw[hw] at q1;cases q1
 |refused q1=>rw[hw] at q1;cases q1
 |way b h1 h2 h3 h4 h5 h6 h7 h8 h9 h10 h11=>
 refine⟨b,h5,by omega,h8,h9,h10,?_⟩
 rcases Am9 h.win (show b<x.l.length by omega) h7 with e| ⟨e,ex⟩
 ·exact .inl e
 obtain⟨t1,t2⟩:=Ahn e h7;have hT:Thr (bareL x.list) (rowsL (x.l.drop (b+1))) (bringR x.l b x.list).1:=⟨t1,t2.symm⟩;rw[←Ahr,Po (j:=s+1) (by omega) (by omega) (by omega)] at hT;have hb:=Aks hT;obtain⟨y,y1,y2⟩:=X4.1 hT;have ey:=Ao7 y1 h11;subst ey;have hrl: ∀r∈rowsOf x.l (s+1) x.l.length,Lc r:=λr hr=>by
  obtain⟨i,i1,i2,rfl⟩:=Aht hr (Ara _);exact Ya (h.rows i (by omega) i2 (by omega))
 obtain⟨m1,m2,m3⟩:=Akr hrl (By hj.flight) y2;rw[Ws (Ara _),Bj] at m2;rw[Ws (Ara _)] at m3;have cb:=Dp x.c.flight;have l1:=hj.len;have l2:=hj.cost;have e0:ownN x=0:=by unfold ownN;rw[decide_eq_true h2];rfl
 rw[e0] at hk;refine .inr ⟨e,m1,by omega,by omega,ex,?_⟩;have hwf:=h.win.add m1 (by omega) (by omega) ex;obtain⟨r,hr⟩: ∃r:Rv,(⟨(AllR (lastT x.l) (bringR x.l b x.list).1).1,bareL (bringR x.l b x.list).1⟩:Rv)=r:=⟨_,rfl⟩;have hm:r.made=(bringR x.l b x.list).1:=by rw[←hr];exact hb
 rw[hr] at hwf ⊢;refine⟨hwf,h.good,h.seen,by simp only[Arb];omega,?_,λi i1 i2 i3=> ?_,⟨j,hj,?_⟩,?_⟩
 ·simp only;rw[I1 r hlo];exact h.base
 ·simp only[Arb,Aq8,Arc] at i2 i3 ⊢;have hi:i<x.l.length:=by omega
  rw[I1 r hi];exact h.rows i i1 hi (by omega)
 ·simp only[Arb,Aq8,Arc];have:ownN {x with way:=false,l:=x.l++ [r],own:=(x.l.length:Int)}=1:=by
   unfold ownN;rw[decide_eq_false (by simp only;omega)];rfl
  rw[this];omega
 ·refine .own x.l.length rfl rfl h3 h4 hlo (by simp) ?_;simp only;rw[Nk r (Ara _),Adm,hm];exact y2
theorem Ana {x:Wd}{s k:Nat}(h:x.Inv s k)(hr:x.refused=true):x.c.sent=true∧Wd.Inv {x with refused:=false,c:=x.c.dropped} s (k+1):=by
 obtain⟨j,hj,hk⟩:=h.ci;have hs:x.way=false∧x.own=0∧x.c.sent=true:=by
  cases h.st with
  |idle q1 q2 q3=>rw[hr] at q3;cases q3
  |way b q1 q2 q3 q4=>rw[hr] at q3;cases q3
  |own o q1 q2 q3=>rw[hr] at q3;cases q3
  |refused q1 q2 q3 q4=>exact⟨q1,q2,q4⟩
 refine⟨hs.2.2,h.win.mono,Good.drop h.good,h.seen,h.lo,h.base,h.rows,⟨j+1,hj.drop,?_⟩,.idle hs.1 hs.2.1 rfl rfl⟩;have:ownN {x with refused:=false,c:=x.c.dropped}=ownN x:=rfl;rw[this];simp only;omega
theorem Ado {x:Wd}{s k:Nat}(h:x.Inv s k)(hi:s+1<x.l.length):(AllR x.c.base (bareL (x.l.getD (s+1) rv0).made)).2.2=0∧(AllR x.c.base (bareL (x.l.getD (s+1) rv0).made)).1=(x.l.getD (s+1) rv0).tree:=by
 rw[h.base];exact Fd (h.win.right _ (J4 h.lo)) (Bs (Zw h.win.linked s _ _ (N3 h.lo) (N3 hi)))
theorem Ahv {x:Wd}{s k:Nat}(h:x.Inv s k)(hi:s+1<x.l.length)(ho:x.own=(s:Int)+1):
  x.c.sent=true∧bareL x.c.flight=bareL (x.l.getD (s+1) rv0).made∧(x.c.accepted (x.c.seen+1)).2=0∧Wd.Inv {x with own:=0,c:=(x.c.accepted (x.c.seen+1)).1} (s+1) (k+1):=by
 obtain⟨j,hj,hk⟩:=h.ci;obtain⟨r1,r2⟩:=Ado h hi;have hg:=Good.accepted h.good (x.c.seen+1);have hja:=hj.accepted (x.c.seen+1);have hlo:=h.lo;cases h.st with
 |idle q1 q2=>omega
 |way b q1 q2=>omega
 |refused q1 q2=>omega
 |own o h1 h2 h3 h4 h5 h6 h7=>
 have eo:o=s+1:=by omega
 subst eo;rw[Wq] at h7;have ef:bareL x.c.flight=(x.l.getD (s+1) rv0).made:=h7.2;have ef2:bareL x.c.flight=bareL (x.l.getD (s+1) rv0).made:=by rw[←ef,Lq]
 rw[←ef2] at r1 r2;obtain⟨hb,M,c1,c2⟩:=h.good;obtain⟨a1,a2⟩:=Fd hb c1;obtain⟨a3,a4⟩:=Fd hb (Bs c1);have eM:M=(x.l.getD (s+1) rv0).tree:=a4.symm.trans r2;have ea:x.c.accepted (x.c.seen+1)=({x.c with base:=M,seen:=x.c.seen+1,sent:=false,flight:=[]},0):=by
  unfold Cl.accepted;rw[h4,decide_eq_true rfl,a1,a2];rfl
 rw[ea] at hg hja ⊢;refine⟨h4,ef2,rfl,h.win.mono,hg,?_,hi,eM,λi i1 i2 i3=>h.rows i (by omega) i2 (by omega),⟨j+1,hja,?_⟩,.idle h1 rfl h3 rfl⟩
 ·simp only;have:=h.seen;omega
 ·have e1:ownN x=1:=by unfold ownN;rw[decide_eq_false (by omega)];rfl
  have e2:ownN {x with own:=0,c:= {x.c with base:=M,seen:=x.c.seen+1,sent:=false,flight:=[]}}=0:=rfl;rw[e2];simp only;omega
theorem Anb {x:Wd}{s k:Nat}(h:x.Inv s k)(hk30:k≤30)(hi:s+1<x.l.length)(ho:x.own≠(s:Int)+1):
  Lc (bareL (x.l.getD (s+1) rv0).made)∧((x.c.hear (x.c.seen+1) (bareL (x.l.getD (s+1) rv0).made)=(x.c,3))∨((x.c.hear (x.c.seen+1) (bareL (x.l.getD (s+1) rv0).made)).2=0∧Wd.Inv {x with c:=(x.c.hear (x.c.seen+1) (bareL (x.l.getD (s+1) rv0).made)).1} (s+1) (k+1))):=by
 have hck:=h.ck;obtain⟨j,hj,hk⟩:=h.ci;obtain⟨r1,r2⟩:=Ado h hi;have hlo:=h.lo;have hl:=Ya (h.rows (s+1) (by omega) hi (by omega));have hg:=Good.hear h.good (x.c.seen+1) (bareL (x.l.getD (s+1) rv0).made);have hjh:=(hj.hear hl (x.c.seen+1)).1;refine⟨hl,?_⟩
 rcases Akq h.good r1 with e| ⟨e0,t,b,e⟩
 ·exact .inl e
 rw[e] at hg hjh ⊢;rw[r2] at hg hjh ⊢;have hft:=Amr (l:=bareL (x.l.getD (s+1) rv0).made) (f:=x.c.flight) (by have:=hl.len;have:=hck.len;omega) e0;have ebf:bareL (listsX true (bareL (x.l.getD (s+1) rv0).made) x.c.flight).2.1=(listsX true (bareL (x.l.getD (s+1) rv0).made) x.c.flight).2.1:=Lq _;rw[←Aep] at hft;have eo:ownN {x with c:= {x.c with base:=(x.l.getD (s+1) rv0).tree,tree:=t,seen:=x.c.seen+1,flight:=(listsX true (bareL (x.l.getD (s+1) rv0).made) x.c.flight).2.1,buffer:=b}}=ownN x:=rfl;refine .inr ⟨rfl,h.win.mono,hg,?_,hi,rfl,λi i1 i2 i3=>h.rows i (by omega) i2 i3,⟨j+1,hjh,?_⟩,?_⟩
 ·simp only;have:=h.seen;omega
 ·rw[eo];simp only;omega
 ·cases h.st.mono with
  |idle h1 h2 h3 h4=>exact .idle h1 h2 h3 h4
  |refused h1 h2 h3 h4=>exact .refused h1 h2 h3 h4
  |way b h1 h2 h3 h4 h5 h6 h7 h8 h9 h10 h11=>
   refine .way b h1 h2 h3 h4 h5 (by omega) h7 h8 h9 h10 ?_;simp only;rw[ebf,Po (j:=s+1) (by omega) (by omega) (by omega),Wr hi];exact X4.2 ⟨_,h11,J3.2 ⟨hft.1,by rw[hft.2];exact X3 _⟩⟩
  |own o h1 h2 h3 h4 h5 h6 h7=>
   have h5':s+1<o:=by omega
   refine .own o h1 h2 h3 h4 h5' h6 ?_;simp only;rw[ebf];rw[Ae0 h5' (by omega)] at h7;obtain⟨_,k2⟩:=J3.1 h7;rw[hft.2] at k2;exact k2
end Bow
namespace Bow
open Go Go.Proofs
end Bow
namespace Bow
open Go Go.Proofs
theorem Aj9 (low:Int)(t:Tree)(h1:0≤low∧low≤2305843009213693952)(hr:rightT t=false)(hw:t.weight≤1000000):
  Pure Tryz.prog 12 [.int .i64 low,nodeV t] (λx=>x=.tup [.nilp,.int .i64 60]):=by
 have c1:=Pr t hw;refine Ad 60 Tryz.func12 rfl rfl rfl λB=> ?_;refine⟨λq=>absurd (Au q) (by omega),λ_=>go 60 ?_⟩;refine⟨λq=>absurd (Au q) (by omega),λ_=>go 60 ?_⟩;show CallThen _ _ _ _ _ _;refine Aa c1 rfl ?_;rintro z rfl;refine⟨λ_=>go 60 ?_,λq=>absurd q (by rw[hr];decide)⟩;exact⟨trivial,rfl,rfl,rfl,rfl⟩
theorem Am5 (t:Tree):V.apart [7] (.tup [nodeV t,.int .i64 0])=true:=by
 simp only[V.apart,V.apartL,Hw (ss:=[7]) ⟨rfl,rfl⟩ t,Ast]
theorem Aey (l:List (List OpT)):V.apart [7] (.tup [listsV l,.int .i64 0])=true:=by
 simp only[V.apart,V.apartL,Aew (ss:=[7]) ⟨rfl,rfl⟩ rfl l,Ast]
theorem Ta (o:List OpT)(e:Int):V.apart [7] (.tup [opsV o,.int .i64 e])=true:=by
 simp only[V.apart,V.apartL,I0 (ss:=[7]) ⟨rfl,rfl⟩ rfl o,Ast]
def wdC (x:Wd)(w c:V):List V:=[w,c,opsV x.list,.int .i64 x.base,.bool x.way,.int .i64 x.own,.bool x.refused]
def winB (l:List Rv)(v g:Nat):HObj:=.box [.int .i64 0,.osl (.loc v) g 0 (l.map rvV).length]
def clB (c:Cl)(f b gf gb:Nat):HObj:=.box (clC c (.osl (.loc f) gf 0 (c.flight.map opV).length) (.osl (.loc b) gb 0 (c.buffer.map opV).length))
def wdT (x:Wd)(gr gf gb:Nat):Heap:=[some (.box (wdC x (.ptr (.loc 1) 0) (.ptr (.loc 3) 0))),some (winB x.l 2 gr),some (.vec gr 7 (x.l.map rvV)),some (clB x.c 4 5 gf gb),some (.vec gf 11 (x.c.flight.map opV)),some (.vec gb 11 (x.c.buffer.map opV))]
theorem wt30 {k:Nat}(h:k≤32):wt k≤345000:=Aqz h
theorem Yb {l:List Rv}{k:Nat}(h:WF l k)(hk:k≤32): ∀r∈l,OkL r.made∧r.made.length≤1000:=λr hr=>⟨(h.made r hr).1,by have:=(h.made r hr).2;omega⟩
theorem And {l:List Rv}{k b:Nat}(h:WF l k)(hk:k≤30)(hb:b<l.length){o:List OpT}(ho:OkL o)(h1:o.length≤4*k)(h2:costs o≤648*k):
  Pure Tryz.prog 20 [.iptr (winC 0 l) 0,.int .i64 b,opsV o] (λx=>x=.tup [opsV (bringR l b o).1,.int .i64 (bringR l b o).2]):=by
 have hlen:=h.len;have w1:=h.weight _ (J4 hb);have w2:=wt30 (k:=k) (by omega);exact Am2 0 l (by decide) ⟨by omega,by omega⟩ b b (by omega) hb (Yb h (by omega)) o (by omega) ho (by omega)
theorem Aku {l:List Rv}{k:Nat}(h:WF l k)(hk:k≤30)(g:Nat){o:List OpT}(ho:OkL o)(h1:o.length≤1000)(h2:costs o≤648* (k+1)):
  Fun Tryz.prog 13 (winT 0 g l) [.ptr (.loc 0) 0,opsV o] (λx T'=>(x=.int .i64 (AllR (lastT l) o).2.2)∧((AllR (lastT l) o).2.2=0∧T'=winT 0 (bump g) (l++ [⟨(AllR (lastT l) o).1,bareL o⟩])∨(AllR (lastT l) o).2.2≠0∧T'=winT 0 g l)):=by
 obtain⟨z,hz,hm,hl⟩:=h.last;have hne:0<l.length:=Arw.2 h.ne;have hlen:=h.len;have w1:=h.weight z hm;have w2:=wt30 (k:=k) (by omega);exact Ap8 0 g l o ⟨hne,by omega⟩ (by omega) ho (by rw[hl];omega)
theorem Akv {x:Wd}{s k:Nat}(h:x.Inv s k)(hk:k≤30)(gr gf gb:Nat)(n:Int):
  Fun Tryz.prog 43 (wdT x gr gf gb) [.ptr (.loc 0) 0,.int .u8 n] (λv T'=>v=.bool true∧ ∃(x':Wd) (gr':Nat),x'.Inv s (k+1)∧x'.c=x.c∧T'=wdT x' gr' gf gb):=by
 have hm:=h.mono;refine L7 (A9 6 rfl (L9 (Ay 60 Tryz.func43 rfl rfl rfl λimps B hi=> ?_)));refine⟨λq=>go 60 ?_,λq=>go 60 ?_⟩
 ·exact⟨trivial,rfl,rfl,_,HTo.refl _,wdT x gr gf gb,rfl,rfl,Zq6,⟨.bool true,Wk.tt,rfl,rfl,rfl,x,gr,hm,rfl,rfl⟩⟩
 have q:x.way=true:=by simpa using q
 refine Exists.elim (Akt h q) λb hb=> ?_;have b1:=hb.1;have b2:=hb.2.1;have b3:=hb.2.2.1;have b4:=hb.2.2.2.1;have b5:=hb.2.2.2.2.1;have b6:=hb.2.2.2.2.2;clear hb;have cb:=And h.win hk b2 b3 b4 b5;rw[←b1] at cb;obtain⟨⟨r1,r2⟩,hR⟩: ∃R,bringR x.l b x.list=R:=⟨_,rfl⟩;rw[hR] at cb b6;simp only at cb b6;have hRf:=Ahu h q;refine b6.elim (λe=> ?_) (λe=> ?_)
 ·subst e;show Goes _ _ _ _;refine Ac [(12,false)] 60 ?_;refine⟨[1,2],.tup [opsV r1,.int .i64 3],[],λgs hg=>Bl 7 [1,2] hg rfl rfl rfl cb (λT' hT=>⟨Mi (kv:=2) (g:=gr) (hT 1 (by simp)) (hT 2 (by simp)),.wk rfl (.refl _) rfl,.wk rfl (.refl _) (I0 (ss:=[]) ⟨rfl,rfl⟩ rfl x.list),trivial⟩) rfl (Ta _ _),trivial,?_⟩;refine⟨by kernel_rfl,?_⟩;refine⟨λ_=>go 60 ?_,λq=>absurd q (by decide)⟩;refine⟨λq=>absurd q (by decide),λ_=>go 60 ?_⟩;refine⟨λ_=>go 60 ?_,λq=>absurd q (by decide)⟩;refine⟨trivial,rfl,rfl,_,HTo.trans (HTo.wkCell (cs:=[.ptr (.loc 1) 0,.ptr (.loc 3) 0,opsV x.list,.int .i64 x.base,.ff,.int .i64 x.own,.tt]) 0 4 rfl rfl rfl rfl Wk.ff) (HTo.wkCell (cs:=[.ptr (.loc 1) 0,.ptr (.loc 3) 0,opsV x.list,.int .i64 x.base,.bool false,.int .i64 x.own,.tt]) 0 6 rfl rfl rfl rfl Wk.tt),wdT {x with way:=false,refused:=true} gr gf gb,rfl,rfl,Zq6,⟨.bool true,Wk.tt,rfl,rfl,rfl,_,gr,hRf,rfl,rfl⟩⟩
 have e0:=e.1;subst e0;have f1:=e.2.1;have f2:=e.2.2.1;have f3:=e.2.2.2.1;have f4:=e.2.2.2.2.1;have f5:=e.2.2.2.2.2;clear e b6;have ca:Fun Tryz.prog 13 (winT 0 gr x.l) [.ptr (.loc 0) 0,opsV r1] (λv T'=>v=.int .i64 0∧T'=winT 0 (bump gr) (x.l++ [⟨(AllR (lastT x.l) r1).1,bareL r1⟩])):=Fun.mono (Aku h.win hk gr f1 (by omega) (by omega)) λv T' hq=>by
  obtain⟨rfl,⟨e,rfl⟩| ⟨e,rfl⟩⟩:=hq
  ·exact⟨by rw[f4],rfl⟩
  ·exact absurd f4 e
 have hl2:(x.l++ [(⟨(AllR (lastT x.l) r1).1,bareL r1⟩:Rv)]).length=x.l.length+1:=by simp
 generalize x.l++ [(⟨(AllR (lastT x.l) r1).1,bareL r1⟩:Rv)]=l2 at ca f5 hl2;have hlen:=h.win.len;have cr:=Wn 0 l2 (by decide) (by constructor<;>omega);rw[show(0:Int)+l2.length-1=x.l.length by omega] at cr;show Goes _ _ _ _;refine Ac [(12,false)] 60 ?_;refine⟨[1,2],.tup [opsV r1,.int .i64 0],[],λgs hg=>Bl 7 [1,2] hg rfl rfl rfl cb (λT' hT=>⟨Mi (kv:=2) (g:=gr) (hT 1 (by simp)) (hT 2 (by simp)),.wk rfl (.refl _) rfl,.wk rfl (.refl _) (I0 (ss:=[]) ⟨rfl,rfl⟩ rfl x.list),trivial⟩) rfl (Ta _ _),trivial,?_⟩;refine⟨by kernel_rfl,?_⟩;refine⟨λq=>absurd q (by decide),λ_=>go 60 ?_⟩;refine⟨λq=>absurd q (by decide),λ_=>go 60 ?_⟩;show Goes _ _ _ _;refine Agt 60 rfl rfl rfl rfl rfl rfl rfl rfl (by decide) ?_;refine⟨λ_=>go 60 ?_,λ_=>go 60 ?_⟩
 ·exact⟨trivial,rfl,rfl,_,HTo.trans (HTo.wkCell (cs:=[.ptr (.loc 1) 0,.ptr (.loc 3) 0,opsV x.list,.int .i64 x.base,.ff,.int .i64 x.own,.tt]) 0 4 rfl rfl rfl rfl Wk.ff) (HTo.wkCell (cs:=[.ptr (.loc 1) 0,.ptr (.loc 3) 0,opsV x.list,.int .i64 x.base,.bool false,.int .i64 x.own,.tt]) 0 6 rfl rfl rfl rfl Wk.tt),wdT {x with way:=false,refused:=true} gr gf gb,rfl,rfl,Zq6,⟨.bool true,Wk.tt,rfl,rfl,rfl,_,gr,hRf,rfl,rfl⟩⟩
 show CallThen _ _ _ _ _ _;refine Ax [1,2] ca rfl rfl Zq2 rfl rfl rfl ?_;rintro v T1 ⟨rfl,rfl⟩;refine⟨rfl,[some (.box [.ptr (.loc 1) 0,.ptr (.loc 3) 0,opsV x.list,.int .i64 x.base,.ff,.int .i64 x.own,.bool x.refused]),some (winB l2 2 (bump gr)),some (.vec (bump gr) 7 (l2.map rvV)),some (clB x.c 4 5 gf gb),some (.vec gf 11 (x.c.flight.map opV)),some (.vec gb 11 (x.c.buffer.map opV))],.int .i64 0,rfl,rfl,?_⟩;refine⟨λq=>absurd q (by decide),λ_=>go 60 ?_⟩;show CallThen _ _ _ _ _ _;refine Hf 7 cr ⟨Mi (kv:=2) (g:=bump gr) rfl rfl,trivial⟩ rfl (by rintro _ rfl;rfl) ?_;rintro z rfl;exact⟨trivial,rfl,rfl,_,HTo.wkCell (cs:=[.ptr (.loc 1) 0,.ptr (.loc 3) 0,opsV x.list,.int .i64 x.base,.ff,.int .i64 x.l.length,.bool x.refused]) 0 4 rfl rfl rfl rfl Wk.ff,wdT {x with way:=false,l:=l2,own:=(x.l.length:Int)} (bump gr) gf gb,rfl,rfl,Zq6,⟨.bool true,Wk.tt,rfl,rfl,rfl,_,bump gr,f5,rfl,rfl⟩⟩
theorem Pp (c:Cl)(gf gb:Nat)(hl:c.flight.length≤1000000)(hok:OkS c.flight):Fun Tryz.prog 36 (clT c gf gb) [.ptr (.loc 0) 0] (λx T'=>x=.tup [opsV (bareL c.flight),.bool c.sent]∧T'=clT c gf gb):=by
 refine A9 3 rfl (Ol ((Z7 c gf gb hl hok).mono λx T' hq=> ?_));obtain⟨rfl,rfl⟩:=hq;exact⟨rfl,rfl,rfl,clT c gf gb,rfl,rfl,Cf (clT c gf gb) [_] rfl,rfl,rfl⟩
theorem Adp (c:Cl)(gf gb:Nat)(hl:c.buffer.length≤1000000)(hok:OkS c.buffer):Fun Tryz.prog 37 (clT c gf gb) [.ptr (.loc 0) 0] (λx T'=>x=opsV (bareL c.buffer)∧T'=clT c gf gb):=by
 refine A9 3 rfl (Ol ((Akh c gf gb hl hok).mono λx T' hq=> ?_));obtain⟨g,rfl,rfl⟩:=hq;exact⟨rfl,rfl,rfl,clT c gf gb,rfl,rfl,Cf (clT c gf gb) [_] rfl,rfl,rfl⟩
theorem Akw {a b:List OpT}(e:bareL a=bareL b)(h:OkL b)(hl:b.length≤1000):Pure Tryz.prog 22 [opsV (bareL a),opsV (bareL b)] (λv=>v=.bool true):=by
 rw[e];have:=Ae9 (bareL b) (bareL b) (by rw[Bj];omega) (λo ho=>(By h o ho).1.lt) (λo ho=>(By h o ho).1.lt);rwa [Xe] at this
theorem Adq {t:Tree}(h:t.weight≤1000000):Pure Tryz.prog 19 [nodeV t,nodeV t] (λv=>v=.bool true):=by
 have:=Ah2 t t h;rwa [Wj] at this
def wdH (cs:List V)(l:List Rv)(gr:Nat)(c:Cl)(gf gb:Nat)(r:Heap):Heap:=some (.box cs)::some (winB l 2 gr)::some (.vec gr 7 (l.map rvV))::some (clB c 4 5 gf gb)::some (.vec gf 11 (c.flight.map opV))::some (.vec gb 11 (c.buffer.map opV))::r
def cls (x:Wd)(o r:V):List V:=[.ptr (.loc 1) 0,.ptr (.loc 3) 0,opsV x.list,.int .i64 x.base,.bool x.way,o,r]
theorem Apb {x:Wd}{s k:Nat}(h:x.Inv s k)(hk:k≤30)(gr gf gb:Nat):
  Fun Tryz.prog 44 (wdT x gr gf gb) [.ptr (.loc 0) 0] (λv T'=>v=.bool true∧ ∃(x':Wd) (s' gf' gb':Nat),x'.Inv s' (k+1)∧T'=wdT x' gr gf' gb'):=by
 have hm:=h.mono;have hck:=h.ck;have hlen:=h.win.len;have hlo:=h.lo;have hs:=h.seen;have f1:=hck.flight;have f2:=hck.buffer;have f3:=hck.len;have f4:=hck.cost;have f5:=hck.base;have f6:=hck.tree;have hwt:=wt30 (k:=k) (by omega);have cs:=Lx x.c gf gb;have cr:=Wn 0 x.l (by decide) ⟨by omega,by omega⟩;refine L7 (A9 6 rfl (L9 (Ay 60 Tryz.func44 rfl rfl rfl λimps B hi=> ?_)));show Goes _ _ _ _;refine Ac [(4,false),(9,false)] 60 ?_;refine⟨[3,4,5],.int .i64 x.c.seen,_,λgs hg=>F0 (a0:=clB x.c 1 2 gf gb) (a1:=.vec gf 11 (x.c.flight.map opV)) (a2:=.vec gb 11 (x.c.buffer.map opV)) (b0:=clB x.c 1 2 gf gb) (b1:=.vec gf 11 (x.c.flight.map opV)) (b2:=.vec gb 11 (x.c.buffer.map opV)) 3 4 5 hg rfl rfl rfl rfl rfl rfl rfl rfl rfl cs rfl rfl (λ_=>rfl),trivial,?_⟩;refine⟨[1,2],.int .i64 (0+x.l.length-1),[],λgs hg=>Bl 7 [1,2] hg rfl rfl rfl cr (λT' hT=>⟨Mi (kv:=2) (g:=gr) (hT 1 (by simp)) (hT 2 (by simp)),trivial⟩) rfl rfl,trivial,?_⟩;refine⟨by kernel_rfl,?_⟩;refine⟨λq=>go 60 ?_,λq=>go 60 ?_⟩
 ·refine⟨λq2=>go 60 ?_,λq2=>go 60 ?_⟩
  ·exact⟨trivial,rfl,rfl,_,HTo.refl _,wdT x gr gf gb,rfl,rfl,Zq6,⟨.bool true,Wk.tt,rfl,rfl,rfl,x,s,gf,gb,hm,rfl⟩⟩
  have q2:x.refused=true:=by simpa using q2
  have hd:=Ana h q2;show CallThen _ _ _ _ _ _;refine Ax [3,4,5] (Pp x.c gf gb (by omega) (Hs f1)) rfl rfl Zq3 rfl rfl rfl ?_;rintro v T1 ⟨rfl,rfl⟩;refine⟨rfl,wdH (cls x (.int .i64 x.own) .ff) x.l gr x.c gf gb [],.tup [opsV (bareL x.c.flight),.bool x.c.sent],rfl,rfl,?_⟩;show CallThen _ _ _ _ _ _;refine Ax [3,4,5] (Adp x.c gf gb (by omega) (Hs f2)) rfl rfl Zq3 rfl rfl rfl ?_;rintro v T1 ⟨rfl,rfl⟩;refine⟨rfl,wdH (cls x (.int .i64 x.own) .ff) x.l gr x.c gf gb [],opsV (bareL x.c.buffer),rfl,rfl,?_⟩;show CallThen _ _ _ _ _ _;refine Ax [3,4,5] (Aez x.c gf gb hd.1 (by omega) (Hs f1) (Hs f2)) rfl rfl Zq3 rfl rfl rfl ?_;rintro v T1 ⟨rfl,rfl⟩;refine⟨rfl,wdH (cls x (.int .i64 x.own) .ff) x.l gr x.c.dropped (bump (bump gf)) (bump gb) [],.tup [opsV (bareL (x.c.flight++x.c.buffer)),.int .i64 0],rfl,rfl,?_⟩;show Goes _ _ _ _;refine Ac [(17,false),(22,false)] 60 ?_;refine⟨λ_=> ?_,λq=>absurd q (by decide)⟩;refine⟨by simp only[Arf,Bj];constructor<;>omega,?_⟩;refine⟨λ_=> ?_,λq=>absurd (of_decide_eq_false q) (by simp[bareL])⟩;refine⟨[3,4,5],nodeV x.c.base,_,λgs hg=>F0 (a0:=clB x.c.dropped 1 2 (bump (bump gf)) (bump gb)) (a1:=.vec (bump (bump gf)) 11 (x.c.dropped.flight.map opV)) (a2:=.vec (bump gb) 11 (x.c.dropped.buffer.map opV)) (b0:=clB x.c.dropped 1 2 (bump (bump gf)) (bump gb)) (b1:=.vec (bump (bump gf)) 11 (x.c.dropped.flight.map opV)) (b2:=.vec (bump gb) 11 (x.c.dropped.buffer.map opV)) 3 4 5 hg rfl rfl rfl rfl rfl rfl rfl rfl rfl (X8 x.c.dropped (bump (bump gf)) (bump gb) (by show x.c.base.weight≤1000000;omega)) rfl rfl (λ_=>rfl),trivial,?_⟩;refine⟨[3,4,5],nodeV x.c.base,_,λgs hg=>F0 (a0:=clB x.c.dropped 1 2 (bump (bump gf)) (bump gb)) (a1:=.vec (bump (bump gf)) 11 (x.c.dropped.flight.map opV)) (a2:=.vec (bump gb) 11 (x.c.dropped.buffer.map opV)) (b0:=clB x.c.dropped 1 2 (bump (bump gf)) (bump gb)) (b1:=.vec (bump (bump gf)) 11 (x.c.dropped.flight.map opV)) (b2:=.vec (bump gb) 11 (x.c.dropped.buffer.map opV)) 3 4 5 hg rfl rfl rfl rfl rfl rfl rfl rfl rfl (X9 x.c.dropped (bump (bump gf)) (bump gb) (by show x.c.base.weight≤1000000;omega)) rfl rfl (λ_=>rfl),trivial,?_⟩;refine⟨_,Adq (t:=x.c.base) (by omega),rfl,?_⟩;refine⟨by kernel_rfl,?_⟩;exact⟨trivial,rfl,rfl,_,HTo.wkCell (cs:=cls x (.int .i64 x.own) .ff) 0 6 rfl rfl rfl rfl Wk.ff,wdT {x with refused:=false,c:=x.c.dropped} gr (bump (bump gf)) (bump gb),rfl,rfl,Zq6,⟨.bool true,.refl _,rfl,rfl,rfl,_,s,_,_,hd.2,rfl⟩⟩
 have q: ¬x.c.seen=0+ (x.l.length:Int)-1:=by simpa using q
 have hi1:s+1<x.l.length:=by omega
 have rc:=Aj8 (l:=x.l) (i:=s) hi1;have cS:=Am1 0 x.l (by decide) ⟨by omega,by omega⟩ x.c.seen s (by omega) hlo (Yb h.win (by omega));rw[rc] at cS;obtain⟨M,hM⟩: ∃M,bareL (x.l.getD (s+1) ⟨zeroT0,[]⟩).made=M:=⟨_,rfl⟩;have hM':bareL (x.l.getD (s+1) rv0).made=M:=hM;rw[hM] at cS;generalize rowsL (x.l.drop (s+2))=rest at cS;show CallThen _ _ _ _ _ _;refine Ax [3,4,5] cs rfl rfl Zq3 rfl rfl rfl ?_;rintro v T1 ⟨rfl,rfl⟩;refine⟨rfl,wdH (cls x (.int .i64 x.own) (.bool x.refused)) x.l gr x.c gf gb [],.int .i64 x.c.seen,rfl,rfl,?_⟩;refine⟨by constructor<;>omega,?_⟩;show Goes _ _ _ _;refine Ac [(8,false),(9,false)] 60 ?_;refine⟨[3,4,5],.int .i64 x.c.seen,_,λgs hg=>F0 (a0:=clB x.c 1 2 gf gb) (a1:=.vec gf 11 (x.c.flight.map opV)) (a2:=.vec gb 11 (x.c.buffer.map opV)) (b0:=clB x.c 1 2 gf gb) (b1:=.vec gf 11 (x.c.flight.map opV)) (b2:=.vec gb 11 (x.c.buffer.map opV)) 3 4 5 hg rfl rfl rfl rfl rfl rfl rfl rfl rfl cs rfl rfl (λ_=>rfl),trivial,?_⟩;refine⟨[1,2],.tup [listsV (M::rest),.int .i64 0],[],λgs hg=>Bl 7 [1,2] hg rfl rfl rfl cS (λT' hT=>⟨Mi (kv:=2) (g:=gr) (hT 1 (by simp)) (hT 2 (by simp)),.wk rfl (.refl _) rfl,trivial⟩) rfl (Aey _),trivial,?_⟩;refine⟨by kernel_rfl,?_⟩;refine⟨λq=>absurd q (by decide),λ_=>go 60 ?_⟩;refine⟨λq=>absurd (of_decide_eq_true q) (by simp;omega),λ_=>go 60 ?_⟩;refine⟨λqo=>go 60 ?_,λqo=>go 60 ?_⟩
 ·have qo:x.own=(s:Int)+1:=by have:=of_decide_eq_true qo;omega
  have ha:=Ahv h hi1 qo;have a1:=ha.1;have a2:=ha.2.1;have a3:=ha.2.2.1;have a4:=ha.2.2.2;have mk:=(Yb h.win (by omega)) _ (J4 hi1);have cm:=Akw a2 mk.1 mk.2;rw[hM'] at cm;have ca:=Tc x.c gf gb (x.c.seen+1) (by omega) (by omega) f1 (by omega);obtain⟨⟨c2,e2⟩,hR⟩: ∃R,x.c.accepted (x.c.seen+1)=R:=⟨_,rfl⟩;rw[hR] at a3 a4 ca;simp only at a3 a4 ca;subst a3;show CallThen _ _ _ _ _ _;refine Ax [3,4,5] (Pp x.c gf gb (by omega) (Hs f1)) rfl rfl Zq3 rfl rfl rfl ?_;rintro v T1 ⟨rfl,rfl⟩;refine⟨rfl,wdH (cls x (.int .i64 0) (.bool x.refused)) x.l gr x.c gf gb [],.tup [opsV (bareL x.c.flight),.bool x.c.sent],rfl,rfl,?_⟩;refine⟨λ_=>go 60 ?_,λq=>absurd q (by rw[a1];decide)⟩;refine⟨Arr _,opsV M,rfl,?_⟩;show CallThen _ _ _ _ _ _;refine Aa cm rfl ?_;rintro z rfl;refine⟨λ_=>go 60 ?_,λq=>absurd q (by decide)⟩;show CallThen _ _ _ _ _ _;refine Ax [3,4,5] ca rfl rfl Zq3 rfl rfl rfl ?_;rintro v T1 ⟨rfl,rfl⟩;refine⟨rfl,wdH (cls x (.int .i64 0) (.bool x.refused)) x.l gr c2 (hgen (decide ((0:Int)=0)) gf) gb [],.int .i64 0,rfl,rfl,?_⟩;exact⟨trivial,rfl,rfl,_,HTo.refl _,wdT {x with own:=0,c:=c2} gr (hgen (decide ((0:Int)=0)) gf) gb,rfl,rfl,Zq6,⟨.bool true,.refl _,rfl,rfl,rfl,_,s+1,_,_,a4,rfl⟩⟩
 have qo:x.own≠(s:Int)+1:=by have:=of_decide_eq_false qo;omega
 have hh:=Anb h hk hi1 qo;rw[hM'] at hh;have hl:=hh.1;have h2:=hh.2;have hch:=(hck.hear hl (x.c.seen+1)).2;have hl1:=hl.len;have hl2:=hl.cost;have ch:=Aga x.c gf gb (x.c.seen+1) M (by omega) (by omega) hl.ok f1 f2 (by omega) (by omega);obtain⟨⟨c2,e2⟩,hR⟩: ∃R,x.c.hear (x.c.seen+1) M=R:=⟨_,rfl⟩;rw[hR] at h2 ch;simp only at h2 ch;have hres:(e2=0∨e2=3)∧ ∃(x':Wd) (s':Nat),x'.Inv s' (k+1)∧x'= {x with c:=c2}:=by
  rcases h2 with e| ⟨e,hI⟩
  ·have e1:c2=x.c:=congrArg Prod.fst e;have e3:e2=3:=congrArg Prod.snd e;exact⟨.inr e3,x,s,hm,by rw[e1]⟩
  ·exact⟨.inl e,_,_,hI,rfl⟩
 refine Exists.elim hres.2 λx' hx'=>Exists.elim hx' λs' hx'=> ?_;have hxI:=hx'.1;have hxe:=hx'.2;have hres:=hres.1;clear h2 hx';show Goes _ _ _ _;refine Ac [(8,false)] 60 ?_
 trace "A"
 refine⟨Arr _,opsV M,rfl,?_⟩
 trace "B"
 refine⟨[3,4,5],.int .i64 e2,_,λgs hg=>F0 (a0:=clB x.c 1 2 gf gb) (a1:=.vec gf 11 (x.c.flight.map opV)) (a2:=.vec gb 11 (x.c.buffer.map opV)) (b0:=clB c2 1 2 (hgen (decide (e2=0)) gf) (hgen (decide (e2=0)) gb)) (b1:=.vec (hgen (decide (e2=0)) gf) 11 (c2.flight.map opV)) (b2:=.vec (hgen (decide (e2=0)) gb) 11 (c2.buffer.map opV)) 3 4 5 hg rfl rfl rfl rfl rfl rfl rfl rfl rfl ch rfl rfl (λ_=>rfl),trivial,?_⟩
 trace "C"
 refine⟨by kernel_rfl,?_⟩;refine⟨λ_=>go 60 ?_,λq=>go 60 ?_⟩
 ·exact⟨trivial,rfl,rfl,_,HTo.refl _,wdT {x with c:=c2} gr (hgen (decide (e2=0)) gf) (hgen (decide (e2=0)) gb),rfl,rfl,Zq6,⟨.bool true,Wk.tt,rfl,rfl,rfl,x',s',_,_,hxI,by rw[hxe]⟩⟩
 ·have e3:decide (e2=3)=true:=by
   have:=of_decide_eq_false q;rw[decide_eq_true_eq];omega
  exact⟨trivial,rfl,rfl,_,HTo.refl _,wdT {x with c:=c2} gr (hgen (decide (e2=0)) gf) (hgen (decide (e2=0)) gb),rfl,rfl,Zq6,⟨.bool (decide (e2=3)),.refl _,rfl,rfl,by rw[e3],x',s',_,_,hxI,by rw[hxe]⟩⟩
theorem Ao6 (l:List OpT):Pure Tryz.prog 42 [opsV l] (λx=> ∃b:Bool,x=.bool b∧(b=true->LightL l 4 40)):=by
 have ff: ∃y,Wk .ff y∧y.pureB=true∧ ∃b:Bool,y=.bool b∧(b=true->LightL l 4 40):=⟨_,Wk.ff,rfl,false,rfl,λh=>by cases h⟩;refine Aj (Ad 60 Tryz.func42 rfl rfl rfl λB=> ?_);show CallThen _ _ _ _ _ _;refine Aa (Afb l 4 40 (by decide) (by decide)) rfl ?_;rintro x ⟨b,rfl,hb⟩;refine⟨λg=>go 60 ?_,λg=>go 60 ?_⟩
 ·exact⟨trivial,rfl,rfl,rfl,ff⟩
 have hl:=hb (by simpa using g);have hlen:=hl.len;show Goes _ _ _ _;refine Ak (ι:=Nat) (λi=>i≤l.length) (λi=>l.length-i) (λi=>[(3,.int .i64 i),(0,opsV l)]) (λ_=>[]) 0 60 (λ_=>rfl) (λ_=>rfl) ⟨Aq4 _,Zq2,trivial⟩ ?_;rintro i k1 next;refine⟨λhlt=>go 60 ?_,λhge=>go 60 ?_⟩
 ·have hi:i<l.length:=by simpa using hlt
  have hp:=(hl.ops _ (Arq hi)).1.pieces;have hx:(l.map opV)[i]?=some (opV l[i]):=by simp[hi]
  refine⟨Aq5 i,_,hx,?_⟩;show CallThen _ _ _ _ _ _;refine Aa (Apo l[i].pieces 100 (by omega) (by decide)) rfl ?_;rintro z ⟨s1,rfl⟩;refine⟨λg=>go 60 ?_,λg=>go 60 ?_⟩
  ·exact⟨trivial,rfl,rfl,rfl,ff⟩
  refine⟨by constructor<;>omega,?_⟩;show Goes _ _ _ _;exact next (i+1) _ _ ⟨hi,by omega,Zq2,trivial⟩
 ·exact⟨trivial,rfl,rfl,rfl,_,Wk.tt,rfl,true,rfl,λ_=>hl⟩
structure StepT where
 kind:Int
 n:Int
 l:List OpT
def stepV (c:StepT):V:=.agg [.int .u8 c.kind,.int .u8 c.n,.sl 11 (c.l.map opV)]
def stepsV (l:List StepT):V:=.sl 3 (l.map stepV)
def hF (n:Tree)(x:Wd)(gr gf gb:Nat)(r:Heap):Heap:=some (.box (nodeV n).cells)::some (.box (nodeV n).cells)::some (.vec gr 7 (x.l.map rvV))::some (winB x.l 2 gr)::some (.box (nodeV n).cells)::some (clB x.c 6 7 gf gb)::some (.vec gf 11 (x.c.flight.map opV))::some (.vec gb 11 (x.c.buffer.map opV))::some (.box (wdC x (.ptr (.loc 3) 0) (.ptr (.loc 5) 0)))::r
theorem Adr {x:Wd}{s k:Nat}(h:x.Inv s k)(hk:k≤31): ∃(M:Tree) (n1 n2:Nat),
  Pure Tryz.prog 16 [.iptr (winC 0 x.l) 0,.int .i64 x.c.seen] (λv=>v=.tup [nodeV x.c.base,.int .i64 0])∧
  Pure Tryz.prog 18 [nodeV x.c.base,opsV (bareL x.c.flight)] (λv=>v=AllV (M,n1,0))∧
  Pure Tryz.prog 18 [nodeV M,opsV (bareL x.c.buffer)] (λv=>v=AllV (x.c.tree,n2,0)):=by
 have hck:=h.ck;have hlen:=h.win.len;have hlo:=h.lo;have hs:=h.seen;have f1:=hck.flight;have f2:=hck.buffer;have f3:=hck.len;have f4:=hck.cost;have f5:=hck.base;have hwt:=wt30 (k:=k) (by omega);obtain⟨hb,M,c1,c2⟩:=h.good;have b1:=Dp x.c.flight;have b2:=Dp x.c.buffer;have c1:=Bs c1;have c2:=Bs c2;obtain⟨a1,a2⟩:=Fd hb c1;obtain⟨a3,a4⟩:=Fd (Gs hb c1) c2;have hwM:=Gq x.c.base (bareL x.c.flight);rw[a2] at hwM;have cA:=Aqs 0 x.l (by decide) ⟨by omega,by omega⟩ x.c.seen s (by omega) hlo (by have:=h.win.weight _ (J4 hlo);omega);have eb:(x.l.getD s ⟨zeroT0,[]⟩).tree=x.c.base:=h.base.symm;rw[eb] at cA;have q1:=Pz x.c.base (bareL x.c.flight) (by omega) (by rw[Bj];omega) λz hz=>(By f1 z hz).1;have q2:=Pz M (bareL x.c.buffer) (by omega) (by rw[Bj];omega) λz hz=>(By f2 z hz).1;exact⟨M,(AllR x.c.base (bareL x.c.flight)).2.1,(AllR M (bareL x.c.buffer)).2.1,cA,Pure.mono q1 λv hv=>hv.trans (congrArg AllV (Prod.ext a2 (Prod.ext rfl a1))),Pure.mono q2 λv hv=>hv.trans (congrArg AllV (Prod.ext a4 (Prod.ext rfl a3)))⟩
theorem Wt (n:Tree)(l:List StepT):
  Pure Tryz.prog 6 [nodeV n,stepsV l] (λx=>x=.bool true):=by
 have hw:=Akm;refine Aj (Ad 60 Tryz.func6 rfl rfl rfl λB=> ?_);show CallThen _ _ _ _ _ _;refine Aa (Anm n 100 (by decide)) rfl ?_;rintro z ⟨w,rfl,w1,w2,w3⟩;refine⟨λ_=>go 60 ?_,λga=>go 60 ?_⟩
 ·show CallThen _ _ _ _ _ _;refine Aa hw rfl ?_;rintro z rfl;exact⟨trivial,rfl,rfl,rfl,B8 rfl⟩
 have ga:(w:Int)≤100:=Ah ga;have hn:n.weight≤100:=by have:=w3 (by omega);omega
 refine⟨λ_=>go 60 ?_,λgl=>go 60 ?_⟩
 ·show CallThen _ _ _ _ _ _;refine Aa hw rfl ?_;rintro z rfl;exact⟨trivial,rfl,rfl,rfl,B8 rfl⟩
 have gl:l.length≤30:=by have:=Ah gl;simp only[Arf] at this;omega
 show Goes _ _ _ _;refine Ak (ι:=Nat) (λi=>i≤l.length∧ ∀c∈l.take i,LightL c.l 4 40) (λi=>l.length-i) (λi=>[(5,.int .i64 i),(2,.ptr (.loc 0) 0),(1,stepsV l)]) (λ_=>[some (.box (nodeV n).cells)]) 0 60 (λ_=>rfl) (λ_=>rfl) ⟨⟨Aq4 _,by simp⟩,Zq3,Zq1⟩ ?_;rintro i ⟨k1,k2⟩ next;refine⟨λhlt=>go 60 ?_,λhge=>go 60 ?_⟩
 ·have hi:i<l.length:=by simpa using hlt
  have hx:(l.map stepV)[i]?=some (stepV l[i]):=by simp[hi]
  refine⟨Aq5 i,_,hx,?_⟩;show CallThen _ _ _ _ _ _;refine Aa (Ao6 l[i].l) rfl ?_;rintro z ⟨b,rfl,hb⟩;refine⟨λg=>go 60 ?_,λg=>go 60 ?_⟩
  ·show CallThen _ _ _ _ _ _;refine Aa hw rfl ?_;rintro z rfl;exact⟨trivial,rfl,rfl,rfl,B8 rfl⟩
  have hb:=hb (by simpa using g);refine⟨by constructor<;>omega,?_⟩;show Goes _ _ _ _;refine next (i+1) _ _ ⟨⟨hi,λc hc=> ?_⟩,by omega,Zq3,Zq1⟩;rw[Ask hi] at hc
  rcases Asi.1 hc with hc|hc
  ·exact k2 c hc
  ·rw[Ar5.1 hc];exact hb
 have hLs: ∀c∈l,LightL c.l 4 40:=by
  have hi:i=l.length:=by have:l.length≤i:=(by simpa using hge);omega
  rw[hi,Asj] at k2;exact k2
 rcases(Asd (rightT n)).symm with hr|hr
 ·show CallThen _ _ _ _ _ _;refine Aa (Aj9 0 n (by decide) hr (by omega)) rfl ?_;rintro z rfl;have hm:mayE 0 0 n=60:=by
   unfold mayE;rw[hr];rfl
  have cb:=Aho 0 0 n (by rw[hm];decide) (by omega);rw[hm] at cb;show CallThen _ _ _ _ _ _;refine Ax [] cb rfl rfl trivial rfl rfl rfl ?_;rintro v T1 ⟨rfl,rfl⟩;refine⟨rfl,[some (.box (nodeV n).cells)],_,rfl,rfl,?_⟩;refine⟨λ_=>go 60 ?_,λq=>absurd q (by decide)⟩;show Goes _ _ _ _;refine Aeh 60 rfl rfl rfl rfl rfl ?_;refine Abk 60 rfl rfl rfl rfl rfl rfl rfl rfl ?_;show CallThen _ _ _ _ _ _;refine Aa hw rfl ?_;rintro z rfl;exact⟨trivial,rfl,rfl,rfl,B8 rfl⟩
 have hy:mayE 0 0 n=0:=by
  unfold mayE;rw[hr];rfl
 show CallThen _ _ _ _ _ _;refine Ax [] (Ap7 0 n (by decide) hr (by omega)) rfl rfl trivial rfl rfl rfl ?_;rintro v T1 ⟨rfl,rfl⟩;refine⟨rfl,[some (.box (nodeV n).cells),some (.box (nodeV n).cells),some (.vec 0 7 [.agg ((nodeV n).cells++ [.nilsl])]),some (.box [.int .i64 0,.osl (.loc 2) 0 0 1])],_,rfl,rfl,?_⟩;show CallThen _ _ _ _ _ _;refine Ax [] (Akg 0 0 n hy (by omega)) rfl rfl trivial rfl rfl rfl ?_;rintro v T1 ⟨rfl,rfl⟩;refine⟨rfl,[some (.box (nodeV n).cells),some (.box (nodeV n).cells),some (.vec 0 7 [.agg ((nodeV n).cells++ [.nilsl])]),some (.box [.int .i64 0,.osl (.loc 2) 0 0 1]),some (.box (nodeV n).cells),some (.box (clC (Cl.new 0 0 n) .nilsl .nilsl))],.tup [.ptr (.loc 5) 0,.int .i64 0],rfl,rfl,?_⟩;refine⟨λq=>absurd rfl (A7 q),λ_=>go 60 ?_⟩;refine⟨λq=>absurd rfl (A7 q),λ_=> ?_⟩;refine Agq 2 [rvV ⟨n,[]⟩] rfl ⟨⟨Aqt (t:=n) (m:=[]) rfl (Wk.nil 11),Ap6 ⟨n,[]⟩⟩,trivial⟩ ?_;refine C9 5 15 11 rfl rfl ?_;refine C9 5 16 11 rfl rfl ?_;refine go 60 ?_;show Goes {P:= Tryz.prog,nt:= Tryz.f6.ntmps,fn:= 6,ro:=none,imps:=[],X:=XR Tryz.prog [] Tryz.f6.results B λx T=>frz x T False λx' _=>x'.pureB=true∧ ∃y,Wk x' y∧y.pureB=true∧y=V.bool true,B:=B,D:=[]} _ _ _;refine Abl (hF n ⟨[⟨n,[]⟩],Cl.new 0 0 n,[],0,false,0,false⟩ 0 0 0 []) rfl (HTo.trans (HTo.wkCell (cs:=[.ptr (.loc 3) 0,.ptr (.loc 5) 0,.nilsl,.int .i64 0,.ff,.int .i64 0,.ff]) 8 2 rfl rfl rfl rfl (Wk.nil 11)) (HTo.trans (HTo.wkCell (cs:=[.ptr (.loc 3) 0,.ptr (.loc 5) 0,opsV [],.int .i64 0,.ff,.int .i64 0,.ff]) 8 4 rfl rfl rfl rfl Wk.ff) (HTo.wkCell (cs:=[.ptr (.loc 3) 0,.ptr (.loc 5) 0,opsV [],.int .i64 0,.bool false,.int .i64 0,.ff]) 8 6 rfl rfl rfl rfl Wk.ff))) ?_;refine Ak (ι:=Nat×Wd×Nat×Nat×Nat×Nat) (λi=>i.1≤l.length∧i.2.1.Inv i.2.2.1 i.1) (λi=>l.length-i.1) (λi=>[(11,.int .i64 i.1),(10,.ptr (.loc 8) 0),(8,.ptr (.loc 5) 0),(6,.ptr (.loc 3) 0),(1,stepsV l)])
  (λi=>hF n i.2.1 i.2.2.2.1 i.2.2.2.2.1 i.2.2.2.2.2 []) (0,⟨[⟨n,[]⟩],Cl.new 0 0 n,[],0,false,0,false⟩,0,0,0,0) 60 (λ_=>rfl) (λ_=>rfl)
  ⟨⟨Aq4 _,Ao8 hr hn hy⟩,Zq5,Zq9⟩ ?_
 clear next k1 k2 i hge;rintro⟨i,x,s,gr,gf,gb⟩ ⟨k1,k2⟩ next;refine⟨λhlt=>go 60 ?_,λhge=>go 60 ?_⟩
 rotate_left
 ·show CallThen _ _ _ _ _ _;refine Aa hw rfl ?_;rintro z rfl;exact⟨trivial,rfl,rfl,rfl,B8 rfl⟩
 have hi:i<l.length:=by simpa using hlt
 have hx:(l.map stepV)[i]?=some (stepV l[i]):=by simp[hi]
 have hL:=hLs _ (Arq hi);have hLc:=Aq0 hL;have k2:x.Inv s i:=k2;have hck:=k2.ck;show CallThen _ _ _ _ _ _;refine Ax [5,6,7] (Lx x.c gf gb) rfl rfl Zq3 rfl rfl rfl ?_;rintro v T1 ⟨rfl,rfl⟩;refine⟨rfl,hF n x gr gf gb [],.int .i64 x.c.seen,rfl,rfl,?_⟩;refine⟨Aq5 i,_,hx,?_⟩;show Goes {P:= Tryz.prog,nt:= Tryz.f6.ntmps,fn:= 6,ro:=none,imps:=[],X:=XR Tryz.prog [] Tryz.f6.results B λx T=>frz x T False λx' _=>x'.pureB=true∧ ∃y,Wk x' y∧y.pureB=true∧y=V.bool true,B:=B,D:=[]} _ _ _;refine Ait 1 rfl rfl rfl rfl rfl (by decide) ?_;refine Y0 (ι:=Wd×Nat×Nat×Nat×Nat) (λj=>j.1.Inv j.2.1 (i+1)) (λ_=>[(11,.int .i64 i),(10,.ptr (.loc 8) 0),(8,.ptr (.loc 5) 0),(6,.ptr (.loc 3) 0),(1,stepsV l)]) (λj=>hF n j.1 j.2.2.1 j.2.2.2.1 j.2.2.2.2 []) (λ_=>rfl) (λ_=>rfl) ?_ ?_
 ·clear k2 hck hL hLc hx;rintro⟨x,s,gr,gf,gb⟩ k2;have k2:x.Inv s (i+1):=k2;refine Exists.elim (Adr k2 (by omega)) λM h=>Exists.elim h λn1 h=>Exists.elim h λn2 h=> ?_;have c1:=h.1;have c2:=h.2.1;have c3:=h.2.2;clear h;have hck:=k2.ck;have f1:=hck.flight;have f2:=hck.buffer;have f3:=hck.len;have f5:=hck.base;have f6:=hck.tree;have hwt:=wt30 (k:=i+1) (by omega);refine go 60 ?_;show CallThen _ _ _ _ _ _;refine Ax [5,6,7] (Lx x.c gf gb) rfl rfl Zq3 rfl rfl rfl ?_;rintro v T1 ⟨rfl,rfl⟩;refine⟨rfl,hF n x gr gf gb [],.int .i64 x.c.seen,rfl,rfl,?_⟩;show CallThen _ _ _ _ _ _;refine Hf 7 c1 ⟨Mi (kv:=2) (g:=gr) rfl rfl,.wk rfl (.refl _) rfl,trivial⟩ rfl (by rintro _ rfl;exact Am5 _) ?_;rintro v rfl;show CallThen _ _ _ _ _ _;refine Ax [5,6,7] (Pp x.c gf gb (by omega) (Hs f1)) rfl rfl Zq3 rfl rfl rfl ?_;rintro v T1 ⟨rfl,rfl⟩;refine⟨rfl,hF n x gr gf gb [some (.box (nodeV x.c.base).cells)],.tup [opsV (bareL x.c.flight),.bool x.c.sent],rfl,rfl,?_⟩;show CallThen _ _ _ _ _ _;refine Ax [5,6,7] (X9 x.c gf gb (by omega)) rfl rfl Zq3 rfl rfl rfl ?_;rintro v T1 ⟨rfl,rfl⟩;refine⟨rfl,hF n x gr gf gb [some (.box (nodeV x.c.base).cells)],nodeV x.c.base,rfl,rfl,?_⟩;show CallThen _ _ _ _ _ _;refine Aa c2 rfl ?_;rintro v rfl;show Goes {P:= Tryz.prog,nt:= Tryz.f6.ntmps,fn:= 6,ro:=none,imps:=[],X:=XR Tryz.prog [] Tryz.f6.results B λx T=>frz x T False λx' _=>x'.pureB=true∧ ∃y,Wk x' y∧y.pureB=true∧y=V.bool true,B:=B,D:=[]} _ _ _;refine Ac [(2,false)] 60 ?_;refine⟨[5,6,7],opsV (bareL x.c.buffer),_,λgs hg=>F0 (a0:=clB x.c 1 2 gf gb) (a1:=.vec gf 11 (x.c.flight.map opV)) (a2:=.vec gb 11 (x.c.buffer.map opV)) (b0:=clB x.c 1 2 gf gb) (b1:=.vec gf 11 (x.c.flight.map opV)) (b2:=.vec gb 11 (x.c.buffer.map opV)) 5 6 7 hg rfl rfl rfl rfl rfl rfl rfl rfl rfl (Adp x.c gf gb (by omega) (Hs f2)) rfl rfl (λ_=>rfl),trivial,?_⟩;refine⟨_,c3,rfl,?_⟩;refine⟨by kernel_rfl,?_⟩;refine⟨by kernel_rfl,?_⟩;show Goes _ _ _ _;refine Ac [(5,false),(20,false)] 60 ?_;refine⟨λq=>absurd q (by decide),λ_=> ?_⟩;refine⟨[5,6,7],nodeV x.c.base,_,λgs hg=>F0 (a0:=clB x.c 1 2 gf gb) (a1:=.vec gf 11 (x.c.flight.map opV)) (a2:=.vec gb 11 (x.c.buffer.map opV)) (b0:=clB x.c 1 2 gf gb) (b1:=.vec gf 11 (x.c.flight.map opV)) (b2:=.vec gb 11 (x.c.buffer.map opV)) 5 6 7 hg rfl rfl rfl rfl rfl rfl rfl rfl rfl (X9 x.c gf gb (by omega)) rfl rfl (λ_=>rfl),trivial,?_⟩;refine⟨_,Adq (t:=x.c.base) (by omega),rfl,?_⟩;refine⟨λq=>absurd q (by decide),λ_=> ?_⟩;refine⟨λq=>absurd rfl (A7 q),λ_=> ?_⟩;refine⟨λq=>absurd rfl (A7 q),λ_=> ?_⟩;refine⟨[5,6,7],nodeV x.c.tree,_,λgs hg=>F0 (a0:=clB x.c 1 2 gf gb) (a1:=.vec gf 11 (x.c.flight.map opV)) (a2:=.vec gb 11 (x.c.buffer.map opV)) (b0:=clB x.c 1 2 gf gb) (b1:=.vec gf 11 (x.c.flight.map opV)) (b2:=.vec gb 11 (x.c.buffer.map opV)) 5 6 7 hg rfl rfl rfl rfl rfl rfl rfl rfl rfl (X8 x.c gf gb (by omega)) rfl rfl (λ_=>rfl),trivial,?_⟩;refine⟨_,Adq (t:=x.c.tree) (by omega),rfl,?_⟩;refine⟨by kernel_rfl,?_⟩;refine⟨λq=>absurd q (by decide),λ_=>go 60 ?_⟩;refine⟨by constructor<;>omega,?_⟩;show Goes _ _ _ _;exact next (i+1,x,s,gr,gf,gb) _ _ ⟨⟨hi,k2⟩,by simp only;omega,Zq5,Zq9⟩
 intro tail;refine go 60 ?_;have e1:=hLc.len;have e2:=hLc.cost;have e3:=hck.len;have e4:=hck.cost;have e5:=hck.seen;have e6:=hck.seq;have e7:=hck.base;have e8:=hck.tree;have hwt:=wt30 (k:=i) (by omega);refine⟨λh0=> ?_,λh0=>go 60 ?_⟩
 ·refine go 12 ?_;refine⟨Aq5 i,_,hx,?_⟩;refine Ax [5,6,7] (R5 x.c gf gb l[i].l (by omega) (by omega) hLc.ok (by omega)) rfl rfl Zq3 rfl rfl rfl ?_;rintro v T1 ⟨gb',rfl,rfl⟩;refine⟨rfl,hF n {x with c:=(x.c.edit l[i].l).1} gr gf gb' [],_,rfl,rfl,?_⟩;exact tail ({x with c:=(x.c.edit l[i].l).1},s,gr,gf,gb') _ _ ⟨Adn k2 hLc,Zq5,Zq9⟩
 refine⟨λh0=> ?_,λh0=>go 60 ?_⟩
 ·refine go 10 ?_;refine⟨Aq5 i,_,hx,?_⟩;refine Ax [5,6,7] (R5 x.c gf gb l[i].l (by omega) (by omega) hLc.ok (by omega)) rfl rfl Zq3 rfl rfl rfl ?_;rintro v T1 ⟨gb',rfl,rfl⟩;refine⟨rfl,hF n {x with c:=(x.c.edit l[i].l).1} gr gf gb' [],_,rfl,rfl,?_⟩;exact tail ({x with c:=(x.c.edit l[i].l).1},s,gr,gf,gb') _ _ ⟨Adn k2 hLc,Zq5,Zq9⟩
 refine⟨λh0=> ?_,λh0=>go 60 ?_⟩
 ·have hS:=Ahs k2;have cS:=Z9 x.c gf gb (by omega) (by omega) (Hs hck.buffer) hck.none;unfold Wd.sub at hS;obtain⟨⟨c2,r⟩,hR⟩: ∃R,x.c.submit=R:=⟨_,rfl⟩;rw[hR] at hS cS;cases r with
  |none=>
   refine go 60 ?_;refine Ax [5,6,7] cS rfl rfl Zq3 rfl rfl rfl ?_;rintro v T1 ⟨gf',gb',rfl,rfl⟩;refine⟨rfl,hF n {x with c:=c2} gr gf' gb' [],.tup [opsV [],.bool false],rfl,rfl,?_⟩;refine⟨λq=>absurd q (by decide),λ_=> ?_⟩;refine go 2 ?_;exact tail ({x with c:=c2},s,gr,gf',gb') _ _ ⟨hS,Zq5,Zq9⟩
  |some r=>
   refine go 60 ?_;refine Ax [5,6,7] cS rfl rfl Zq3 rfl rfl rfl ?_;rintro v T1 ⟨gf',gb',rfl,rfl⟩;refine⟨rfl,hF n {x with c:=c2} gr gf' gb' [],.tup [opsV r,.bool true],rfl,rfl,?_⟩;refine⟨λ_=> ?_,λq=>absurd q (by decide)⟩;refine go 24 ?_;refine Ax [5,6,7] (Lx c2 gf' gb') rfl rfl Zq3 rfl rfl rfl ?_;rintro v T1 ⟨rfl,rfl⟩;refine⟨rfl,hF n {x with c:=c2,list:=r} gr gf' gb' [],.int .i64 c2.seen,rfl,rfl,?_⟩;refine Abl (hF n {x with c:=c2,list:=r,base:=c2.seen,way:=true} gr gf' gb' []) rfl (HTo.wkCell (cs:=[.ptr (.loc 3) 0,.ptr (.loc 5) 0,opsV r,.int .i64 c2.seen,.tt,.int .i64 x.own,.bool x.refused]) 8 4 rfl rfl rfl rfl Wk.tt) ?_;exact tail ({x with c:=c2,list:=r,base:=c2.seen,way:=true},s,gr,gf',gb') _ _ ⟨hS,Zq5,Zq9⟩
 refine⟨λh0=> ?_,λh0=>go 60 ?_⟩
 ·have hA:=Aku k2.win (by omega) gr hLc.ok (by omega) (by omega)
  rcases Decidable.em ((AllR (lastT x.l) l[i].l).2.2=0) with q|q
  ·have hI:=Apa k2 hLc q;have hA:Fun Tryz.prog 13 (winT 0 gr x.l) [.ptr (.loc 0) 0,opsV l[i].l] (λv T'=>v=.int .i64 0∧T'=winT 0 (bump gr) (x.l++ [⟨(AllR (lastT x.l) l[i].l).1,bareL l[i].l⟩])):=Fun.mono hA λv T' hq=>by
    obtain⟨rfl,⟨e,rfl⟩| ⟨e,rfl⟩⟩:=hq
    ·exact⟨by rw[q],rfl⟩
    ·exact absurd q e
   generalize x.l++ [(⟨(AllR (lastT x.l) l[i].l).1,bareL l[i].l⟩:Rv)]=l2 at hA hI;refine go 10 ?_;refine⟨Aq5 i,_,hx,?_⟩;refine Ax [3,2] hA rfl rfl Zq2 rfl rfl rfl ?_;rintro v T1 ⟨rfl,rfl⟩;refine⟨rfl,hF n {x with l:=l2} (bump gr) gf gb [],_,rfl,rfl,?_⟩;exact tail ({x with l:=l2},s,bump gr,gf,gb) _ _ ⟨hI,Zq5,Zq9⟩
  ·have hA:Fun Tryz.prog 13 (winT 0 gr x.l) [.ptr (.loc 0) 0,opsV l[i].l] (λv T'=>v=.int .i64 (AllR (lastT x.l) l[i].l).2.2∧T'=winT 0 gr x.l):=Fun.mono hA λv T' hq=>by
    obtain⟨rfl,⟨e,rfl⟩| ⟨e,rfl⟩⟩:=hq
    ·exact absurd e q
    ·exact⟨rfl,rfl⟩
   refine go 10 ?_;refine⟨Aq5 i,_,hx,?_⟩;refine Ax [3,2] hA rfl rfl Zq2 rfl rfl rfl ?_;rintro v T1 ⟨rfl,rfl⟩;refine⟨rfl,hF n x gr gf gb [],_,rfl,rfl,?_⟩;exact tail (x,s,gr,gf,gb) _ _ ⟨k2.mono,Zq5,Zq9⟩
 refine⟨λh0=>go 60 ?_,λh0=>go 60 ?_⟩
 ·refine⟨Aq5 i,_,hx,?_⟩;show CallThen _ _ _ _ _ _;refine Ax [8,3,2,5,6,7] (Akv k2 (by omega) gr gf gb l[i].n) rfl rfl Zq6 rfl rfl rfl ?_;rintro v T1 ⟨rfl,x',gr',hI,_,rfl⟩;refine⟨rfl,hF n x' gr' gf gb [],.bool true,rfl,rfl,?_⟩;refine⟨λq=>absurd q (by decide),λ_=> ?_⟩;refine go 2 ?_;exact tail (x',s,gr',gf,gb) _ _ ⟨hI,Zq5,Zq9⟩
 have hlen:=k2.win.len;have hlo:=k2.lo;have cr:=Wn 0 x.l (by decide) ⟨by omega,by omega⟩;show CallThen _ _ _ _ _ _;refine Hf 7 cr ⟨Mi (kv:=2) (g:=gr) rfl rfl,trivial⟩ rfl (by rintro _ rfl;rfl) ?_;rintro v rfl;show CallThen _ _ _ _ _ _;refine Ax [8,3,2,5,6,7] (Apb k2 (by omega) gr gf gb) rfl rfl Zq6 rfl rfl rfl ?_;rintro v T1 ⟨rfl,x',s',gf',gb',hI,rfl⟩;refine⟨rfl,hF n x' gr gf' gb' [],.bool true,rfl,rfl,?_⟩;refine⟨λq=>absurd q (by decide),λ_=>go 60 ?_⟩;refine⟨λ_=>go 60 ?_,λ_=> ?_⟩
 ·show CallThen _ _ _ _ _ _;refine Ax [5,6,7] (Lx x'.c gf' gb') rfl rfl Zq3 rfl rfl rfl ?_;rintro v T1 ⟨rfl,rfl⟩;refine⟨rfl,hF n x' gr gf' gb' [],.int .i64 x'.c.seen,rfl,rfl,?_⟩;refine⟨λ_=>go 60 ?_,λ_=> ?_⟩
  ·show CallThen _ _ _ _ _ _;refine Aa hw rfl ?_;rintro z rfl;exact⟨trivial,rfl,rfl,rfl,B8 rfl⟩
  refine go 2 ?_;exact tail (x',s',gr,gf',gb') _ _ ⟨hI,Zq5,Zq9⟩
 refine go 9 ?_;exact tail (x',s',gr,gf',gb') _ _ ⟨hI,Zq5,Zq9⟩
theorem take1 {vs:List V}{c:V}(h:vs.take 1=[c]): ∃r,vs=c::r∧vs.drop 1=r:=by
 cases vs with
 |nil=>simp at h
 |cons x r=>simp at h;subst h;exact⟨r,rfl,rfl⟩
theorem Hq {α β:Type}{f:α->V}{g:β->V}: ∀ {xs:List α},(∀x∈xs,∃y,f x=g y)-> ∃ys:List β,xs.map f=ys.map g
 | [],_=>⟨[],rfl⟩
 |x::xs,h=>by
  obtain⟨y,hy⟩:=h x Ari;obtain⟨ys,hys⟩:=Hq (xs:=xs) λz hz=>h z (Are _ hz);exact⟨y::ys,by simp[hy,hys]⟩
theorem K0 {n:Nat}{vs:List V}(h:VT Tryz.prog n 9 vs): ∃s,vs=[.str s]:=by
 cases n with
 |zero=>exact h.elim
 |succ n=>
  obtain⟨s,e,_⟩: ∃s:List UInt8,vs=[.str s]∧s.length≤maxLen:=h;exact⟨s,e⟩
theorem X5 {n:Nat}{vs:List V}(h:VT Tryz.prog n 4 vs): ∃b,vs=[.bool b]:=by
 cases n with
 |zero=>exact h.elim
 |succ n=>exact h
theorem Wl {n:Nat}{vs:List V}(h:VT Tryz.prog n 3 vs): ∃i,vs=[.int .i64 i]∧(Lit.int .i64 i).wf=true:=by
 cases n with
 |zero=>exact h.elim
 |succ n=>exact h
theorem Aj1 {n:Nat}{vs:List V}(h:VT Tryz.prog n 22 vs): ∃i,vs=[.int .u64 i]:=by
 cases n with
 |zero=>exact h.elim
 |succ n=>
  obtain⟨s,e,_⟩: ∃s:Int,vs=[.int .u64 s]∧(Lit.int .u64 s).wf=true:=h;exact⟨s,e⟩
theorem Ahi {n:Nat}{vs:List V}(h:VT Tryz.prog n 5 vs): ∃i,vs=[.int .u8 i]:=by
 cases n with
 |zero=>exact h.elim
 |succ n=>
  obtain⟨s,e,_⟩: ∃s:Int,vs=[.int .u8 s]∧(Lit.int .u8 s).wf=true:=h;exact⟨s,e⟩
theorem Aou {n:Nat}{vs:List V}(h:VT Tryz.prog n 93 vs): ∃a,vs=(attrV a).cells:=by
 cases n with
 |zero=>exact h.elim
 |succ n=>
  obtain⟨h0,h1,h2⟩:VT Tryz.prog n 9 (vs.take 1)∧VT Tryz.prog n 9 ((vs.drop 1).take 1)∧(vs.drop 1).drop 1=[]:=h;obtain⟨a,e0⟩:=K0 h0;obtain⟨b,e1⟩:=K0 h1;obtain⟨r,rfl,d0⟩:=take1 e0;rw[d0] at e1 h2;obtain⟨r1,rfl,d1⟩:=take1 e1;rw[d1] at h2;subst h2;exact⟨(a,b),rfl⟩
theorem Amt {n:Nat}{vs:List V}(h:VT Tryz.prog n 23 vs): ∃l:List (List UInt8×List UInt8),vs=[.sl 2 (l.map attrV)]:=by
 cases n with
 |zero=>exact h.elim
 |succ n=>
  obtain⟨xs,e,_,hx⟩: ∃xs:List (List V),vs=[.sl 2 (xs.map (mkX Tryz.prog 93))]∧xs.length≤maxLen∧ ∀x∈xs,VT Tryz.prog n 93 x:=h;obtain⟨l,hl⟩:=Hq (f:=mkX Tryz.prog 93) (g:=attrV) (xs:=xs) λx hm=>by
   obtain⟨a,rfl⟩:=Aou (hx x hm);exact⟨a,rfl⟩
  exact⟨l,by rw[e,hl]⟩
theorem Aov: ∀(n:Nat) (vs:List V),VT Tryz.prog n 26 vs-> ∃t:Tree,vs=(nodeV t).cells:=by
 intro n
 induction n using Nat.strongRecOn with
 |_ n ih=>
  intro vs h;cases n with
  |zero=>exact h.elim
  |succ n=>
   obtain⟨h0,h1,h2,h3,h4,h5,h6⟩:VT Tryz.prog n 22 (vs.take 1)∧VT Tryz.prog n 4 ((vs.drop 1).take 1)∧VT Tryz.prog n 9 (((vs.drop 1).drop 1).take 1)∧VT Tryz.prog n 23 ((((vs.drop 1).drop 1).drop 1).take 1)∧
    VT Tryz.prog n 9 (((((vs.drop 1).drop 1).drop 1).drop 1).take 1)∧VT Tryz.prog n 24 ((((((vs.drop 1).drop 1).drop 1).drop 1).drop 1).take 1)∧(((((vs.drop 1).drop 1).drop 1).drop 1).drop 1).drop 1=[]:=h
   obtain⟨i,e0⟩:=Aj1 h0;obtain⟨l,e1⟩:=X5 h1;obtain⟨s,e2⟩:=K0 h2;obtain⟨a,e3⟩:=Amt h3;obtain⟨x,e4⟩:=K0 h4;obtain⟨r,rfl,d0⟩:=take1 e0;rw[d0] at e1 e2 e3 e4 h5 h6;obtain⟨r,rfl,d0⟩:=take1 e1;rw[d0] at e2 e3 e4 h5 h6;obtain⟨r,rfl,d0⟩:=take1 e2;rw[d0] at e3 e4 h5 h6;obtain⟨r,rfl,d0⟩:=take1 e3;rw[d0] at e4 h5 h6;obtain⟨r,rfl,d0⟩:=take1 e4;rw[d0] at h5 h6;cases n with
   |zero=>exact h5.elim
   |succ n=>
    obtain⟨xs,e5,_,hx⟩: ∃xs:List (List V),r.take 1=[.sl 6 (xs.map (mkX Tryz.prog 26))]∧xs.length≤maxLen∧ ∀x∈xs,VT Tryz.prog n 26 x:=h5;obtain⟨ts,hts⟩:=Hq (f:=mkX Tryz.prog 26) (g:=nodeV) (xs:=xs) λx hm=>by
     obtain⟨t,rfl⟩:=ih n (by omega) x (hx x hm);exact⟨t,rfl⟩
    obtain⟨r,rfl,d0⟩:=take1 e5;rw[d0] at h6;subst h6;refine⟨.mk i l s a x ts,?_⟩;rw[hts];simp only[nodeV,Tree.id,Tree.leaf,Tree.label,Tree.attrs,Tree.text,A2,Tree.subs,V.cells]
theorem Ac8 {w:World}{vs:List V}{cs:Array Value}(h:RowRep w β0 [] vs cs.toList):Rep w β0 [] (.agg vs) (.agg cs):=
 .agg vs cs (by simpa using h.1) λj c v hj hv=>h.2 j c v hj (by simpa using hv)
theorem Amu {H:Type}{enc:TypeId×Value->H}{w:World}{r:Reach}{base b0:Nat}{sp:Nat->Bool}{held:Bool}{v:Value}{d:DataW H}{p:List MemPlace}(ho:Value.okWide Tryz.prog w r b0 26 v)(h:DataW.Trod enc Tryz.prog w base sp held 26 v d p):
  ∃t:Tree,Rep w β0 [] (nodeV t) v:=by
 obtain⟨fuel,hf⟩:=h;obtain⟨cs,rfl,_,_⟩: ∃cs,v=.agg cs∧cs.size= Tryz.prog.cellsOf 26 ∧Row.okWide Tryz.prog w r b0 26 cs:=ho;obtain⟨vs,h1,_,h3⟩:=Yw (G:=[26, 24, 23, 93, 9, 22, 4]) (by kernel_rfl) fuel _ _ _ (by kernel_rfl) hf;obtain⟨t,rfl⟩:=Aov _ _ h3;exact⟨t,Ac8 h1⟩
theorem Af7 {n:Nat}{vs:List V}(h:VT Tryz.prog n 86 vs): ∃l:List Int,vs=[pathV l]∧l.length≤maxLen∧ ∀i∈l,(Lit.int .i64 i).wf=true:=by
 cases n with
 |zero=>exact h.elim
 |succ n=>
  obtain⟨xs,e,hl,hx⟩: ∃xs:List (List V),vs=[.sl 1 (xs.map (mkX Tryz.prog 3))]∧xs.length≤maxLen∧ ∀x∈xs,VT Tryz.prog n 3 x:=h;have key: ∀xs:List (List V),(∀x∈xs,VT Tryz.prog n 3 x)-> ∃l:List Int,xs.map (mkX Tryz.prog 3)=l.map intV∧ ∀i∈l,(Lit.int .i64 i).wf=true:=by
   intro xs
   induction xs with
   |nil=>intro _;exact⟨[],rfl,by simp⟩
   |cons x xs ih=>
    intro hx;obtain⟨i,rfl,hw⟩:=Wl (hx x Ari);obtain⟨l,e,hl⟩:=ih λz hz=>hx z (Are _ hz);refine⟨i::l,by simp only[Asa,e];rfl,λj hj=> ?_⟩
    rcases Arl.1 hj with rfl|hj
    ·exact hw
    ·exact hl j hj
  obtain⟨l,e1,e2⟩:=key xs hx;refine⟨l,by rw[e,e1];rfl,?_,e2⟩;have:=congrArg List.length e1;simp at this;omega
theorem Amv {n:Nat}{vs:List V}(h:VT Tryz.prog n 91 vs): ∃p,vs=(pieceV p).cells:=by
 cases n with
 |zero=>exact h.elim
 |succ n=>
  obtain⟨h0,h1,h2,h3⟩:VT Tryz.prog n 3 (vs.take 1)∧VT Tryz.prog n 3 ((vs.drop 1).take 1)∧VT Tryz.prog n 9 (((vs.drop 1).drop 1).take 1)∧((vs.drop 1).drop 1).drop 1=[]:=h;obtain⟨a,e0,_⟩:=Wl h0;obtain⟨b,e1,_⟩:=Wl h1;obtain⟨s,e2⟩:=K0 h2;obtain⟨r,rfl,d0⟩:=take1 e0;rw[d0] at e1 e2 h3;obtain⟨r1,rfl,d1⟩:=take1 e1;rw[d1] at e2 h3;obtain⟨r2,rfl,d2⟩:=take1 e2;rw[d2] at h3;subst h3;exact⟨⟨a,b,s⟩,rfl⟩
theorem Aj2 {n:Nat}{vs:List V}(h:VT Tryz.prog n 87 vs): ∃l:List PieceT,vs=[piecesV l]:=by
 cases n with
 |zero=>exact h.elim
 |succ n=>
  obtain⟨xs,e,_,hx⟩: ∃xs:List (List V),vs=[.sl 3 (xs.map (mkX Tryz.prog 91))]∧xs.length≤maxLen∧ ∀x∈xs,VT Tryz.prog n 91 x:=h;obtain⟨l,hl⟩:=Hq (f:=mkX Tryz.prog 91) (g:=pieceV) (xs:=xs) λx hm=>by
   obtain⟨a,rfl⟩:=Amv (hx x hm);exact⟨a,rfl⟩
  exact⟨l,by rw[e,hl];rfl⟩
theorem Aqr {n:Nat}{vs:List V}(h:VT Tryz.prog n 89 vs): ∃o,vs=(opV o).cells:=by
 cases n with
 |zero=>exact h.elim
 |succ n=>
  obtain⟨h0,h⟩:VT Tryz.prog n 5 (vs.take 1)∧_:=h;obtain⟨a0,e0⟩:=Ahi h0;obtain⟨r,rfl,d0⟩:=take1 e0;obtain⟨h1,h⟩:VT Tryz.prog n 86 (r.take 1)∧_:=h;obtain⟨a1,e1,_⟩:=Af7 h1;obtain⟨r,rfl,d0⟩:=take1 e1;obtain⟨h2,h⟩:VT Tryz.prog n 3 (r.take 1)∧_:=h;obtain⟨a2,e2,_⟩:=Wl h2;obtain⟨r,rfl,d0⟩:=take1 e2;obtain⟨h3,h⟩:VT Tryz.prog n 86 (r.take 1)∧_:=h;obtain⟨a3,e3,_⟩:=Af7 h3;obtain⟨r,rfl,d0⟩:=take1 e3;obtain⟨h4,h⟩:VT Tryz.prog n 22 (r.take 1)∧_:=h;obtain⟨a4,e4⟩:=Aj1 h4;obtain⟨r,rfl,d0⟩:=take1 e4;obtain⟨h5,h⟩:VT Tryz.prog n 4 (r.take 1)∧_:=h;obtain⟨a5,e5⟩:=X5 h5;obtain⟨r,rfl,d0⟩:=take1 e5;obtain⟨h6,h⟩:VT Tryz.prog n 9 (r.take 1)∧_:=h;obtain⟨a6,e6⟩:=K0 h6;obtain⟨r,rfl,d0⟩:=take1 e6;obtain⟨h7,h⟩:VT Tryz.prog n 9 (r.take 1)∧_:=h;obtain⟨a7,e7⟩:=K0 h7;obtain⟨r,rfl,d0⟩:=take1 e7;obtain⟨h8,h⟩:VT Tryz.prog n 9 (r.take 1)∧_:=h;obtain⟨a8,e8⟩:=K0 h8;obtain⟨r,rfl,d0⟩:=take1 e8;obtain⟨h9,h⟩:VT Tryz.prog n 4 (r.take 1)∧_:=h;obtain⟨a9,e9⟩:=X5 h9;obtain⟨r,rfl,d0⟩:=take1 e9;obtain⟨h10,h⟩:VT Tryz.prog n 87 (r.take 1)∧_:=h;obtain⟨a10,e10⟩:=Aj2 h10;obtain⟨r,rfl,d0⟩:=take1 e10;have h:r=[]:=h;subst h;exact⟨⟨a0,a1,a2,a3,a4,a5,a6,a7,a8,a9,a10⟩,rfl⟩
theorem Ap3 {n:Nat}{vs:List V}(h:VT Tryz.prog n 28 vs): ∃l:List OpT,vs=[.sl 11 (l.map opV)]∧l.length≤maxLen:=by
 cases n with
 |zero=>exact h.elim
 |succ n=>
  obtain⟨xs,e,hl,hx⟩: ∃xs:List (List V),vs=[.sl 11 (xs.map (mkX Tryz.prog 89))]∧xs.length≤maxLen∧ ∀x∈xs,VT Tryz.prog n 89 x:=h;obtain⟨l,e1⟩:=Hq (f:=mkX Tryz.prog 89) (g:=opV) (xs:=xs) λx hm=>by
   obtain⟨a,rfl⟩:=Aqr (hx x hm);exact⟨a,rfl⟩
  refine⟨l,by rw[e,e1],?_⟩;have:=congrArg List.length e1;simp at this;omega
end Bow
namespace Bow
open Go Go.Proofs
end Bow
namespace Bow
open Go Go.Proofs
theorem Aow {n:Nat}{vs:List V}(h:VT Tryz.prog n 79 vs): ∃c,vs=(stepV c).cells:=by
 cases n with
 |zero=>exact h.elim
 |succ n=>
  obtain⟨h0,h1,h2,h3⟩:VT Tryz.prog n 5 (vs.take 1)∧VT Tryz.prog n 5 ((vs.drop 1).take 1)∧VT Tryz.prog n 28 (((vs.drop 1).drop 1).take 1)∧((vs.drop 1).drop 1).drop 1=[]:=h;obtain⟨a,e0⟩:=Ahi h0;obtain⟨b,e1⟩:=Ahi h1;obtain⟨s,e2,_⟩:=Ap3 h2;obtain⟨r,rfl,d0⟩:=take1 e0;rw[d0] at e1 e2 h3;obtain⟨r1,rfl,d1⟩:=take1 e1;rw[d1] at e2 h3;obtain⟨r2,rfl,d2⟩:=take1 e2;rw[d2] at h3;subst h3;exact⟨⟨a,b,s⟩,rfl⟩
theorem Amw {n:Nat}{vs:List V}(h:VT Tryz.prog n 77 vs): ∃l:List StepT,vs=[stepsV l]:=by
 cases n with
 |zero=>exact h.elim
 |succ n=>
  obtain⟨xs,e,_,hx⟩: ∃xs:List (List V),vs=[.sl 3 (xs.map (mkX Tryz.prog 79))]∧xs.length≤maxLen∧ ∀x∈xs,VT Tryz.prog n 79 x:=h;obtain⟨l,e1⟩:=Hq (f:=mkX Tryz.prog 79) (g:=stepV) (xs:=xs) λx hm=>by
   obtain⟨a,rfl⟩:=Aow (hx x hm);exact⟨a,rfl⟩
  exact⟨l,by rw[e,e1];rfl⟩
theorem Aj3 {H:Type}{enc:TypeId×Value->H}{w:World}{r:Reach}{base b0:Nat}{sp:Nat->Bool}{held:Bool}{v:Value}{d:DataW H}{p:List MemPlace}(ho:Value.okWide Tryz.prog w r b0 77 v)(h:DataW.Trod enc Tryz.prog w base sp held 77 v d p):
  ∃l:List StepT,Rep w β0 [] (stepsV l) v:=by
 obtain⟨a,len,cap,rfl⟩:=WideShapes.okWide_slice Tryz.underlying77 ho;obtain⟨fuel,hf⟩:=h;obtain⟨vs,h1,_,h3⟩:=Yw (G:=[77, 79, 28, 89, 86, 87, 91, 3, 2, 9, 22, 5, 4]) (by kernel_rfl) fuel _ _ _ (by kernel_rfl) hf;obtain⟨l,rfl⟩:=Amw h3;exact⟨l,h1.2 0 _ _ rfl rfl⟩
end Bow
