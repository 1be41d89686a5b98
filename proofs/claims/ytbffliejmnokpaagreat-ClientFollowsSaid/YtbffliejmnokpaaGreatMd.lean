/- The library, part 4: SP13, SP14, SP21, SP22, W1, W2, W3, W4, W5, W6, W7, W8, W9, W10, W11, W12, W13, W14, W15, W16, W17, W18, W19, W20, W21, W22, W23, WB1, W24, W25, W26, SP9, W27, W30a, W31, W32, W33, W34, WB2, W35, W36, W37, W38, SP15, SP16, W39, SP17. -/
import Derived.Test.YtbffliejmnokpaaGreatMc
import Derived.Test.YtbffliejmnokpaaGreatRows
import Derived.KernelRfl
import Derived.Shelf.Strings.BuilderK
import Derived.Test.YtbffliejmnokpaaGreatProg
import Derived.BigCall
import Derived.Lib.Bytealg
set_option maxRecDepth 100000
set_option maxHeartbeats 4000000
namespace Bow
open Go
abbrev AttrL:=List (List UInt8×List UInt8)
def Tree.withAttrs:Tree->AttrL->Tree
 | .mk i l b _ c ss,a=>.mk i l b a c ss
def setAT (o:OpT)(y:Tree):Tree:=y.withAttrs (setA o y.attrs)
def applyT (t:Tree)(o:OpT):Tree:=
 bif decide (o.kind=1) then changeT (insT o.at_ (freshT o)) t o.path
 else bif decide (o.kind=2) then withoutT t o.path
 else bif decide (o.kind=3) then(match atT t o.path with|some x=>moveT x t o|none=>t)
 else bif decide (o.kind=4) then changeT (setAT o) t o.path
 else bif decide (o.kind=5) then changeT (relabelT o.label) t o.path
 else changeT (retextT o.pieces) t o.path
def applyR (t:Tree)(o:OpT):Tree×Int:=bif decide (ValidE t o=0) then(applyT t o,0) else(.mk 0 false [] [] [] [],ValidE t o)
theorem Aiw {t s:Tree}{i:Int}(ht:t.rightA=true)(h:subT t i=some s):s.rightA=true:=by
 rw[It,Aq6,Ke] at ht;exact Ati.1 ht.2 s (A1 h).2.2
theorem Dg {y:Tree}: ∀ {p:List Int} {t:Tree},t.rightA=true->atT t p=some y->y.rightA=true
 | [],t,ht,h=>by
  rw[atT] at h;injection h with h
  subst h;exact ht
 |i::p,t,ht,h=>by
  rw[atT] at h;cases hs:subT t i with
  |none=>rw[hs] at h;cases h
  |some s=>
   rw[hs] at h;exact Dg (p:=p) (Aiw ht hs) h
theorem Fk {y:Tree}(h:y.rightA=true):attrsOk none y.attrs=true:=by
 rw[It,Aq6] at h;have:=h.1;unfold rightN at this;rw[Aq6] at this;exact this.2
inductive GoodO (t:Tree)(o:OpT):Prop
 |ins (y) (hk:o.kind=1) (hy:atT t o.path=some y) (hl:y.leaf=false) (h0:0≤o.at_) (h1:o.at_≤y.subs.length) (h2:o.label.length≤64):GoodO t o
 |del (x) (hk:o.kind=2) (hne:o.path≠[]) (hx:atT t o.path=some x):GoodO t o
 |mov (x z) (hk:o.kind=3) (hne:o.path≠[]) (hx:atT t o.path=some x) (hw:within o.path o.to=false) (hz:atT t o.to=some z) (hl:z.leaf=false) (h0:0≤o.at_) (h1:o.at_≤z.subs.length):GoodO t o
 |att (y) (hk:o.kind=4) (hy:atT t o.path=some y) (h1:keyOk o.key=true) (h2:o.gone=true∨o.value.length≤256):GoodO t o
 |lab (y) (hk:o.kind=5) (hy:atT t o.path=some y) (h2:o.label.length≤64):GoodO t o
 |edt (y) (hk:o.kind=6) (hy:atT t o.path=some y) (hl:y.leaf=true) (he:(applyE y.text o.pieces).2=0):GoodO t o
theorem Y4 {y:Tree}{n:Int}(h:intoE y n=0):y.leaf=false∧n≤y.subs.length:=by
 unfold intoE at h;cases hl:y.leaf with
 |true=>rw[hl] at h;cases h
 |false=>
  rw[hl] at h
  by_cases hn:(y.subs.length:Int)<n
  ·rw[decide_eq_true hn] at h;cases h
  ·exact⟨rfl,by omega⟩
theorem An {t:Tree}{o:OpT}(h:ValidE t o=0):rightT t=true∧formedB o=true∧validE t o=0:=by
 unfold ValidE at h;cases hr:rightT t with
 |false=>rw[hr] at h;cases h
 |true=>
  cases hf:formedB o with
  |false=>rw[hr,hf] at h;cases h
  |true=>rw[hr,hf] at h;exact⟨rfl,rfl,h⟩
theorem Bc {o:OpT}(h:formedB o=true):mayP o.path=true:=by
 unfold formedB at h;rw[Aq6] at h;exact h.1
theorem El {p:List Int}(h:mayP p=true): ∀i∈p,0≤i∧i≤1048576:=by
 unfold mayP at h;rw[Aq6] at h;intro i hi;have:=Ati.1 h.2 i hi;unfold stepOk at this;simp only[Aq6,decide_eq_true_eq] at this;omega
theorem Ju {t:Tree}{o:OpT}(h:ValidE t o=0):GoodO t o:=by
 obtain⟨hr,hf,hv⟩:=An h;have hk:o.kind=1∨o.kind=2∨o.kind=3∨o.kind=4∨o.kind=5∨o.kind=6:=by
  unfold formedB at hf;rw[Aq6] at hf;have h2:=hf.2
  by_cases e1:o.kind=1<;>by_cases e2:o.kind=2<;>by_cases e3:o.kind=3<;>by_cases e4:o.kind=4<;>by_cases e5:o.kind=5<;>by_cases e6:o.kind=6<;>simp_all
 unfold validE at hv;unfold formedB at hf;rw[Aq6] at hf;have hf2:=hf.2
 by_cases hroot:(decide (o.kind=2)||decide (o.kind=3))&&decide (o.path=[])
 ·rw[hroot] at hv;cases hv
 ·have hroot:((decide (o.kind=2)||decide (o.kind=3))&&decide (o.path=[]))=false:=by simpa using hroot
  rw[hroot] at hv;simp only[cond_false] at hv;cases hx:atT t o.path with
  |none=>rw[hx] at hv;cases hv
  |some x=>
  rw[hx] at hv;simp only at hv
  rcases hk with hk|hk|hk|hk|hk|hk
  ·simp only[hk] at hv hf2;obtain⟨h1,h2⟩:=Y4 hv;have hf3:(gapOk o.at_&&decide ((o.label.length:Int)≤64))=true:=hf2;unfold gapOk at hf3;simp only[Aq6,decide_eq_true_eq] at hf3;exact .ins x hk hx h1 hf3.1.1 h2 (by omega)
  ·have hne:o.path≠[]:=by
    intro e;rw[hk,e] at hroot;cases hroot
   exact .del x hk hne hx
  ·have hne:o.path≠[]:=by
    intro e;rw[hk,e] at hroot;cases hroot
   simp only[hk] at hv hf2;have hv:(bif within o.path o.to then(84:Int) else match atT t o.to with|none=>81|some y=>intoE y o.at_)=0:=hv;have hf3:(gapOk o.at_&&mayP o.to)=true:=hf2;unfold gapOk at hf3;simp only[Aq6,decide_eq_true_eq] at hf3;cases hw:within o.path o.to with
   |true=>rw[hw] at hv;cases hv
   |false=>
    rw[hw] at hv;cases hz:atT t o.to with
    |none=>rw[hz] at hv;cases hv
    |some z=>
     rw[hz] at hv;obtain⟨h1,h2⟩:=Y4 hv;exact .mov x z hk hne hx hw hz h1 hf3.1.1 h2
  ·simp only[hk] at hf2;have hf3:(keyOk o.key&& (o.gone||decide ((o.value.length:Int)≤256)))=true:=hf2;simp only[Aq6,At0,decide_eq_true_eq] at hf3;exact .att x hk hx hf3.1 (hf3.2.imp id λh=>by omega)
  ·simp only[hk] at hf2;have hf3:decide ((o.label.length:Int)≤64)=true:=hf2;simp only[decide_eq_true_eq] at hf3;exact .lab x hk hx (by omega)
  ·simp only[hk] at hv;have hv:(bif !x.leaf then(83:Int) else(applyE x.text o.pieces).2)=0:=hv;cases hl:x.leaf with
   |false=>rw[hl] at hv;cases hv
   |true=>rw[hl] at hv;exact .edt x hk hx hl hv
theorem Iq {o:OpT}(hf:formedB o=true)(hk:o.kind=3):mayP o.to=true:=by
 unfold formedB at hf;rw[Aq6] at hf;have hf2:=hf.2;simp only[hk] at hf2;have hf3:(gapOk o.at_&&mayP o.to)=true:=hf2;rw[Aq6] at hf3;exact hf3.2
theorem Nu {s u:Tree}: ∀ {l:List Tree} {i:Nat},l[i]?=some s->weights (l.set i u)+s.weight=weights l+u.weight
 | [],i,h=>by simp at h
 |x::l,0,h=>by
  simp at h;subst h;rw[Au6,weights,weights];omega
 |x::l,i+1,h=>by
  simp at h;have:=Nu (u:=u) (l:=l) h;rw[Atb,weights,weights];omega
theorem Dh {F:Tree->Tree}{y:Tree}: ∀ {p:List Int} {t:Tree},atT t p=some y->(changeT F t p).weight+y.weight=t.weight+ (F y).weight
 | [],t,h=>by
  rw[atT] at h;injection h with h
  subst h;rw[changeT];omega
 |i::p,t,h=>by
  rw[atT] at h;cases hs:subT t i with
  |none=>rw[hs] at h;cases h
  |some s=>
   rw[hs] at h;have ih:=Dh (F:=F) (p:=p) h;rw[changeT,hs];simp only;have h1:=Nu (u:=changeT F s p) (A1 hs).2.1;have h2:=Dv t (t.subs.set i.toNat (changeT F s p));omega
theorem Aav {y x:Tree}{i:Int}(h:y.subs[i.toNat]?=some x):(delT i y).weight+x.weight=y.weight:=by
 have h1:=Dv y (y.subs.take i.toNat++y.subs.drop (i.toNat+1));have h2:weights (y.subs.take i.toNat++y.subs.drop (i.toNat+1))+x.weight=weights y.subs:=by
  have hl:=Ab h
  conv=>rhs;rw[←Ar4 i.toNat y.subs]
  rw[Dk,Dk,Aru hl,weights];have:y.subs[i.toNat]=x:=by rw[Aq3 hl] at h;injection h
  rw[this];omega
 unfold delT;omega
theorem Nv {t x:Tree}{p:List Int}(hne:p≠[])(hx:atT t p=some x):(withoutT t p).weight+x.weight=t.weight:=by
 obtain⟨y,y1,y2,y3,y4⟩:=F6 hne hx;rw[Dc hne] at y4;have h1:=Dh (F:=delT (lastP p)) y1;have h2:=Aav y4;unfold withoutT;omega
def costO (o:OpT):Nat:=2+o.label.length+o.key.length+o.value.length+putsLen o.pieces
theorem Hj: ∀a b:AttrL,attrLen (a++b)=attrLen a+attrLen b
 | [],b=>by simp[attrLen]
 |x::a,b=>by
  have:=Hj a b;rw[Arx,I9,I9];omega
theorem Aek (o:OpT)(y:Tree):(setAT o y).weight≤y.weight+ (1+o.key.length+o.value.length):=by
 have h1:(setA o y.attrs).length+attrLen (setA o y.attrs)≤y.attrs.length+attrLen y.attrs+ (1+o.key.length+o.value.length):=by
  unfold setA;rw[Hj,Hj];have e:attrLen y.attrs=attrLen (y.attrs.take (posK o.key y.attrs))+attrLen (y.attrs.drop (posK o.key y.attrs)):=by rw[←Hj,Ar4]
  have e2:attrLen (y.attrs.drop (posK o.key y.attrs+ (bif hasK o.key y.attrs then 1 else 0)))≤attrLen (y.attrs.drop (posK o.key y.attrs)):=by
   rw[←Aud];cases hasK o.key y.attrs with
   |false=>simp
   |true=>
    cases y.attrs.drop (posK o.key y.attrs) with
    |nil=>simp
    |cons a l=>rw[I9];simp only[cond_true,Au0,Atz];omega
  have e3:(midA o).length+attrLen (midA o)≤1+o.key.length+o.value.length:=by
   unfold midA;cases o.gone<;>simp[attrLen];omega
  simp only[Arb,Ar1,Asf];omega
 have w1:=Bt y;have w2:=Bt (setAT o y);have:(setAT o y).label=y.label∧(setAT o y).text=y.text∧(setAT o y).attrs=setA o y.attrs∧(setAT o y).subs=y.subs:=by cases y;exact⟨rfl,rfl,rfl,rfl⟩
 obtain⟨q1,q2,q3,q4⟩:=this;rw[q1,q2,q3,q4] at w2;omega
theorem Xr (s:List UInt8)(y:Tree):(relabelT s y).weight≤y.weight+s.length:=by
 have w1:=Bt y;have w2:=Bt (relabelT s y);have:(relabelT s y).label=s∧(relabelT s y).text=y.text∧(relabelT s y).attrs=y.attrs∧(relabelT s y).subs=y.subs:=by cases y;exact⟨rfl,rfl,rfl,rfl⟩
 obtain⟨q1,q2,q3,q4⟩:=this;rw[q1,q2,q3,q4] at w2;omega
theorem Aaw (t:List UInt8)(l:List PieceT):(applyE t l).1.length≤t.length+putsLen l:=by
 unfold applyE;cases hr:rightP l with
 |false=>simp
 |true=>
  obtain⟨r1,r2,r3⟩:=Kx hr
  by_cases h:(t.length:Int)<extentP l
  ·rw[decide_eq_true h];simp
  ·rw[decide_eq_false h];exact Zn r2 (by omega)
theorem Aax (l:List PieceT)(y:Tree):(retextT l y).weight≤y.weight+putsLen l:=by
 have w1:=Bt y;have w2:=Bt (retextT l y);have:(retextT l y).label=y.label∧(retextT l y).text=(applyE y.text l).1∧(retextT l y).attrs=y.attrs∧(retextT l y).subs=y.subs:=by cases y;exact⟨rfl,rfl,rfl,rfl⟩
 obtain⟨q1,q2,q3,q4⟩:=this;rw[q1,q2,q3,q4] at w2;have:=Aaw y.text l;omega
theorem Abq (o:OpT):(freshT o).weight=1+o.label.length:=by
 have:=Bt (freshT o);have e:(freshT o).label=o.label∧(freshT o).text=[]∧(freshT o).attrs=[]∧(freshT o).subs=[]:=⟨rfl,rfl,rfl,rfl⟩;obtain⟨q1,q2,q3,q4⟩:=e;rw[q1,q2,q3,q4] at this;simp[attrLen,weights] at this;omega
theorem K5 {t:Tree}{o:OpT}(h:ValidE t o=0):(applyT t o).weight≤t.weight+costO o:=by
 unfold costO;cases Ju h with
 |ins y hk hy hl h0 h1 h2=>
  have e:applyT t o=changeT (insT o.at_ (freshT o)) t o.path:=by unfold applyT;rw[hk];rfl
  have:=Dh (F:=insT o.at_ (freshT o)) hy;have:=Ou o.at_ (freshT o) y;have:=Abq o;rw[e];omega
 |del x hk hne hx=>
  have e:applyT t o=withoutT t o.path:=by unfold applyT;rw[hk];rfl
  have:=Nv hne hx;rw[e];omega
 |mov x z hk hne hx hw hz hl h0 h1=>
  have e:applyT t o=moveT x t o:=by unfold applyT;rw[hk,hx];rfl
  have:=Nv hne hx;have:=Hx (F:=insT (landT o.path.dropLast (lastP o.path) o.to o.at_).2 x) (n:=x.weight) (Ou _ x) (landT o.path.dropLast (lastP o.path) o.to o.at_).1 (withoutT t o.path);rw[e,Abp];omega
 |att y hk hy h1 h2=>
  have e:applyT t o=changeT (setAT o) t o.path:=by unfold applyT;rw[hk];rfl
  have:=Dh (F:=setAT o) hy;have:=Aek o y;rw[e];omega
 |lab y hk hy h2=>
  have e:applyT t o=changeT (relabelT o.label) t o.path:=by unfold applyT;rw[hk];rfl
  have:=Dh (F:=relabelT o.label) hy;have:=Xr o.label y;rw[e];omega
 |edt y hk hy hl he=>
  have e:applyT t o=changeT (retextT o.pieces) t o.path:=by unfold applyT;rw[hk];rfl
  have:=Dh (F:=retextT o.pieces) hy;have:=Aax o.pieces y;rw[e];omega
def movesO (o:OpT):Bool:=formedB o&& (bif decide (o.kind=1) then true else bif decide (o.kind=2) then decide (0<o.path.length) else bif decide (o.kind=3) then decide (0<o.path.length)&& !within o.path o.to else false)
structure Chg where
 takes:Bool
 puts:Bool
 frm:List Int
 to:List Int
 at_:Int
 gap:Int
def chgO (o:OpT):Chg:=⟨!decide (o.kind=1), !decide (o.kind=2),bif decide (o.kind=1) then [] else o.path.dropLast,bif decide (o.kind=1) then o.path else o.to,bif decide (o.kind=1) then 0 else lastP o.path,o.at_⟩
def Chg.number (c:Chg)(p:List Int)(k:Int):Int:=
 (bif c.takes&& (decide (c.at_<k)&&decide (p=c.frm)) then k-1 else k)+ (bif c.puts&& (decide (c.gap≤k)&&decide (p=c.to)) then 1 else 0)
def Chg.land (c:Chg):Int:=bif decide (c.at_<c.gap)&&decide (c.frm=c.to) then c.gap-1 else c.gap
def Chg.nums (c:Chg):List Int->List Int->List Int
 |_,[]=>[]
 |q,k::p=>c.number q k::Chg.nums c (q++ [k]) p
def nodeP (o:OpT)(p:List Int):Option (List Int):=
 bif !movesO o then some p
 else bif(chgO o).takes&&within o.path p then(bif !(chgO o).puts then none else some ((chgO o).nums [] o.to++ [(chgO o).land]++p.drop o.path.length))
 else some ((chgO o).nums [] p)
def gapP (o:OpT)(p:List Int)(at_:Int)(first:Bool):List Int×Int×Bool:=
 match nodeP o p with
 |none=>([],0,false)
 |some q=>bif !movesO o then(q,at_,true)
  else(q,(bif(chgO o).takes&& (decide ((chgO o).at_<at_)&&decide (p=(chgO o).frm)) then at_-1 else at_)+ (bif(chgO o).puts&& (decide (p=(chgO o).to)&& (decide ((chgO o).gap<at_)|| (decide (at_=(chgO o).gap)&& !first))) then 1 else 0),true)
def undoO (o:OpT):OpT:=
 bif decide (o.kind=3)&&movesO o then {noOp 3 with path:=(nodeP o o.path).getD [],to:=(nodeP o (chgO o).frm).getD [],at_:=(chgO o).at_+ (bif decide ((chgO o).frm=(chgO o).to)&&decide ((chgO o).land< (chgO o).at_) then 1 else 0)} else noOp 0
def soundO (o:OpT):Bool:=formedB o&& (bif decide (o.kind=2) then decide (0<o.path.length) else bif decide (o.kind=3) then decide (0<o.path.length)&& !within o.path o.to else true)
def dropO (p:List Int):OpT:= {noOp 2 with path:=p}
def shiftedO (b a:OpT)(prior:Bool):OpT:=
 bif decide (b.kind=1) then {b with at_:=(gapP a b.path b.at_ prior).2.1,path:=(nodeP a b.path).getD []}
 else bif decide (b.kind=3) then {b with to:=(gapP a b.to b.at_ prior).1,at_:=(gapP a b.to b.at_ prior).2.1,path:=(nodeP a b.path).getD []}
 else {b with path:=(nodeP a b.path).getD []}
def wonO (b a:OpT):Bool:=(decide (a.kind=b.kind)&&decide (a.path=b.path))&& (decide (b.kind=3)|| (decide (b.kind=5)|| (decide (b.kind=4)&&decide (a.key=b.key))))
def bothEdit (b a:OpT):Bool:=decide (a.kind=6)&& (decide (b.kind=6)&&decide (a.path=b.path))
def rowO (b a:OpT)(prior:Bool):List OpT:=
  bif decide (a.kind=2) then
    (bif within a.path b.path then []
     else bif decide (b.kind=3)&&within a.path b.to then [dropO ((nodeP a b.path).getD [])]
     else [shiftedO b a prior])
  else bif wonO b a then(bif prior then [shiftedO b a prior] else [])
  else bif !decide (a.kind=3) then [shiftedO b a prior]
  else bif decide (b.kind=2) then
    (bif within b.path a.path&& (!decide (b.path=a.path)&& !within b.path a.to) then
      [dropO ((nodeP a a.path).getD []),dropO ((nodeP (dropO ((nodeP a a.path).getD [])) ((nodeP a b.path).getD [])).getD [])]
     else [shiftedO b a prior])
  else bif decide (b.kind=3)&& (within b.path a.to&&within a.path b.to) then(bif prior then [undoO a,b] else [])
  else [shiftedO b a prior]
def behindO (b a:OpT)(prior:Bool):List OpT×Int:=
 bif !soundO a|| !soundO b then([],80)
 else bif(rowO b a prior).all formedB then((rowO b a prior).map bareO,0) else([],3)
structure Mk where
 l:List PieceT
 keep:Int
def Mk.nil:Mk:=⟨[],0⟩
def modL (f:PieceT->PieceT):List PieceT->List PieceT
 | []=>[]
 | [p]=>[f p]
 |p::q::r=>p::modL f (q::r)
def Mk.last (m:Mk):Mk:=bif decide (0<m.keep)||m.l.isEmpty then⟨m.l++ [⟨m.keep,0,[]⟩],0⟩ else m
def Mk.put (s:List UInt8)(m:Mk):Mk:=bif s.isEmpty then m else⟨modL (λp=> {p with put:=p.put++s}) m.last.l,m.last.keep⟩
def Mk.drop (n:Int)(m:Mk):Mk:=bif decide (0<n) then⟨modL (λp=> {p with drop:=p.drop+n}) m.last.l,m.last.keep⟩ else m
def Mk.kept (n:Int)(m:Mk):Mk:=⟨m.l,m.keep+n⟩
def Mk.piece (m:Mk)(p:PieceT):Mk:=((m.kept p.keep).put p.put).drop p.drop
def normP (l:List PieceT):List PieceT:=(l.foldl Mk.piece Mk.nil).l
def rowHas:List PieceT->Bool
 | []=>false
 |p::_=> !(decide (0<p.keep)||p.put.isEmpty)
def rowPut:List PieceT->List UInt8×List PieceT
 | []=>([],[])
 |p::r=>bif decide (0<p.keep)||p.put.isEmpty then([],p::r) else(p.put, {p with put:=[]}::r)
def rowRun:List PieceT->(Int×Bool×Bool)×List PieceT
 | []=>((0,false,false),[])
 |p::r=>bif decide (0<p.keep) then((p.keep,false,true),p::r) else bif decide (0<p.drop) then((p.drop,true,true),p::r) else rowRun r
def rowTake (n:Int):List PieceT->List PieceT
 | []=>[]
 |p::r=>bif decide (0<p.keep) then {p with keep:=p.keep-n}::r else {p with drop:=p.drop-n}::r
def bothR (a b:List PieceT):(Int×Bool×Bool×Bool)×List PieceT×List PieceT:=
 match rowRun a,rowRun b with
 | ((n,x,any),a'),((m,y,more),b')=>
  bif !any&& !more then((0,false,false,false),a',b')
  else match bif !any then m else bif more then min n m else n with
   |k=>((k,x,y,true),rowTake k a',rowTake k b')
structure Tr where
 p:List PieceT
 q:List PieceT
 x:Mk
 y:Mk
def Tr.puts (prior:Bool)(s:Tr):Tr:=
 match rowPut s.p,rowPut s.q with
 | (a,p),(b,q)=>bif prior then⟨p,q,(s.x.put a).kept b.length,(s.y.kept a.length).put b⟩ else⟨p,q,(s.x.kept b.length).put a,(s.y.put b).kept a.length⟩
def Tr.does (s:Tr)(n:Int)(x y:Bool):Tr:=
 bif x then(bif y then s else {s with x:=s.x.drop n}) else bif y then {s with y:=s.y.drop n} else {s with x:=s.x.kept n,y:=s.y.kept n}
def Tr.go (prior:Bool):Nat->Tr->Tr
 |0,s=>s
 |f+1,s=>match s.puts prior with
  | ⟨p,q,x,y⟩=>match bothR p q with
   | ((n,d,g,any),p',q')=>bif any then Tr.go prior f (Tr.does ⟨p',q',x,y⟩ n d g) else⟨p',q',x,y⟩
def extN:List PieceT->Nat
 | []=>0
 |p::l=>p.keep.toNat+p.drop.toNat+extN l
def transP (a b:List PieceT)(prior:Bool):List PieceT×List PieceT×Int:=
 bif !rightP a|| !rightP b then([],[],2)
 else match Tr.go prior (extN (normP a)+extN (normP b)+1) ⟨normP a,normP b,Mk.nil,Mk.nil⟩ with
  | ⟨_,_,x,y⟩=>bif !rightP x.l|| !rightP y.l then([],[],3) else(x.l,y.l,0)
structure PieceT.Nn (p:PieceT):Prop where
 k:0≤p.keep
 d:0≤p.drop
def PieceT.w (p:PieceT):Int:=p.keep+p.drop+p.put.length+1
def sumW:List PieceT->Int
 | []=>0
 |p::l=>p.w+sumW l
def Mk.w (m:Mk):Int:=m.keep+sumW m.l
structure Mk.Ok (m:Mk):Prop where
 k:0≤m.keep
 l: ∀p∈m.l,p.Nn
theorem Mk.nil_ok:Mk.nil.Ok:=⟨by decide,by simp[Mk.nil]⟩
theorem Nb (a b:List PieceT):sumW (a++b)=sumW a+sumW b:=by
 induction a with
 |nil=>simp[sumW]
 |cons p a ih=>simp only[Arx,sumW,ih];omega
theorem PieceT.Nn.w_pos {p:PieceT}(h:p.Nn):1≤p.w:=by
 have:=h.k;have:=h.d;unfold PieceT.w;omega
theorem Da: ∀ {l:List PieceT},(∀p∈l,p.Nn)->(l.length:Int)≤sumW l
 | [],_=>by simp[sumW]
 |p::l,h=>by
  have h1:=(h p Ari).w_pos;have h2:=Da λq hq=>h q (Are _ hq);simp only[Aq8,sumW];omega
theorem Ic: ∀ {l:List PieceT},(∀p∈l,p.Nn)-> ∀p∈l,p.w≤sumW l
 | [],_,p,hp=>by cases hp
 |q::l,h,p,hp=>by
  have h1:=(h q Ari).w_pos;have h3:=Da λq hq=>h q (Are _ hq);simp only[sumW]
  rcases Arl.1 hp with rfl|hp
  ·omega
  ·have h2:=Ic (λq hq=>h q (Are _ hq)) p hp;omega
theorem Afl {f:PieceT->PieceT}: ∀ {l:List PieceT},l≠[]->modL f l≠[]
 | [],h=>absurd rfl h
 | [p],_=>by simp[modL]
 |p::q::r,_=>by simp[modL]
theorem Tz (f:PieceT->PieceT): ∀l:List PieceT,(modL f l).length=l.length
 | []=>rfl
 | [p]=>rfl
 |p::q::r=>by rw[modL,Aq8,Tz f (q::r)];rfl
theorem Abv (f:PieceT->PieceT): ∀(l:List PieceT) (h:l.length-1<l.length),modL f l=l.set (l.length-1) (f l[l.length-1])
 | [],h=>by simp at h
 | [p],_=>rfl
 |p::q::r,_=>by
  rw[modL,Abv f (q::r) (by simp)];simp
theorem Xu {f:PieceT->PieceT}(hf: ∀p,p.Nn->(f p).Nn): ∀ {l:List PieceT},(∀p∈l,p.Nn)-> ∀p∈modL f l,p.Nn
 | [],_,p,hp=>by cases hp
 | [q],h,p,hp=>by
  rw[modL,Ar5] at hp;exact hp▸hf q (h q Ari)
 |q::q'::r,h,p,hp=>by
  rw[modL] at hp
  rcases Arl.1 hp with rfl|hp
  ·exact h _ Ari
  ·exact Xu hf (λz hz=>h z (Are _ hz)) p hp
theorem Abw {f:PieceT->PieceT}{k:Int}(hf: ∀p:PieceT,(f p).w=p.w+k): ∀ {l:List PieceT},l≠[]->sumW (modL f l)=sumW l+k
 | [],h=>absurd rfl h
 | [p],_=>by simp only[modL,sumW,hf];omega
 |p::q::r,_=>by
  have ih:=Abw hf (l:=q::r) (by simp);rw[modL,sumW,ih,sumW];simp only[sumW];omega
theorem Mk.last_ne (m:Mk):m.last.l≠[]:=by
 unfold Mk.last;cases h:decide (0<m.keep)||m.l.isEmpty with
 |true=>simp
 |false=>
  intro e;rw[cond_false] at e;rw[e] at h;simp at h
theorem Mk.last_ok {m:Mk}(h:m.Ok):m.last.Ok∧m.last.w≤m.w+1:=by
 unfold Mk.last;cases decide (0<m.keep)||m.l.isEmpty with
 |true=>
  refine⟨⟨Arr 0,λp hp=> ?_⟩,?_⟩
  ·rcases Asi.1 hp with hp|hp
   ·exact h.l p hp
   ·rw[Ar5] at hp;exact hp▸ ⟨h.k,Arr _⟩
  ·show(0:Int)+sumW (m.l++ [_])≤_;rw[Nb];simp only[sumW,PieceT.w,Mk.w,Arc];omega
 |false=>exact⟨h,by rw[cond_false];omega⟩
theorem Mk.put_ok {m:Mk}{s:List UInt8}(h:m.Ok):(m.put s).Ok∧(m.put s).w≤m.w+s.length+1:=by
 unfold Mk.put;cases hs:s.isEmpty with
 |true=>exact⟨h,by rw[cond_true];omega⟩
 |false=>
  obtain⟨h1,h2⟩:=Mk.last_ok h;refine⟨⟨h1.k,Xu (f:=λp=> {p with put:=p.put++s}) (λp hp=>⟨hp.k,hp.d⟩) h1.l⟩,?_⟩;have:=Abw (f:=λp=> {p with put:=p.put++s}) (k:=s.length) (λp=>by simp[PieceT.w];omega) m.last_ne;unfold Mk.w at h2 ⊢;simp only[cond_false];omega
theorem Mk.drop_ok {m:Mk}{n:Int}(h:m.Ok)(hn:0≤n):(m.drop n).Ok∧(m.drop n).w≤m.w+n+1:=by
 unfold Mk.drop;cases hs:decide (0<n) with
 |false=>exact⟨h,by rw[cond_false];omega⟩
 |true=>
  obtain⟨h1,h2⟩:=Mk.last_ok h;refine⟨⟨h1.k,Xu (f:=λp=> {p with drop:=p.drop+n}) (λp hp=>⟨hp.k,by have:=hp.d;show 0≤p.drop+n;omega⟩) h1.l⟩,?_⟩;have:=Abw (f:=λp=> {p with drop:=p.drop+n}) (k:=n) (λp=>by simp[PieceT.w];omega) m.last_ne;unfold Mk.w at h2 ⊢;simp only[cond_true];omega
theorem Mk.kept_ok {m:Mk}{n:Int}(h:m.Ok)(hn:0≤n):(m.kept n).Ok∧(m.kept n).w=m.w+n:=by
 refine⟨⟨by have:=h.k;show 0≤m.keep+n;omega,h.l⟩,?_⟩;unfold Mk.w Mk.kept;simp only;omega
theorem Mk.piece_ok {m:Mk}{p:PieceT}(h:m.Ok)(hp:p.Nn):(m.piece p).Ok∧(m.piece p).w≤m.w+p.w+1:=by
 obtain⟨a1,a2⟩:=Mk.kept_ok h hp.k;obtain⟨b1,b2⟩:=Mk.put_ok (s:=p.put) a1;obtain⟨c1,c2⟩:=Mk.drop_ok b1 hp.d;refine⟨c1,?_⟩;unfold PieceT.w Mk.piece;omega
theorem T4: ∀ {l:List PieceT} {m:Mk},m.Ok->(∀p∈l,p.Nn)->(l.foldl Mk.piece m).Ok∧(l.foldl Mk.piece m).w≤m.w+2*sumW l
 | [],m,h,_=>⟨h,by simp[sumW]⟩
 |p::l,m,h,hl=>by
  have hp:=hl p Ari;obtain⟨h1,h2⟩:=Mk.piece_ok h hp;obtain⟨k1,k2⟩:=T4 (l:=l) h1 λq hq=>hl q (Are _ hq);refine⟨k1,?_⟩;have:=hp.w_pos;simp only[Au2,sumW];omega
theorem Ch {l:List PieceT}(h:rightP l=true):(∀p∈l,p.Nn)∧sumW l≤20000000000:=by
 unfold rightP at h;rw[Aq6,decide_eq_true_eq] at h;obtain⟨h1,h2⟩:=h;have key: ∀(l:List PieceT) (n:Nat),rightGo n l=true->(∀p∈l,p.Nn)∧sumW l≤3200000*l.length:=by
  intro l
  induction l with
  |nil=>intro n _;exact⟨by simp,by simp[sumW]⟩
  |cons p l ih=>
   intro n h;rw[rightGo] at h;simp only[Aq6,decide_eq_true_eq] at h;obtain⟨⟨⟨⟨⟨q1,q2⟩,q3⟩,q4⟩,q5⟩,q6⟩:=h;obtain⟨i1,i2⟩:=ih _ q6;refine⟨λz hz=> ?_,?_⟩
   ·rcases Arl.1 hz with rfl|hz
    ·exact⟨q1,q3⟩
    ·exact i1 z hz
   ·simp only[sumW,PieceT.w,Aq8];omega
 obtain⟨k1,k2⟩:=key l 0 h2;exact⟨k1,by omega⟩
theorem Xv {l:List PieceT}(h:rightP l=true):(∀p∈normP l,p.Nn)∧sumW (normP l)≤40000000000:=by
 obtain⟨h1,h2⟩:=Ch h;obtain⟨k1,k2⟩:=T4 (l:=l) Mk.nil_ok h1;have:=k1.k;have e:Mk.nil.w=0:=rfl;unfold Mk.w at k2;unfold Mk.w at e;exact⟨k1.l,by unfold normP;omega⟩
end Bow
namespace Bow
open Go Go.Proofs
theorem Ap4 (t:Tree): ∀(d:Int) (m:List Nat) (r kl:Nat) (T T':Heap) (b:Bool),0≤d->d+t.size≤1000000000->Rounds Tryz.prog kl ((t.pre d).map preV) T T' b->m[kl]?=some r->
  FunB Tryz.prog 114 m T [nodeV t,.int .i64 d,.yld (.abs r)] (λx T''=>x=(if b then .tt else .ff)∧T''=T'):=by
 induction t using Tree.ind with
 |_ t ih=>
  intro d m r kl T T' b hd0 hd hR hr;refine L5 100 Tryz.func114 rfl rfl rfl λB hout=> ?_;show Goes _ _ _ _;rw[Aj4] at hR;have hlp: ∃ob,T[kl]?=some (some ob)∧isLoop ob:=by cases hR<;>assumption
  obtain⟨T1,b1,hy,hk⟩: ∃T1 b1,YieldOk Tryz.prog T kl (preV (d,t)) b1 T1∧((b1=true∧Rounds Tryz.prog kl ((pres (d+1) t.subs).map preV) T1 T' b)∨(b1=false∧T'=T1∧b=false)):=by
   cases hR with
   |go hl h k=>exact⟨_,_,h,.inl ⟨rfl,k⟩⟩
   |stop hl h=>exact⟨_,_,h,.inr ⟨rfl,rfl,rfl⟩⟩
  refine Uy 100 rfl rfl rfl rfl rfl hout hr hlp rfl hy ?_;intro B' hout' hB'
  rcases hk with⟨rfl,hk⟩| ⟨rfl,rfl,rfl⟩
  ·show Goes _ _ _ _;refine Uz (ι:=Nat×Heap) (λi B1=>i.1≤t.subs.length∧Rounds Tryz.prog kl ((pres (d+1) (t.subs.drop i.1)).map preV) i.2 T' b∧Out m i.2 B1∧ ∀q,q∉m->B1 q=B q) (λi=>t.subs.length-i.1)
    (λi=>[(17,.int .i64 i.1),(16,.int .i64 t.subV.length),(15,.sl 6 t.subV),(1,.int .i64 d),(2,.yld (.abs r))]) (λ_=>[]) (0,T1) 100 (λ_=>rfl) (λ_=>rfl) ⟨?_,?_,?_⟩ ?_
   ·exact⟨Aq4 _,hk,hout',hB'⟩
   ·exact Zq5
   ·trivial
   ·rintro⟨i,Ti⟩ B1 ⟨h1,h2,h3,h4⟩ next;refine⟨λhlt=>go 200 ?_,λhge=>go 200 ?_⟩
    ·have hi:i<t.subs.length:=by simpa[A2] using hlt
     have hpre:(pres (d+1) (t.subs.drop i)).map preV=((t.subs[i]).pre (d+1)).map preV++ (pres (d+1) (t.subs.drop (i+1))).map preV:=by
      rw[Bi hi,pres,Asr]
     rw[hpre] at h2;obtain⟨T2,b2,k1,k2⟩:=h2.cut;have hmem:t.subs[i]∈t.subs:=Arq hi;have hsz:=Tree.size_sub hmem;refine⟨Aq5 i,nodeV t.subs[i],by simp[A2,hi],?_⟩;refine⟨by constructor<;>omega,?_⟩;show CallThen _ _ _ _ _ _;refine Yq (ih _ hmem (d+1) m r kl Ti T2 b2 (by omega) (by omega) k1 hr) rfl h3 rfl ?_;rintro x T3 B3 ⟨rfl,rfl⟩ _ hout3 hB3
     rcases k2 with⟨rfl,k2⟩| ⟨rfl,rfl,rfl⟩
     ·have:=size_eq t;have:=Ra t.subs;refine⟨by constructor<;>omega,?_⟩;show Goes _ _ _ _;refine next (i+1,T3) B3 _ _ ⟨⟨?_,?_,?_,?_⟩,?_,?_,?_⟩
      ·simp only;omega
      ·exact k2
      ·exact hout3
      ·exact λq hq=>(hB3 q hq).trans (h4 q hq)
      ·simp only;omega
      ·exact Zq5
      ·trivial
     ·exact⟨trivial,rfl,λq hq=>(hB3 q hq).trans (h4 q hq),_,hout3,rfl,rfl,rfl⟩
    ·have hi:t.subs.length≤i:=by simpa[A2] using hge
     rw[Aro hi] at h2;cases h2;exact⟨trivial,rfl,h4,Ti,h3,rfl,rfl,rfl⟩
  ·exact⟨trivial,rfl,hB',_,hout',rfl,rfl,rfl⟩
theorem Ap5 (t:Tree)(h:t.size≤1000000000):Iter Tryz.prog 113 [] [.iptr (nodeV t).cells 0] ((t.pre 0).map preV):=by
 intro m r kl T T' b hR hr;refine L5 100 Tryz.func113 rfl rfl rfl λB hout=> ?_;show CallThen _ _ _ _ _ _;refine Yq (Ap4 t 0 m r kl T T' b (by omega) (by omega) hR hr) rfl hout rfl ?_;rintro x T3 B3 ⟨rfl,rfl⟩ _ hout3 hB3;exact⟨trivial,rfl,hB3,_,hout3,rfl,rfl⟩
theorem Aox (t:Tree):Pure Tryz.prog 81 [nodeV t] (λx=>x=.fn (.func 113) [] [.iptr (nodeV t).cells 0]):=by
 refine Sj [0] 100 Tryz.func81 rfl rfl rfl λB=> ?_;exact⟨trivial,rfl,rfl,rfl,rfl,rfl⟩
theorem Adv {l:List (List UInt8×List UInt8)}{i:Nat}(h:i<l.length):attrLen (l.drop i)=l[i].1.length+l[i].2.length+attrLen (l.drop (i+1)):=by rw[Bi h,I9]
end Bow
namespace Bow
open Go Go.Proofs
end Bow
namespace Bow
open Go Go.Proofs
theorem Ah {a b:Int}(h:decide (a<b)=false):b≤a:=by simpa using h
theorem Au {a b:Int}(h:decide (a<b)=true):a<b:=by simpa using h
theorem Lr {a b:Int}(h:decide (a≤b)=true):a≤b:=by simpa using h
theorem I2 {a b:Int}(h:decide (a≤b)=false):b<a:=by simpa using h
theorem Aw {a b:Int}(h:decide (a=b)=true):a=b:=by simpa using h
theorem Bg {a b:Int}(h:decide (a=b)=false):a≠b:=by simpa using h
theorem A7 {a b:Int}(h:(!decide (a=b))=true):a≠b:=by simpa using h
theorem Bk {a b:Int}(h:(!decide (a=b))=false):a=b:=by simpa using h
theorem Anm (t:Tree): ∀top:Nat,top≤1000000->Pure Tryz.prog 8 [nodeV t,.int .i64 top] (λx=> ∃w:Nat,x=.int .i64 w∧1≤w∧w≤4*top+4∧(w≤top->t.weight≤w)):=by
 induction t using Tree.ind with
 |_ t ih=>
  intro top htop;have hw:=Bt t;refine Ad 200 Tryz.func8 rfl rfl rfl λB=> ?_;have early: ∃w:Nat,V.int .i64 ((top:Int)+1)=.int .i64 w∧1≤w∧w≤4*top+4∧(w≤top->t.weight≤w):=⟨top+1,rfl,by omega,by omega,λh=>by omega⟩;have hin:inI ((top:Int)+1):=by constructor<;>omega
  refine⟨λg1=>go 200 ?_,λg1=>go 200 ?_⟩
  ·exact⟨hin,trivial,rfl,rfl,rfl,early⟩
  refine⟨λg2=>go 200 ?_,λg2=>go 200 ?_⟩
  ·exact⟨hin,trivial,rfl,rfl,rfl,early⟩
  refine⟨λg3=>go 200 ?_,λg3=>go 200 ?_⟩
  ·exact⟨hin,trivial,rfl,rfl,rfl,early⟩
  have g1:=Ah g1;have g2:=Ah g2;have g3:=Ah g3;simp only[Arf] at g3;refine⟨by constructor<;>omega,by constructor<;>omega,?_⟩;show Goes _ _ _ _;refine Hd (ι:=Nat×Nat) (λi=>i.1≤t.attrs.length∧1≤i.2∧i.2≤3*top+1∧(i.2≤top->1+t.label.length+t.text.length+ (t.attrs.length+attrLen t.attrs)≤i.2+ (t.attrs.length-i.1)+attrLen (t.attrs.drop i.1))) (λi=>t.attrs.length-i.1)
   (λi=>[(6,.int .i64 i.1),(5,.int .i64 i.2),(1,.int .i64 top),(2,.ptr (.loc 0) 0)]) (λi=>[some (.box (nodeV t).cells)]) (0,1+t.label.length+t.text.length)
   (λw:Nat=>1≤w∧w≤3*top+1∧(w≤top->1+t.label.length+t.text.length+ (t.attrs.length+attrLen t.attrs)≤w)) (λw=>[(5,.int .i64 w),(1,.int .i64 top),(2,.ptr (.loc 0) 0)]) (λ_=>[some (.box (nodeV t).cells)])
   200 (λ_=>rfl) (λ_=>rfl) (λ_=>rfl) (λ_=>rfl) ⟨?_,?_,?_⟩ ?_ ?_
  ·exact⟨Aq4 _,by simp only;omega,by simp only;omega,λ_=>by simp only[Atz];omega⟩
  ·exact⟨⟨rfl,rfl⟩,⟨by simp only[lk];rfl,rfl⟩,⟨rfl,rfl⟩,⟨rfl,rfl⟩,trivial⟩
  ·exact Zq1
  ·
   rintro w0 ⟨q1,q2,q3⟩;show Goes _ _ _ _;refine Ak (ι:=Nat×Nat) (λi=>i.1≤t.subs.length∧i.1+1≤i.2∧i.2≤4*top+4∧(i.2≤top->t.weight≤i.2+weights (t.subs.drop i.1))) (λi=>t.subs.length-i.1)
    (λi=>[(7,.int .i64 i.1),(5,.int .i64 i.2),(1,.int .i64 top),(2,.ptr (.loc 0) 0)]) (λi=>[some (.box (nodeV t).cells)]) (0,w0) 200 (λ_=>rfl) (λ_=>rfl) ⟨?_,?_,?_⟩ ?_
   ·exact⟨Aq4 _,by simpa using q1,by simp only;omega,λh=>by simp only[Atz];simp only at h;have:=q3 h;omega⟩
   ·exact Zq4
   ·exact Zq1
   ·rintro⟨i,w⟩ ⟨k1,k2,k3,k4⟩ next;simp only at k1 k2 k3 k4;refine⟨λhlt=>go 200 ?_,λhge=>go 200 ?_⟩
    ·have hi:i<t.subs.length:=by simpa[A2] using hlt
     have hmem:t.subs[i]∈t.subs:=Arq hi;have hx:t.subV[i]?=some (nodeV t.subs[i]):=by simp[A2,hi]
     refine⟨λh5=>go 200 ?_,λh5=>go 200 ?_⟩
     ·have h5:(w:Int)≤top:=Lr h5;have h5':w≤top:=by omega
      rw[Bi hi,Qf] at k4;refine⟨Aq5 i,nodeV t.subs[i],hx,?_⟩;refine⟨by constructor<;>omega,?_⟩;show CallThen _ _ _ _ _ _;have hsub:(top:Int)-w=((top-w:Nat):Int):=by omega
      rw[hsub];refine Aa (ih _ hmem (top-w) (by omega)) rfl ?_;rintro x ⟨v,rfl,v0,v1,v2⟩;refine⟨by constructor<;>omega,?_⟩;refine⟨by constructor<;>omega,?_⟩;show Goes _ _ _ _;refine next (i+1,w+v) _ _ ⟨⟨hi,by simp only;omega,by simp only;omega,λh=> ?_⟩,?_,?_,?_⟩
      ·have h:w+v≤top:=h;have:=v2 (by omega);have:=k4 h5';simp only;omega
      ·simp only;omega
      ·exact Zq4
      ·exact Zq1
     ·have h5: ¬ (w:Int)≤top:=by simpa using h5
      exact⟨trivial,rfl,rfl,rfl,w,rfl,by omega,k3,λh=>by omega⟩
    ·have hi:t.subs.length≤i:=by simpa[A2] using hge
     rw[Aro hi,weights,As1] at k4;exact⟨trivial,rfl,rfl,rfl,w,rfl,by omega,k3,k4⟩
  ·rintro⟨i,w⟩ ⟨k1,k2,k3,k4⟩ next leave;simp only at k1 k2 k3 k4;refine⟨λhlt=>go 200 ?_,λhge=>go 200 ?_⟩
   ·have hi:i<t.attrs.length:=by simpa using hlt
    have hix:(t.attrs.map attrV)[i]?=some (attrV t.attrs[i]):=by simp[hi]
    refine⟨λh5=>go 200 ?_,λh5=>go 200 ?_⟩
    ·have h5:=Lr h5;rw[Adv hi] at k4;refine⟨Aq5 i,attrV t.attrs[i],hix,?_⟩;refine⟨λh6=>go 200 ?_,λh6=>go 200 ?_⟩
     ·exact⟨hin,trivial,rfl,rfl,rfl,early⟩
     refine⟨Aq5 i,attrV t.attrs[i],hix,?_⟩;refine⟨λh7=>go 200 ?_,λh7=>go 200 ?_⟩
     ·exact⟨hin,trivial,rfl,rfl,rfl,early⟩
     have h6:=Ah h6;have h7:=Ah h7;show Goes _ _ _ _;refine Ac [] 300 ?_;refine⟨by constructor<;>omega,?_⟩;refine⟨Aq5 i,attrV t.attrs[i],hix,?_⟩;refine⟨by constructor<;>omega,?_⟩;refine⟨Aq5 i,attrV t.attrs[i],hix,?_⟩;refine⟨by constructor<;>omega,?_⟩;refine⟨by kernel_rfl,?_⟩;refine⟨by constructor<;>omega,?_⟩;show Goes _ _ _ _;refine next (i+1,w+1+t.attrs[i].1.length+t.attrs[i].2.length) _ _ ⟨⟨hi,?_,?_,?_⟩,?_,?_,?_⟩
     ·simp only;omega
     ·simp only;omega
     ·simp only;omega
     ·simp only;omega
     ·exact Zq4
     ·exact Zq1
    ·have h5: ¬ (w:Int)≤top:=by simpa using h5
     exact leave w _ _ _ rfl ⟨⟨k2,k3,λh=>by omega⟩,Zq3,Zq1⟩
   ·have hi:t.attrs.length≤i:=by simpa using hge
    simp only[Aro hi,attrLen,Aue] at k4;exact leave w _ _ _ rfl ⟨⟨k2,k3,λh=>by have:=k4 h;unfold attrLen;omega⟩,Zq3,Zq1⟩
def zeroT (ss:List Tree):Tree:=.mk 0 false [] [] [] ss
def zeroV (k:V):V:=.agg [.int .u64 0,.ff,.str [],.nilsl,.str [],k]
theorem Ye {k:V}{ss:List Tree}(h:Wk k (.sl 6 (ss.map nodeV))):Wk (zeroV k) (nodeV (zeroT ss)):=by
 refine Wk.agg ⟨.refl _,Wk.ff,.refl _,Wk.nil 2,.refl _,?_,trivial⟩;rw[A2];exact h
theorem Ad0 (t:Tree):okE 6 (nodeV t):=⟨rfl,rfl⟩
theorem Aql (n:Int):Pure Tryz.prog 156 [intV n] (λx=>x=.bool (!stepOk n)):=by
 refine Aj (Ad 100 Tryz.func156 rfl rfl rfl λB=> ?_);refine⟨λg1=>go 200 ?_,λg1=>go 200 ?_⟩
 ·have g1:=Au g1;exact⟨trivial,rfl,rfl,rfl,Cu (by unfold stepOk;rw[decide_eq_false (by omega)];rfl)⟩
 ·have g1:=Ah g1;refine⟨trivial,rfl,rfl,rfl,B8 ?_⟩;unfold stepOk;rw[decide_eq_true (p:=0≤n) (by omega),Asb]
  by_cases h:n<1048576
  ·rw[decide_eq_true h,decide_eq_false (by omega)];rfl
  ·rw[decide_eq_false h,decide_eq_true (by omega)];rfl
def findIx (f:Int->Bool):Nat->List Int->Int
 |_,[]=> -1
 |i,x::xs=>bif f x then i else findIx f (i+1) xs
theorem Xd (f:Int->Bool): ∀(xs:List Int) (i:Nat),decide (0≤findIx f i xs)=xs.any f
 | [],i=>by simp[findIx]
 |x::xs,i=>by
  rw[findIx,Awf];cases h:f x with
  |true=>simp
  |false=>simpa using Xd f xs (i+1)
theorem Ah8 (f:Int->Bool)(g:FuncId)(xs:List Int)(hl:xs.length≤1000000)(hg: ∀n,Pure Tryz.prog g [intV n] (λx=>x=.bool (f n))):
  Pure Tryz.prog 189 [pathV xs,.fn (.func g) [] []] (λx=>x=.int .i64 (findIx f 0 xs)):=by
 refine Ad 100 Tryz.func189 rfl rfl rfl λB=> ?_;show Goes _ _ _ _;refine Ak (ι:=Nat) (λi=>i≤xs.length∧findIx f i (xs.drop i)=findIx f 0 xs) (λi=>xs.length-i) (λi=>[(8,.int .i64 i),(7,.int .i64 (xs.map intV).length),(1,.fn (.func g) [] []),(0,pathV xs)]) (λ_=>[]) 0 200 (λ_=>rfl) (λ_=>rfl) ⟨⟨Aq4 _,rfl⟩,?_,?_⟩ ?_
 ·exact Zq4
 ·trivial
 ·rintro i ⟨h1,h2⟩ next;refine⟨λhlt=>go 200 ?_,λhge=>go 200 ?_⟩
  ·have hi:i<xs.length:=by simpa using hlt
   have hx:(xs.map intV)[i]?=some (intV xs[i]):=by simp[hi]
   rw[Bi hi,findIx] at h2;refine⟨Aq5 i,_,hx,?_⟩;show CallThen _ _ _ _ _ _;refine Aa (hg xs[i]) rfl ?_;rintro x rfl;refine⟨λh=>go 200 ?_,λh=>go 200 ?_⟩
   ·rw[h] at h2;exact⟨trivial,rfl,rfl,rfl,by rw[←h2];rfl⟩
   ·rw[h] at h2;refine⟨by constructor<;>omega,?_⟩;show Goes _ _ _ _;exact next (i+1) _ _ ⟨⟨hi,h2⟩,by omega,Zq4,trivial⟩
  ·have hi:xs.length≤i:=by simpa using hge
   rw[Aro hi] at h2;exact⟨trivial,rfl,rfl,rfl,by rw[←h2];rfl⟩
theorem Aa5 (f:Int->Bool)(g:FuncId)(xs:List Int)(hl:xs.length≤1000000)(hg: ∀n,Pure Tryz.prog g [intV n] (λx=>x=.bool (f n))):
  Pure Tryz.prog 155 [pathV xs,.fn (.func g) [] []] (λx=>x=.bool (xs.any f)):=by
 refine Ad 100 Tryz.func155 rfl rfl rfl λB=> ?_;show CallThen _ _ _ _ _ _;refine Aa (Ah8 f g xs hl hg) rfl ?_;rintro x rfl;exact⟨trivial,rfl,rfl,rfl,by rw[←Xd f xs 0];rfl⟩
theorem Ae6 (xs:List Int):(xs.any λn=> !stepOk n)= !xs.all stepOk:=by
 induction xs with
 |nil=>rfl
 |cons x xs ih=>simp[ih]
theorem An1 (p:List Int):Pure Tryz.prog 116 [pathV p] (λx=>x=.bool (mayP p)):=by
 refine Aj (Ad 100 Tryz.func116 rfl rfl rfl λB=> ?_);refine⟨λg1=>go 200 ?_,λg1=>go 200 ?_⟩
 ·have g1:p.length≤64:=by have:=Lr g1;simp at this;omega
  show CallThen _ _ _ _ _ _;refine Aa (Aa5 (λn=> !stepOk n) _ p (by omega) Aql) rfl ?_;rintro x rfl;exact⟨trivial,rfl,rfl,rfl,B8 (by rw[Ae6];simp[mayP,g1])⟩
 ·have g1:64<p.length:=by have:=I2 g1;simp at this;omega
  exact⟨trivial,rfl,rfl,rfl,Ar (by unfold mayP;rw[decide_eq_false (by omega)];rfl)⟩
theorem An2 (s:List UInt8):Pure Tryz.prog 115 [.str s] (λx=>x=.bool (keyOk s)):=by
 refine Aj (Ad 100 Tryz.func115 rfl rfl rfl λB=> ?_);refine⟨λg1=>go 200 ?_,λg1=>go 200 ?_⟩
 ·have g1:s≠[]:=by simpa using g1
  have:0<s.length:=Arw.2 g1;exact⟨trivial,rfl,rfl,rfl,B8 (by unfold keyOk;rw[decide_eq_true (p:=1≤s.length) (by omega),Asb];simp;omega)⟩
 ·have g1:s=[]:=by simpa using g1
  exact⟨trivial,rfl,rfl,rfl,Ar (by rw[g1];rfl)⟩
theorem Ad5 (s:List UInt8):Pure Tryz.prog 112 [.str s] (λx=>x=.bool (keyOk s)):=by
 refine Aj (Ad 100 Tryz.func112 rfl rfl rfl λB=> ?_);refine⟨λg1=>go 200 ?_,λg1=>go 200 ?_⟩
 ·have g1:(1:Int)≤s.length:=by simpa using g1
  exact⟨trivial,rfl,rfl,rfl,B8 (by unfold keyOk;rw[decide_eq_true (p:=1≤s.length) (by omega),Asb];simp;omega)⟩
 ·have g1: ¬ (1:Int)≤s.length:=by simpa using g1
  exact⟨trivial,rfl,rfl,rfl,Ar (by unfold keyOk;rw[decide_eq_false (p:=1≤s.length) (by omega)];rfl)⟩
theorem Aa6 (p:List Int)(i:Nat)(h:i<p.length):(p.drop i).all stepOk=(stepOk p[i]&& (p.drop (i+1)).all stepOk):=by rw[Bi h,Avb]
theorem Ad7 (p:List Int)(hp:p.length≤1000000):Pure Tryz.prog 169 [pathV p] (λx=>x=.bool (mayP p)):=by
 refine Aj (Ad 100 Tryz.func169 rfl rfl rfl λB=> ?_);show Goes _ _ _ _;refine Ak (ι:=Nat) (λi=>i≤p.length∧i≤64∧mayP p=(decide (p.length≤64)&& (p.drop i).all stepOk)) (λi=>p.length-i) (λi=>[(3,.int .i64 i),(0,pathV p)]) (λ_=>[]) 0 200 (λ_=>rfl) (λ_=>rfl) ⟨⟨Aq4 _,Aq4 _,rfl⟩,?_,?_⟩ ?_
 ·exact Zq2
 ·trivial
 ·rintro i ⟨h1,h3,h2⟩ next;refine⟨λhlt=>go 200 ?_,λhge=>go 200 ?_⟩
  ·have hi:i<p.length:=by simpa using hlt
   have hx:(p.map intV)[i]?=some (intV p[i]):=by simp[hi]
   rw[Aa6 p i hi] at h2;refine⟨λg1=>go 200 ?_,λg1=>go 200 ?_⟩
   ·have g1:(64:Int)≤i:=by simpa using g1
    exact⟨trivial,rfl,rfl,rfl,Ar (by rw[h2,decide_eq_false (p:=p.length≤64) (by omega)];rfl)⟩
   have g1: ¬ (64:Int)≤i:=by simpa using g1
   refine⟨Aq5 i,_,hx,?_⟩;refine⟨λg2=>go 200 ?_,λg2=>go 200 ?_⟩
   ·have g2:=Au g2;exact⟨trivial,rfl,rfl,rfl,Ar (by rw[h2];unfold stepOk;rw[decide_eq_false (p:=0≤p[i]) (by omega)];simp)⟩
   have g2:=Ah g2;refine⟨Aq5 i,_,hx,?_⟩;refine⟨λg3=>go 200 ?_,λg3=>go 200 ?_⟩
   ·have g3:=Lr g3;exact⟨trivial,rfl,rfl,rfl,Ar (by rw[h2];unfold stepOk;rw[decide_eq_false (p:=p[i]<1048576) (by omega)];simp)⟩
   have g3:=I2 g3;refine⟨by constructor<;>omega,?_⟩;show Goes _ _ _ _;refine next (i+1) _ _ ⟨⟨hi,by omega,?_⟩,by omega,Zq2,trivial⟩;have:stepOk p[i]=true:=by unfold stepOk;rw[decide_eq_true (by omega),decide_eq_true (by omega)];rfl
   rw[h2,this,Asb]
  ·have hi:p.length≤i:=by simpa using hge
   rw[Aro hi] at h2;exact⟨trivial,rfl,rfl,rfl,Cu (by rw[h2,decide_eq_true (p:=p.length≤64) (by omega)];rfl)⟩
theorem Eg {n:Nat}{p:PieceT}{l:List PieceT}(h:p.keep<0∨1048576<p.keep∨p.drop<0∨1048576<p.drop∨1048576<n+p.put.length):rightGo n (p::l)=false:=by
 rw[rightGo]
 rcases h with h|h|h|h|h
 ·rw[decide_eq_false (p:=0≤p.keep) (by omega)];rfl
 ·rw[decide_eq_false (p:=p.keep≤1048576) (by omega)];simp
 ·rw[decide_eq_false (p:=0≤p.drop) (by omega)];simp
 ·rw[decide_eq_false (p:=p.drop≤1048576) (by omega)];simp
 ·rw[decide_eq_false (p:=n+p.put.length≤1048576) (by omega)];simp
theorem Rm {n:Nat}{p:PieceT}{l:List PieceT}(h1:0≤p.keep)(h2:p.keep≤1048576)(h3:0≤p.drop)(h4:p.drop≤1048576)(h5:n+p.put.length≤1048576):rightGo n (p::l)=rightGo (n+p.put.length) l:=by
 rw[rightGo,decide_eq_true h1,decide_eq_true h2,decide_eq_true h3,decide_eq_true h4,decide_eq_true h5];rfl
theorem Ad8 (l:List PieceT)(hl:l.length≤1000000000000)(hpl: ∀p∈l,p.put.length≤1000000000000):Pure Tryz.prog 117 [piecesV l] (λx=>x=.bool (rightP l)):=by
 refine Aj (Ad 100 Tryz.func117 rfl rfl rfl λB=> ?_);refine⟨λg0=>go 200 ?_,λg0=>go 200 ?_⟩
 ·have g0:4096<l.length:=by have:=Au g0;simp at this;omega
  exact⟨trivial,rfl,rfl,rfl,Ar (by unfold rightP;rw[decide_eq_false (by omega)];rfl)⟩
 have g0:l.length≤4096:=by have:=Ah g0;simp at this;omega
 show Goes _ _ _ _;refine Ak (ι:=Nat×Nat) (λi=>i.1≤l.length∧i.2≤1048576∧rightP l=rightGo i.2 (l.drop i.1)) (λi=>l.length-i.1) (λi=>[(11,.int .i64 i.1),(10,.int .i64 (l.map pieceV).length),(9,piecesV l),(3,.int .i64 i.2)]) (λ_=>[]) (0,0) 200 (λ_=>rfl) (λ_=>rfl) ⟨⟨Aq4 _,Aq4 _,?_⟩,?_,?_⟩ ?_
 ·unfold rightP;rw[decide_eq_true g0];rfl
 ·exact Zq4
 ·trivial
 ·rintro⟨i,n⟩ ⟨h1,h3,h2⟩ next;simp only at h1 h2 h3;refine⟨λhlt=>go 200 ?_,λhge=>go 200 ?_⟩
  ·have hi:i<l.length:=by simpa using hlt
   have hx:(l.map pieceV)[i]?=some (pieceV l[i]):=by simp[hi]
   have hput:=hpl l[i] (Arq hi);rw[Bi hi] at h2;refine⟨Aq5 i,_,hx,?_⟩;refine⟨λg1=>go 200 ?_,λg1=>go 200 ?_⟩
   ·have g1:=Au g1;refine⟨trivial,rfl,rfl,rfl,Ar ?_⟩;rw[h2];refine Eg ?_;split at g1<;>omega
   have g1:=Ah g1;have q1:0≤(l[i]).keep∧0≤(l[i]).drop:=by split at g1<;>omega
   refine⟨λg2=>go 200 ?_,λg2=>go 200 ?_⟩
   ·have g2:=Au g2;refine⟨trivial,rfl,rfl,rfl,Ar ?_⟩;rw[h2];refine Eg ?_;split at g2<;>omega
   have g2:=Ah g2;have q2:(l[i]).keep≤1048576∧(l[i]).drop≤1048576:=by split at g2<;>omega
   refine⟨by constructor<;>omega,?_⟩;refine⟨λg3=>go 200 ?_,λg3=>go 200 ?_⟩
   ·have g3:=Au g3;refine⟨trivial,rfl,rfl,rfl,Ar ?_⟩;rw[h2];exact Eg (by omega)
   have g3:=Ah g3;refine⟨by constructor<;>omega,?_⟩;refine⟨by constructor<;>omega,?_⟩;show Goes _ _ _ _;refine next (i+1,n+ (l[i]).put.length) _ _ ⟨⟨hi,by simp only;omega,?_⟩,?_,Zq4,trivial⟩
   ·rw[h2];exact Rm q1.1 q2.1 q1.2 q2.2 (by omega)
   ·simp only;omega
  ·have hi:l.length≤i:=by simpa using hge
   rw[Aro hi] at h2;exact⟨trivial,rfl,rfl,rfl,Cu h2⟩
theorem J5 (l:List PieceT)(hl:l.length≤1000000)(hpl: ∀p∈l,p.put.length≤1000000000):Pure Tryz.prog 117 [piecesV l] (λx=>x=.bool (rightP l)):=
 Ad8 l (by omega) λp hp=>by have:=hpl p hp;omega
theorem Xf (l:List PieceT)(hl:l.length≤1000000)(hpl: ∀p∈l,p.put.length≤1000000000):Pure Tryz.prog 138 [piecesV l] (λx=>x=.bool (rightP l)):=by
 refine Aj (Ad 100 Tryz.func138 rfl rfl rfl λB=> ?_);refine⟨λg0=>go 200 ?_,λg0=>go 200 ?_⟩
 ·have g0:4096<l.length:=by have:=Au g0;simp at this;omega
  exact⟨trivial,rfl,rfl,rfl,Ar (by unfold rightP;rw[decide_eq_false (by omega)];rfl)⟩
 have g0:l.length≤4096:=by have:=Ah g0;simp at this;omega
 show Goes _ _ _ _;refine Ak (ι:=Nat×Nat) (λi=>i.1≤l.length∧i.2≤1048576∧rightP l=rightGo i.2 (l.drop i.1)) (λi=>l.length-i.1) (λi=>[(4,.int .i64 i.1),(0,piecesV l),(3,.int .i64 i.2)]) (λ_=>[]) (0,0) 200 (λ_=>rfl) (λ_=>rfl) ⟨⟨Aq4 _,Aq4 _,?_⟩,?_,?_⟩ ?_
 ·unfold rightP;rw[decide_eq_true g0];rfl
 ·exact Zq3
 ·trivial
 ·rintro⟨i,n⟩ ⟨h1,h3,h2⟩ next;simp only at h1 h2 h3;refine⟨λhlt=>go 200 ?_,λhge=>go 200 ?_⟩
  ·have hi:i<l.length:=by simpa using hlt
   have hx:(l.map pieceV)[i]?=some (pieceV l[i]):=by simp[hi]
   have hput:=hpl l[i] (Arq hi);rw[Bi hi] at h2;refine⟨Aq5 i,_,hx,?_⟩;refine⟨λg1=>go 200 ?_,λg1=>go 200 ?_⟩
   ·have g1:=Au g1;exact⟨trivial,rfl,rfl,rfl,Ar (by rw[h2];exact Eg (by omega))⟩
   have g1:=Ah g1;refine⟨Aq5 i,_,hx,?_⟩;refine⟨λg2=>go 200 ?_,λg2=>go 200 ?_⟩
   ·have g2:=Au g2;exact⟨trivial,rfl,rfl,rfl,Ar (by rw[h2];exact Eg (by omega))⟩
   have g2:=Ah g2;refine⟨Aq5 i,_,hx,?_⟩;refine⟨λg3=>go 200 ?_,λg3=>go 200 ?_⟩
   ·have g3:=Au g3;exact⟨trivial,rfl,rfl,rfl,Ar (by rw[h2];exact Eg (by omega))⟩
   have g3:=Ah g3;refine⟨Aq5 i,_,hx,?_⟩;refine⟨λg4=>go 200 ?_,λg4=>go 200 ?_⟩
   ·have g4:=Au g4;exact⟨trivial,rfl,rfl,rfl,Ar (by rw[h2];exact Eg (by omega))⟩
   have g4:=Ah g4;refine⟨Aq5 i,_,hx,?_⟩;refine⟨by constructor<;>omega,?_⟩;refine⟨λg5=>go 200 ?_,λg5=>go 200 ?_⟩
   ·have g5:=Au g5;exact⟨trivial,rfl,rfl,rfl,Ar (by rw[h2];exact Eg (by omega))⟩
   have g5:=Ah g5;refine⟨Aq5 i,_,hx,?_⟩;refine⟨by constructor<;>omega,?_⟩;refine⟨by constructor<;>omega,?_⟩;show Goes _ _ _ _;refine next (i+1,n+ (l[i]).put.length) _ _ ⟨⟨hi,by simp only;omega,?_⟩,?_,Zq3,trivial⟩
   ·rw[h2];exact Rm (by omega) (by omega) (by omega) (by omega) (by omega)
   ·simp only;omega
  ·have hi:l.length≤i:=by simpa using hge
   rw[Aro hi] at h2;exact⟨trivial,rfl,rfl,rfl,Cu h2⟩
theorem Ha (o:OpT)(ho:o.Lt 1000000)(hpl: ∀p∈o.pieces,p.put.length≤1000000000):Pure Tryz.prog 85 [opV o] (λx=>x=.bool (formedB o)):=by
 have hm:=An1 o.path;have hm2:=An1 o.to;have hk:=An2 o.key;have hr:=J5 o.pieces ho.pieces hpl;refine Aj (Ad 300 Tryz.func85 rfl rfl rfl λB=> ?_);clear ho hpl
 repeat' first
  | (refine⟨λ_=>go 300 ?_,λ_=>go 300 ?_⟩)
  | (show CallThen _ _ _ _ _ _;refine Aa hm rfl ?_;rintro x rfl)
  | (show CallThen _ _ _ _ _ _;refine Aa hm2 rfl ?_;rintro x rfl)
  | (show CallThen _ _ _ _ _ _;refine Aa hk rfl ?_;rintro x rfl)
  | (show CallThen _ _ _ _ _ _;refine Aa hr rfl ?_;rintro x rfl)
  | (refine⟨trivial,rfl,rfl,rfl,Cu ?_⟩)
  | (refine⟨trivial,rfl,rfl,rfl,Ar ?_⟩)
  | (refine⟨trivial,rfl,rfl,rfl,B8 ?_⟩)
  |fail
 all_goals (first| (simp_all[formedB,gapOk];done)| (simp_all[formedB,gapOk];intros;omega))
theorem Afa (o:OpT)(ho:o.Lt 1000000)(hpl: ∀p∈o.pieces,p.put.length≤1000000000):Pure Tryz.prog 132 [opV o] (λx=>x=.bool (formedB o)):=by
 have hm:=Ad7 o.path ho.path;have hm2:=Ad7 o.to ho.to;have hk:=Ad5 o.key;have hr:=Xf o.pieces ho.pieces hpl;refine Aj (Ad 300 Tryz.func132 rfl rfl rfl λB=> ?_);clear ho hpl
 repeat' first
  | (refine⟨λ_=>go 300 ?_,λ_=>go 300 ?_⟩)
  | (show CallThen _ _ _ _ _ _;refine Aa hm rfl ?_;rintro x rfl)
  | (show CallThen _ _ _ _ _ _;refine Aa hm2 rfl ?_;rintro x rfl)
  | (show CallThen _ _ _ _ _ _;refine Aa hk rfl ?_;rintro x rfl)
  | (show CallThen _ _ _ _ _ _;refine Aa hr rfl ?_;rintro x rfl)
  | (refine⟨trivial,rfl,rfl,rfl,Cu ?_⟩)
  | (refine⟨trivial,rfl,rfl,rfl,Ar ?_⟩)
  | (refine⟨trivial,rfl,rfl,rfl,B8 ?_⟩)
  |fail
 all_goals (first| (simp_all[formedB,gapOk];done)| (simp_all[formedB,gapOk];intros;omega))
theorem Apq (o:OpT)(top:Nat)(ht:top≤1000000):Pure Tryz.prog 80 [opV o,.int .i64 top] (λx=> ∃b:Bool,x=.bool b∧(b=true->o.Lt top∧putsLen o.pieces≤top)):=by
 have bad: ∃y,Wk .ff y∧y.pureB=true∧ ∃b:Bool,y=.bool b∧(b=true->o.Lt top∧putsLen o.pieces≤top):=⟨_,Wk.ff,rfl,false,rfl,λh=>by cases h⟩;refine Aj (Ad 300 Tryz.func80 rfl rfl rfl λB=> ?_);refine⟨λg1=>go 300 ?_,λg1=>go 300 ?_⟩
 ·exact⟨trivial,rfl,rfl,rfl,bad⟩
 refine⟨λg2=>go 300 ?_,λg2=>go 300 ?_⟩
 ·exact⟨trivial,rfl,rfl,rfl,bad⟩
 refine⟨λg3=>go 300 ?_,λg3=>go 300 ?_⟩
 ·exact⟨trivial,rfl,rfl,rfl,bad⟩
 refine⟨λg4=>go 300 ?_,λg4=>go 300 ?_⟩
 ·exact⟨trivial,rfl,rfl,rfl,bad⟩
 refine⟨λg5=>go 300 ?_,λg5=>go 300 ?_⟩
 ·exact⟨trivial,rfl,rfl,rfl,bad⟩
 refine⟨λg6=>go 300 ?_,λg6=>go 300 ?_⟩
 ·exact⟨trivial,rfl,rfl,rfl,bad⟩
 have g1:=Ah g1;have g2:=Ah g2;have g3:=Ah g3;have g4:=Ah g4;have g5:=Ah g5;have g6:=Ah g6;simp only[Arf] at g1 g2 g6;have hlt:o.Lt top:=⟨by omega,by omega,by omega,by omega,by omega,by omega⟩;show Goes _ _ _ _;refine Ak (ι:=Nat×Nat) (λi=>i.1≤o.pieces.length∧i.2≤top∧putsLen o.pieces=i.2+putsLen (o.pieces.drop i.1)) (λi=>o.pieces.length-i.1) (λi=>[(6,.int .i64 i.1),(5,.int .i64 i.2),(1,.int .i64 top),(2,.ptr (.loc 0) 0)]) (λ_=>[some (.box (opV o).cells)]) (0,0) 200 (λ_=>rfl) (λ_=>rfl) ⟨⟨Aq4 _,Aq4 _,by simp⟩,?_,?_⟩ ?_
 ·exact Zq4
 ·exact Zq1
 ·rintro⟨i,n⟩ ⟨h1,h3,h2⟩ next;simp only at h1 h2 h3;refine⟨λhlt=>go 200 ?_,λhge=>go 200 ?_⟩
  ·have hi:i<o.pieces.length:=by simpa using hlt
   have hx:(o.pieces.map pieceV)[i]?=some (pieceV o.pieces[i]):=by simp[hi]
   rw[Bi hi] at h2;have h2:putsLen o.pieces=n+ ((o.pieces[i]).put.length+putsLen (o.pieces.drop (i+1))):=h2;refine⟨Aq5 i,_,hx,?_⟩;refine⟨by constructor<;>omega,?_⟩;refine⟨λg7=>go 200 ?_,λg7=>go 200 ?_⟩
   ·exact⟨trivial,rfl,rfl,rfl,bad⟩
   have g7:=Ah g7;refine⟨Aq5 i,_,hx,?_⟩;refine⟨by constructor<;>omega,?_⟩;refine⟨by constructor<;>omega,?_⟩;show Goes _ _ _ _;refine next (i+1,n+ (o.pieces[i]).put.length) _ _ ⟨⟨hi,by simp only;omega,by simp only;omega⟩,?_,Zq4,Zq1⟩;simp only;omega
  ·have hi:o.pieces.length≤i:=by simpa using hge
   rw[Aro hi] at h2;have h2:putsLen o.pieces=n+0:=h2;exact⟨trivial,rfl,rfl,rfl,_,Wk.tt,rfl,true,rfl,λ_=>⟨hlt,by omega⟩⟩
structure LightL (l:List OpT)(count top:Nat):Prop where
 len:l.length≤count
 ops: ∀o∈l,o.Lt top∧putsLen o.pieces≤top
def opsV (l:List OpT):V:=.sl 11 (l.map opV)
theorem Afb (l:List OpT)(count top:Nat)(hc:count≤1000000)(ht:top≤1000000):Pure Tryz.prog 47 [opsV l,.int .i64 count,.int .i64 top] (λx=> ∃b:Bool,x=.bool b∧(b=true->LightL l count top)):=by
 have bad: ∃y,Wk .ff y∧y.pureB=true∧ ∃b:Bool,y=.bool b∧(b=true->LightL l count top):=⟨_,Wk.ff,rfl,false,rfl,λh=>by cases h⟩;refine Aj (Ad 300 Tryz.func47 rfl rfl rfl λB=> ?_);refine⟨λg1=>go 300 ?_,λg1=>go 300 ?_⟩
 ·exact⟨trivial,rfl,rfl,rfl,bad⟩
 have g1:=Ah g1;simp only[Arf] at g1;show Goes _ _ _ _;refine Ak (ι:=Nat) (λi=>i≤l.length∧ ∀o∈l.take i,o.Lt top∧putsLen o.pieces≤top) (λi=>l.length-i) (λi=>[(7,.int .i64 i),(2,.int .i64 top),(0,opsV l)]) (λ_=>[]) 0 200 (λ_=>rfl) (λ_=>rfl) ⟨⟨Aq4 _,by simp⟩,?_,?_⟩ ?_
 ·exact Zq3
 ·trivial
 ·rintro i ⟨h1,h2⟩ next;refine⟨λhlt=>go 200 ?_,λhge=>go 200 ?_⟩
  ·have hi:i<l.length:=by simpa using hlt
   have hx:(l.map opV)[i]?=some (opV l[i]):=by simp[hi]
   refine⟨Aq5 i,_,hx,?_⟩;show CallThen _ _ _ _ _ _;refine Aa (Apq l[i] top ht) rfl ?_;rintro x ⟨b,rfl,hb⟩;refine⟨λg=>go 200 ?_,λg=>go 200 ?_⟩
   ·exact⟨trivial,rfl,rfl,rfl,bad⟩
   have g:b=true:=by simpa using g
   refine⟨by constructor<;>omega,?_⟩;show Goes _ _ _ _;refine next (i+1) _ _ ⟨⟨hi,λo ho=> ?_⟩,by omega,Zq3,trivial⟩;rw[List.take_add_one,Aq3 hi] at ho
   rcases Asi.1 ho with ho|ho
   ·exact h2 o ho
   ·simp at ho;subst ho;exact hb g
  ·have hi:l.length≤i:=by simpa using hge
   rw[Ars hi] at h2;exact⟨trivial,rfl,rfl,rfl,_,Wk.tt,rfl,true,rfl,λ_=>⟨by omega,h2⟩⟩
theorem Aao (p:List Int)(h:p.length≤1000000):Pure Tryz.prog 130 [pathV p] (λx=>x=pathV p):=by
 refine Ad 100 Tryz.func130 rfl rfl rfl λB=> ?_;refine⟨Ark (Arg _ (show(p.map intV).length≤1000000 by simpa using h)) (by decide),?_⟩;exact⟨trivial,rfl,rfl,rfl,rfl,rfl,rfl⟩
theorem Afc (p:List PieceT)(h:p.length≤1000000):Pure Tryz.prog 131 [piecesV p] (λx=>x=piecesV p):=by
 refine Ad 100 Tryz.func131 rfl rfl rfl λB=> ?_;refine⟨Ark (Arg _ (show(p.map pieceV).length≤1000000 by simpa using h)) (by decide),?_⟩;exact⟨trivial,rfl,rfl,rfl,rfl,rfl,rfl⟩
theorem Fs {o:OpT}{cs:List V}(h:WkL cs (opV o).cells):Wk (.agg cs) (opV o):=Wk.agg h
theorem Hb (o:OpT)(ho:o.Lt 1000000):Pure Tryz.prog 88 [opV o] (λx=>x=opV (bareO o)):=by
 refine Aj (Ad 300 Tryz.func88 rfl rfl rfl λB=> ?_);show Goes _ _ _ _;refine Ac [] 300 ?_;refine⟨_,Aao o.path ho.path,rfl,?_⟩;refine⟨by kernel_rfl,?_⟩;refine⟨by kernel_rfl,?_⟩;have hp:=ho.path;have ht:=ho.to;have hpc:=ho.pieces;refine⟨λg1=>go 300 ?_,λg1=>go 300 ?_⟩
 ·have g1:=Aw g1;show Goes _ _ _ _;refine Ac [] 300 ?_;refine⟨by kernel_rfl,?_⟩;refine⟨trivial,rfl,rfl,rfl,_,?_,?_,rfl⟩
  ·simp only[bareO,g1];refine Fs ⟨.refl _,.refl _,.refl _,Wk.nil 1,.refl _,.refl _,.refl _,.refl _,.refl _,Wk.ff,Wk.nil 3,trivial⟩
  ·rfl
 refine⟨λg2=>go 300 ?_,λg2=>go 300 ?_⟩
 ·have g2:=Aw g2;refine⟨trivial,rfl,rfl,rfl,_,?_,?_,rfl⟩
  ·simp only[bareO,g2];refine Fs ⟨.refl _,.refl _,.refl _,Wk.nil 1,.refl _,Wk.ff,.refl _,.refl _,.refl _,Wk.ff,Wk.nil 3,trivial⟩
  ·rfl
 refine⟨λg3=>go 300 ?_,λg3=>go 300 ?_⟩
 ·have g3:=Aw g3;show Goes _ _ _ _;refine Ac [] 300 ?_;refine⟨_,Aao o.to ho.to,rfl,?_⟩;refine⟨by kernel_rfl,?_⟩;refine⟨trivial,rfl,rfl,rfl,_,?_,?_,rfl⟩
  ·simp only[bareO,g3];refine Fs ⟨.refl _,.refl _,.refl _,.refl _,.refl _,Wk.ff,.refl _,.refl _,.refl _,Wk.ff,Wk.nil 3,trivial⟩
  ·rfl
 refine⟨λg4=>go 300 ?_,λg4=>go 300 ?_⟩
 ·have g4:=Aw g4;show Goes _ _ _ _;refine Ac [] 300 ?_;refine⟨by kernel_rfl,?_⟩;refine⟨λh=>go 300 ?_,λh=>go 300 ?_⟩
  ·have h:o.gone=false:=by simpa using h
   refine⟨trivial,rfl,rfl,rfl,_,?_,?_,rfl⟩
   ·simp only[bareO,g4,h];refine Fs ⟨.refl _,.refl _,.refl _,Wk.nil 1,.refl _,Wk.ff,.refl _,.refl _,.refl _,.refl _,Wk.nil 3,trivial⟩
   ·rfl
  ·have h:o.gone=true:=by simpa using h
   refine⟨trivial,rfl,rfl,rfl,_,?_,?_,rfl⟩
   ·simp only[bareO,g4,h];refine Fs ⟨.refl _,.refl _,.refl _,Wk.nil 1,.refl _,Wk.ff,.refl _,.refl _,.refl _,.refl _,Wk.nil 3,trivial⟩
   ·rfl
 refine⟨λg5=>go 300 ?_,λg5=>go 300 ?_⟩
 ·have g5:=Aw g5;refine⟨trivial,rfl,rfl,rfl,_,?_,?_,rfl⟩
  ·simp only[bareO,g5];refine Fs ⟨.refl _,.refl _,.refl _,Wk.nil 1,.refl _,Wk.ff,.refl _,.refl _,.refl _,Wk.ff,Wk.nil 3,trivial⟩
  ·rfl
 refine⟨λg6=>go 300 ?_,λg6=>go 300 ?_⟩
 ·have g6:=Aw g6;show CallThen _ _ _ _ _ _;refine Aa (Afc o.pieces ho.pieces) rfl ?_;rintro x rfl;refine⟨trivial,rfl,rfl,rfl,_,?_,?_,rfl⟩
  ·simp only[bareO,g6];refine Fs ⟨.refl _,.refl _,.refl _,Wk.nil 1,.refl _,Wk.ff,.refl _,.refl _,.refl _,Wk.ff,.refl _,trivial⟩
  ·rfl
 ·have g1:=Bg g1;have g2:=Bg g2;have g3:=Bg g3;have g4:=Bg g4;have g5:=Bg g5;have g6:=Bg g6;refine⟨trivial,rfl,rfl,rfl,_,?_,?_,rfl⟩
  ·have e:bareO o=noOp o.kind:=by
    unfold bareO;rw[show(o.kind==1)=false by simpa using g1,show(o.kind==2)=false by simpa using g2,show(o.kind==3)=false by simpa using g3,show(o.kind==4)=false by simpa using g4,show(o.kind==5)=false by simpa using g5,show(o.kind==6)=false by simpa using g6];rfl
   rw[e];refine Fs ⟨.refl _,Wk.nil 1,.refl _,Wk.nil 1,.refl _,Wk.ff,.refl _,.refl _,.refl _,Wk.ff,Wk.nil 3,trivial⟩
  ·rfl
theorem Co {n b:Nat}(h:n≤1000000)(hb:b≤70368744):room n b:=Ark (Nat.mul_le_mul h hb) (by decide)
theorem Z0 (o:OpT)(ho:o.Lt 1000000):Pure Tryz.prog 100 [opV o] (λx=>x=opV (bareO o)):=by
 refine Aj (Ad 300 Tryz.func100 rfl rfl rfl λB=> ?_);have hp:=ho.path;have ht:=ho.to;have hpc:=ho.pieces;refine⟨Co (by simpa using ho.path) (by decide),?_⟩;refine⟨Co (by simpa using ho.to) (by decide),?_⟩;refine⟨λg1=>go 300 ?_,λg1=>go 300 ?_⟩
 ·have g1:=Aw g1;refine⟨trivial,rfl,rfl,rfl,rfl,rfl,_,?_,?_,rfl⟩
  ·simp only[bareO,g1];refine Fs ⟨.refl _,.refl _,.refl _,Wk.nil 1,.refl _,.refl _,.refl _,.refl _,.refl _,Wk.ff,Wk.nil 3,trivial⟩
  ·rfl
 refine⟨λg2=>go 300 ?_,λg2=>go 300 ?_⟩
 ·have g2:=Aw g2;refine⟨trivial,rfl,rfl,rfl,rfl,rfl,_,?_,?_,rfl⟩
  ·simp only[bareO,g2];refine Fs ⟨.refl _,.refl _,.refl _,Wk.nil 1,.refl _,Wk.ff,.refl _,.refl _,.refl _,Wk.ff,Wk.nil 3,trivial⟩
  ·rfl
 refine⟨λg3=>go 300 ?_,λg3=>go 300 ?_⟩
 ·have g3:=Aw g3;refine⟨trivial,rfl,rfl,rfl,rfl,rfl,rfl,rfl,_,?_,?_,rfl⟩
  ·simp only[bareO,g3];refine Fs ⟨.refl _,.refl _,.refl _,.refl _,.refl _,Wk.ff,.refl _,.refl _,.refl _,Wk.ff,Wk.nil 3,trivial⟩
  ·rfl
 refine⟨λg4=>go 300 ?_,λg4=>go 300 ?_⟩
 ·have g4:=Aw g4;refine⟨λh=>go 300 ?_,λh=>go 300 ?_⟩
  ·have h:o.gone=false:=by simpa using h
   refine⟨trivial,rfl,rfl,rfl,rfl,rfl,_,?_,?_,rfl⟩
   ·simp only[bareO,g4,h];refine Fs ⟨.refl _,.refl _,.refl _,Wk.nil 1,.refl _,Wk.ff,.refl _,.refl _,.refl _,.refl _,Wk.nil 3,trivial⟩
   ·rfl
  ·have h:o.gone=true:=by simpa using h
   refine⟨trivial,rfl,rfl,rfl,rfl,rfl,_,?_,?_,rfl⟩
   ·simp only[bareO,g4,h];refine Fs ⟨.refl _,.refl _,.refl _,Wk.nil 1,.refl _,Wk.ff,.refl _,.refl _,.refl _,.refl _,Wk.nil 3,trivial⟩
   ·rfl
 refine⟨λg5=>go 300 ?_,λg5=>go 300 ?_⟩
 ·have g5:=Aw g5;refine⟨trivial,rfl,rfl,rfl,rfl,rfl,_,?_,?_,rfl⟩
  ·simp only[bareO,g5];refine Fs ⟨.refl _,.refl _,.refl _,Wk.nil 1,.refl _,Wk.ff,.refl _,.refl _,.refl _,Wk.ff,Wk.nil 3,trivial⟩
  ·rfl
 refine⟨λg6=>go 300 ?_,λg6=>go 300 ?_⟩
 ·have g6:=Aw g6;refine⟨Co (by simpa using ho.pieces) (by decide),?_⟩;refine⟨trivial,rfl,rfl,rfl,rfl,rfl,rfl,rfl,_,?_,?_,rfl⟩
  ·simp only[bareO,g6];refine Fs ⟨.refl _,.refl _,.refl _,Wk.nil 1,.refl _,Wk.ff,.refl _,.refl _,.refl _,Wk.ff,.refl _,trivial⟩
  ·rfl
 ·have g1:=Bg g1;have g2:=Bg g2;have g3:=Bg g3;have g4:=Bg g4;have g5:=Bg g5;have g6:=Bg g6;refine⟨trivial,rfl,rfl,rfl,_,?_,?_,rfl⟩
  ·have e:bareO o=noOp o.kind:=by
    unfold bareO;rw[show(o.kind==1)=false by simpa using g1,show(o.kind==2)=false by simpa using g2,show(o.kind==3)=false by simpa using g3,show(o.kind==4)=false by simpa using g4,show(o.kind==5)=false by simpa using g5,show(o.kind==6)=false by simpa using g6];rfl
   rw[e];refine Fs ⟨.refl _,Wk.nil 1,.refl _,Wk.nil 1,.refl _,Wk.ff,.refl _,.refl _,.refl _,Wk.ff,Wk.nil 3,trivial⟩
  ·rfl
def putsO (o:OpT):Nat:=o.label.length+o.key.length+o.value.length+putsLen o.pieces
theorem Rb (p:PieceT)(l:List PieceT):putsLen (p::l)=p.put.length+putsLen l:=rfl
theorem X6 {o:OpT}{n:Nat}(h:o.Lt n):(bareO o).Lt n:=by
 unfold bareO noOp
 rcases Asd (o.kind==1) with e|e<;>rw[e]<;>simp only[cond_true,cond_false]
 ·exact⟨h.path,Aq4 _,h.label,Aq4 _,Aq4 _,Aq4 _⟩
 rcases Asd (o.kind==2) with e|e<;>rw[e]<;>simp only[cond_true,cond_false]
 ·exact⟨h.path,Aq4 _,Aq4 _,Aq4 _,Aq4 _,Aq4 _⟩
 rcases Asd (o.kind==3) with e|e<;>rw[e]<;>simp only[cond_true,cond_false]
 ·exact⟨h.path,h.to,Aq4 _,Aq4 _,Aq4 _,Aq4 _⟩
 rcases Asd (o.kind==4) with e|e<;>rw[e]<;>simp only[cond_true,cond_false]
 ·refine⟨h.path,Aq4 _,Aq4 _,h.key,?_,Aq4 _⟩;cases o.gone<;>simp[h.value]
 rcases Asd (o.kind==5) with e|e<;>rw[e]<;>simp only[cond_true,cond_false]
 ·exact⟨h.path,Aq4 _,h.label,Aq4 _,Aq4 _,Aq4 _⟩
 rcases Asd (o.kind==6) with e|e<;>rw[e]<;>simp only[cond_true,cond_false]
 ·exact⟨h.path,Aq4 _,Aq4 _,Aq4 _,Aq4 _,h.pieces⟩
 ·exact⟨Aq4 _,Aq4 _,Aq4 _,Aq4 _,Aq4 _,Aq4 _⟩
theorem Z1 {o:OpT}:putsLen (bareO o).pieces≤putsLen o.pieces:=by
 unfold bareO noOp
 rcases Asd (o.kind==1) with e|e<;>rw[e]<;>simp only[cond_true,cond_false]
 ·exact Aq4 _
 rcases Asd (o.kind==2) with e|e<;>rw[e]<;>simp only[cond_true,cond_false]
 ·exact Aq4 _
 rcases Asd (o.kind==3) with e|e<;>rw[e]<;>simp only[cond_true,cond_false]
 ·exact Aq4 _
 rcases Asd (o.kind==4) with e|e<;>rw[e]<;>simp only[cond_true,cond_false]
 ·exact Aq4 _
 rcases Asd (o.kind==5) with e|e<;>rw[e]<;>simp only[cond_true,cond_false]
 ·exact Aq4 _
 rcases Asd (o.kind==6) with e|e<;>rw[e]<;>simp only[cond_true,cond_false]
 ·exact Ara _
 ·exact Aq4 _
theorem Ada (o:OpT)(ho:o.Lt 1000000)(hq:putsLen o.pieces≤1048576):Pure Tryz.prog 108 [opV o] (λx=>x=.int .i64 (putsO (bareO o))):=by
 refine Ad 300 Tryz.func108 rfl rfl rfl λB=> ?_;show CallThen _ _ _ _ _ _;refine Aa (Hb o ho) rfl ?_;rintro x rfl;have hb:=X6 ho;have hbp:=Z1 (o:=o);generalize bareO o=q at hb hbp;have h1:=hb.label;have h2:=hb.key;have h3:=hb.value;have h4:=hb.pieces;refine⟨by constructor<;>omega,?_⟩;refine⟨by constructor<;>omega,?_⟩;show Goes _ _ _ _;refine Ak (ι:=Nat×Nat) (λi=>i.1≤q.pieces.length∧putsO q=i.2+putsLen (q.pieces.drop i.1)) (λi=>q.pieces.length-i.1) (λi=>[(22,.int .i64 i.1),(21,.int .i64 (q.pieces.map pieceV).length),(20,piecesV q.pieces),(3,.int .i64 i.2)]) (λ_=>[]) (0,q.label.length+q.key.length+q.value.length) 200 (λ_=>rfl) (λ_=>rfl) ⟨⟨Aq4 _,rfl⟩,?_,?_⟩ ?_
 ·exact Zq4
 ·trivial
 ·rintro⟨i,n⟩ ⟨k1,k2⟩ next;simp only at k1 k2;have hpo:putsO q≤4100000:=by unfold putsO;omega
  refine⟨λhlt=>go 200 ?_,λhge=>go 200 ?_⟩
  ·have hi:i<q.pieces.length:=by simpa using hlt
   have hx:(q.pieces.map pieceV)[i]?=some (pieceV q.pieces[i]):=by simp[hi]
   rw[Bi hi,Rb] at k2;refine⟨Aq5 i,_,hx,?_⟩;refine⟨by constructor<;>omega,?_⟩;refine⟨by constructor<;>omega,?_⟩;show Goes _ _ _ _;refine next (i+1,n+ (q.pieces[i]).put.length) _ _ ⟨⟨hi,by simp only;omega⟩,?_,Zq4,trivial⟩;simp only;omega
  ·have hi:q.pieces.length≤i:=by simpa using hge
   rw[Aro hi] at k2;have k2:putsO q=n+0:=k2;exact⟨trivial,rfl,rfl,rfl,by rw[k2];rfl⟩
def badO (o:OpT):Bool:= !formedB o|| (decide (o.kind=6)&&decide ((64:Int)<o.pieces.length))
def sumPuts (l:List OpT):Nat:=l.foldr (λo n=>putsO (bareO o)+n) 0
def fitsE (l:List OpT):Int:=bif decide (64<l.length) then 3 else bif l.any badO then 80 else bif decide (65536<sumPuts l) then 3 else 0
structure OpT.Ok (o:OpT):Prop where
 lt:o.Lt 1000000
 puts:putsLen o.pieces≤1048576
theorem Aj6 {l:List PieceT}: ∀p∈l,p.put.length≤putsLen l:=by
 induction l with
 |nil=>intro p h;cases h
 |cons q l ih=>
  intro p h;rw[Rb]
  rcases Arl.1 h with rfl|h
  ·omega
  ·have:=ih p h;omega
theorem OpT.Ok.each {o:OpT}(h:o.Ok): ∀p∈o.pieces,p.put.length≤1000000000:=λp hp=>by have:=Aj6 p hp;have:=h.puts;omega
theorem Hr {o:OpT}(h:o.Ok):(bareO o).Ok:=⟨X6 h.lt,Ark Z1 h.puts⟩
theorem Am0 {o:OpT}(h:o.Ok):putsO o≤4100000:=by
 have:=h.lt.label;have:=h.lt.key;have:=h.lt.value;have:=h.puts;unfold putsO;omega
theorem Adf (o:OpT)(l:List OpT):sumPuts (o::l)=putsO (bareO o)+sumPuts l:=rfl
theorem Aj7 (l:List OpT)(hlen:l.length≤1000000)(hok: ∀o∈l,o.Ok):Pure Tryz.prog 74 [opsV l] (λx=>x=.int .i64 (fitsE l)):=by
 refine Ad 300 Tryz.func74 rfl rfl rfl λB=> ?_;refine⟨λg1=>go 300 ?_,λg1=>go 300 ?_⟩
 ·have g1:64<l.length:=by have:=Au g1;simp at this;omega
  exact⟨trivial,rfl,rfl,rfl,by unfold fitsE;rw[decide_eq_true g1];rfl⟩
 have g1:l.length≤64:=by have:=Ah g1;simp at this;omega
 show Goes _ _ _ _;refine Ak (ι:=Nat×Nat) (λi=>i.1≤l.length∧i.2≤i.1*4100000∧l.any badO=(l.drop i.1).any badO∧sumPuts l=i.2+sumPuts (l.drop i.1)) (λi=>l.length-i.1) (λi=>[(11,.int .i64 i.1),(10,.int .i64 (l.map opV).length),(9,opsV l),(3,.int .i64 i.2)]) (λ_=>[]) (0,0) 300 (λ_=>rfl) (λ_=>rfl) ⟨⟨Aq4 _,Aq4 _,rfl,by simp⟩,?_,?_⟩ ?_
 ·exact Zq4
 ·trivial
 ·rintro⟨i,n⟩ ⟨k1,k2,k3,k4⟩ next;simp only at k1 k2 k3 k4;refine⟨λhlt=>go 300 ?_,λhge=>go 300 ?_⟩
  ·have hi:i<l.length:=by simpa using hlt
   have hx:(l.map opV)[i]?=some (opV l[i]):=by simp[hi]
   have ho:=hok l[i] (Arq hi);have hpu:=Am0 (Hr ho);rw[Bi hi,Awf] at k3;rw[Bi hi,Adf] at k4;refine⟨Aq5 i,_,hx,?_⟩;show CallThen _ _ _ _ _ _;refine Aa (Ha l[i] ho.lt ho.each) rfl ?_;rintro x rfl;have err:badO l[i]=true->(80:Int)=fitsE l:=λhb=>by
    unfold fitsE;rw[k3,hb,decide_eq_false (p:=64<l.length) (by omega)];rfl
   have cont:badO l[i]=false->l.any badO=(l.drop (i+1)).any badO:=λhb=>by rw[k3,hb,Aux]
   have hin1:inI ((n:Int)+ ((putsO (bareO l[i]):Nat):Int)):=by constructor<;>omega
   have hin2:inI ((i:Int)+1):=by constructor<;>omega
   refine⟨λg2=>go 300 ?_,λg2=>go 300 ?_⟩
   ·have g2:formedB l[i]=false:=by simpa using g2
    exact⟨trivial,rfl,rfl,rfl,by rw[←err (by unfold badO;rw[g2];rfl)];rfl⟩
   have g2:formedB l[i]=true:=by simpa using g2
   have fin:badO l[i]=false->Pure Tryz.prog 108 [opV l[i]] (λx=>x=.int .i64 (putsO (bareO l[i]))):=λ_=>Ada l[i] ho.lt ho.puts;refine⟨λg3=>go 300 ?_,λg3=>go 300 ?_⟩
   ·refine⟨λg4=>go 300 ?_,λg4=>go 300 ?_⟩
    ·simp only[Arf] at g4;exact⟨trivial,rfl,rfl,rfl,by rw[←err (by unfold badO;rw[g2,g3,g4];rfl)];rfl⟩
    simp only[Arf] at g4;show CallThen _ _ _ _ _ _;refine Aa (Ada l[i] ho.lt ho.puts) rfl ?_;rintro x rfl;refine⟨hin1,hin2,?_⟩;show Goes _ _ _ _;refine next (i+1,n+putsO (bareO l[i])) _ _ ⟨⟨hi,?_,cont (by unfold badO;rw[g2,g4];simp),?_⟩,?_,Zq4,trivial⟩
    ·simp only;omega
    ·simp only;omega
    ·simp only;omega
   ·show CallThen _ _ _ _ _ _;refine Aa (Ada l[i] ho.lt ho.puts) rfl ?_;rintro x rfl;refine⟨hin1,hin2,?_⟩;show Goes _ _ _ _;refine next (i+1,n+putsO (bareO l[i])) _ _ ⟨⟨hi,?_,cont (by unfold badO;rw[g2,g3];rfl),?_⟩,?_,Zq4,trivial⟩
    ·simp only;omega
    ·simp only;omega
    ·simp only;omega
  ·have hi:l.length≤i:=by simpa using hge
   rw[Aro hi] at k3 k4;have k4:sumPuts l=n+0:=k4;have k3:l.any badO=false:=k3;have e0:decide (64<l.length)=false:=decide_eq_false (by omega);refine⟨λg=>go 300 ?_,λg=>go 300 ?_⟩
   ·have g:=Au g;exact⟨trivial,rfl,rfl,rfl,by unfold fitsE;rw[e0,k3,decide_eq_true (by omega)];rfl⟩
   ·have g:=Ah g;exact⟨trivial,rfl,rfl,rfl,by unfold fitsE;rw[e0,k3,decide_eq_false (by omega)];rfl⟩
end Bow
namespace Bow
open Go Go.Proofs
open Go Go.Proofs
end Bow
namespace Bow
open Go Go.Proofs
theorem Dd {α:Type}{l:List (List α)}{i:Nat}(hi:i<l.length):(l.take (i+1)).flatten=(l.take i).flatten++l[i]:=by
 rw[Ask hi,List.flatten_append];simp
theorem Bo {α:Type}(l:List (List α))(i:Nat):(l.take i).flatten.length≤l.flatten.length:=by
 conv=>rhs;rw[←Ar4 i l]
 rw[List.flatten_append,Arb];omega
theorem Ahw (n:Nat)(h:n≤10000000):Fun Tryz.prog 191 [] [.nilsl,.int .i64 n] (λx T=> ∃g,x=.osl (.loc 0) g 0 0∧T=[some (.vec g 6 [])]):=by
 refine Ay 100 Tryz.func191 rfl rfl rfl λimps B hi=> ?_;have:imps=[]:=Ard.1 hi;subst this;refine⟨λg1=>go 100 ?_,λg1=>go 100 ?_⟩
 ·have:=Au g1;omega
 show Goes _ _ _ _;refine Ip 100 rfl rfl rfl rfl rfl ?_;refine⟨by constructor<;>omega,by constructor<;>omega,?_⟩;refine⟨λg2=>go 100 ?_,λg2=> ?_⟩
 ·have g2:=Au g2;show Goes _ _ _ _;refine Ip 100 rfl rfl rfl rfl rfl ?_;show Goes _ _ _ _;refine M4 100 rfl rfl rfl rfl rfl rfl rfl ?_;show Goes _ _ _ _;refine M5 100 n rfl rfl rfl rfl (congrArg (V.int .i64) (by omega)) (by omega) rfl rfl rfl rfl rfl (Ark (Arg _ h) (by decide)) ?_;show Goes _ _ _ _;refine L6 (h:=0) 100 rfl rfl rfl rfl rfl rfl rfl rfl (Aq4 _) ?_;exact⟨trivial,rfl,rfl,2,rfl,rfl⟩
 ·refine Dx 0 6 rfl ?_;refine go 100 ?_;exact⟨trivial,rfl,rfl,0,rfl,rfl⟩
theorem Rf (ls:List (List V))(h:ls.flatten.length≤1000000)(hl:ls.length≤1000000):Pure Tryz.prog 162 [.sl 1 (ls.map (V.sl 6))] (λx=>x=.sl 6 ls.flatten):=by
 refine Ad 100 Tryz.func162 rfl rfl rfl λB=> ?_;show Goes _ _ _ _;refine Ak (ι:=Nat) (λi=>i≤ls.length) (λi=>ls.length-i) (λi=>[(3,.int .i64 (ls.take i).flatten.length),(11,.int .i64 i),(10,.int .i64 (ls.map (V.sl 6)).length),(9,.sl 1 (ls.map (V.sl 6))),(0,.sl 1 (ls.map (V.sl 6)))]) (λ_=>[]) 0 100 (λ_=>rfl) (λ_=>rfl) ⟨Aq4 _,?_,trivial⟩ ?_
 ·exact Zq5
 intro i k1 next;have hb1:=Bo ls i;refine⟨λhlt=>go 100 ?_,λhge=>go 100 ?_⟩
 ·have hi:i<ls.length:=by simpa using hlt
  have hx:(ls.map (V.sl 6))[i]?=some (.sl 6 ls[i]):=by simp[hi]
  have hb2:=Bo ls (i+1);have hs:=Dd hi;have hsl:(ls.take (i+1)).flatten.length=(ls.take i).flatten.length+ls[i].length:=by rw[hs,Arb]
  refine⟨Aq5 i,_,hx,?_⟩;refine⟨by constructor<;>omega,?_⟩;refine⟨λg1=>go 100 ?_,λg1=>go 100 ?_⟩
  ·have:=Au g1;omega
  refine⟨by constructor<;>omega,?_⟩;refine next (i+1) _ _ ⟨by omega,by omega,?_,trivial⟩;exact⟨⟨by simp only[lk];exact congrArg (V.int .i64) (by omega),rfl⟩,⟨rfl,rfl⟩,⟨rfl,rfl⟩,⟨rfl,rfl⟩,⟨rfl,rfl⟩,trivial⟩
 ·have hi:i=ls.length:=by have:ls.length≤i:=(by simpa using hge);omega
  subst hi;rw[Asj];show CallThen _ _ _ _ _ _;refine Ag [] (Ahw ls.flatten.length (by omega)) rfl rfl trivial rfl rfl rfl ?_;rintro x T1 ⟨g,rfl,rfl⟩;refine⟨rfl,?_⟩;show Goes _ _ _ _;refine Ak (ι:=Nat×Nat) (λi=>i.1≤ls.length) (λi=>ls.length-i.1) (λi=>[(6,.osl (.loc 0) i.2 0 (ls.take i.1).flatten.length),(27,.int .i64 i.1),(26,.int .i64 (ls.map (V.sl 6)).length),(25,.sl 1 (ls.map (V.sl 6)))]) (λi=>[some (.vec i.2 6 (ls.take i.1).flatten)]) (0,g) 100 (λ_=>rfl) (λ_=>rfl) ⟨Aq4 _,?_,?_⟩ ?_
  ·exact Zq4
  ·exact Zq1
  rintro⟨i,g⟩ k1 next;have hb1:=Bo ls i;simp only at k1 hb1;refine⟨λhlt=>go 100 ?_,λhge=>go 100 ?_⟩
  ·have hi:i<ls.length:=by simpa using hlt
   have hx:(ls.map (V.sl 6))[i]?=some (.sl 6 ls[i]):=by simp[hi]
   have hb2:=Bo ls (i+1);have hs:=Dd hi;have hsl:(ls.take (i+1)).flatten.length=(ls.take i).flatten.length+ls[i].length:=by rw[hs,Arb]
   refine⟨Aq5 i,_,hx,?_⟩;simp only;refine⟨rfl,rfl,Ark (Arg _ (show _≤1000000 by omega)) (by decide),?_⟩;refine⟨by constructor<;>omega,?_⟩;refine next (i+1,bump g) _ _ ⟨by simp only;omega,by simp only;omega,?_,?_⟩
   ·exact⟨⟨by simp only[lk];exact congrArg (V.osl _ _ _) hsl.symm,rfl⟩,⟨rfl,rfl⟩,⟨rfl,rfl⟩,⟨rfl,rfl⟩,trivial⟩
   ·exact⟨⟨by rw[hs],rfl⟩,trivial⟩
  ·have hi:i=ls.length:=by have:ls.length≤i:=(by simpa using hge);omega
   subst hi;exact⟨trivial,rfl,rfl,rfl,rfl,rfl,by simp only[Asj]⟩
theorem Ahx (n:Nat)(h:n≤10000000):Fun Tryz.prog 193 [] [.nilsl,.int .i64 n] (λx T=> ∃g,x=.osl (.loc 0) g 0 0∧T=[some (.vec g 2 [])]):=by
 refine Ay 100 Tryz.func193 rfl rfl rfl λimps B hi=> ?_;have:imps=[]:=Ard.1 hi;subst this;refine⟨λg1=>go 100 ?_,λg1=>go 100 ?_⟩
 ·have:=Au g1;omega
 show Goes _ _ _ _;refine Ip 100 rfl rfl rfl rfl rfl ?_;refine⟨by constructor<;>omega,by constructor<;>omega,?_⟩;refine⟨λg2=>go 100 ?_,λg2=> ?_⟩
 ·have g2:=Au g2;show Goes _ _ _ _;refine Ip 100 rfl rfl rfl rfl rfl ?_;show Goes _ _ _ _;refine M4 100 rfl rfl rfl rfl rfl rfl rfl ?_;show Goes _ _ _ _;refine M5 100 n rfl rfl rfl rfl (congrArg (V.int .i64) (by omega)) (by omega) rfl rfl rfl rfl rfl (Ark (Arg _ h) (by decide)) ?_;show Goes _ _ _ _;refine L6 (h:=0) 100 rfl rfl rfl rfl rfl rfl rfl rfl (Aq4 _) ?_;exact⟨trivial,rfl,rfl,2,rfl,rfl⟩
 ·refine Dx 0 2 rfl ?_;refine go 100 ?_;exact⟨trivial,rfl,rfl,0,rfl,rfl⟩
theorem Jj (ls:List (List V))(h:ls.flatten.length≤1000000)(hl:ls.length≤1000000):Pure Tryz.prog 168 [.sl 1 (ls.map (V.sl 2))] (λx=>x=.sl 2 ls.flatten):=by
 refine Ad 100 Tryz.func168 rfl rfl rfl λB=> ?_;show Goes _ _ _ _;refine Ak (ι:=Nat) (λi=>i≤ls.length) (λi=>ls.length-i) (λi=>[(3,.int .i64 (ls.take i).flatten.length),(11,.int .i64 i),(10,.int .i64 (ls.map (V.sl 2)).length),(9,.sl 1 (ls.map (V.sl 2))),(0,.sl 1 (ls.map (V.sl 2)))]) (λ_=>[]) 0 100 (λ_=>rfl) (λ_=>rfl) ⟨Aq4 _,?_,trivial⟩ ?_
 ·exact Zq5
 intro i k1 next;have hb1:=Bo ls i;refine⟨λhlt=>go 100 ?_,λhge=>go 100 ?_⟩
 ·have hi:i<ls.length:=by simpa using hlt
  have hx:(ls.map (V.sl 2))[i]?=some (.sl 2 ls[i]):=by simp[hi]
  have hb2:=Bo ls (i+1);have hs:=Dd hi;have hsl:(ls.take (i+1)).flatten.length=(ls.take i).flatten.length+ls[i].length:=by rw[hs,Arb]
  refine⟨Aq5 i,_,hx,?_⟩;refine⟨by constructor<;>omega,?_⟩;refine⟨λg1=>go 100 ?_,λg1=>go 100 ?_⟩
  ·have:=Au g1;omega
  refine⟨by constructor<;>omega,?_⟩;refine next (i+1) _ _ ⟨by omega,by omega,?_,trivial⟩;exact⟨⟨by simp only[lk];exact congrArg (V.int .i64) (by omega),rfl⟩,⟨rfl,rfl⟩,⟨rfl,rfl⟩,⟨rfl,rfl⟩,⟨rfl,rfl⟩,trivial⟩
 ·have hi:i=ls.length:=by have:ls.length≤i:=(by simpa using hge);omega
  subst hi;rw[Asj];show CallThen _ _ _ _ _ _;refine Ag [] (Ahx ls.flatten.length (by omega)) rfl rfl trivial rfl rfl rfl ?_;rintro x T1 ⟨g,rfl,rfl⟩;refine⟨rfl,?_⟩;show Goes _ _ _ _;refine Ak (ι:=Nat×Nat) (λi=>i.1≤ls.length) (λi=>ls.length-i.1) (λi=>[(6,.osl (.loc 0) i.2 0 (ls.take i.1).flatten.length),(27,.int .i64 i.1),(26,.int .i64 (ls.map (V.sl 2)).length),(25,.sl 1 (ls.map (V.sl 2)))]) (λi=>[some (.vec i.2 2 (ls.take i.1).flatten)]) (0,g) 100 (λ_=>rfl) (λ_=>rfl) ⟨Aq4 _,?_,?_⟩ ?_
  ·exact Zq4
  ·exact Zq1
  rintro⟨i,g⟩ k1 next;have hb1:=Bo ls i;simp only at k1 hb1;refine⟨λhlt=>go 100 ?_,λhge=>go 100 ?_⟩
  ·have hi:i<ls.length:=by simpa using hlt
   have hx:(ls.map (V.sl 2))[i]?=some (.sl 2 ls[i]):=by simp[hi]
   have hb2:=Bo ls (i+1);have hs:=Dd hi;have hsl:(ls.take (i+1)).flatten.length=(ls.take i).flatten.length+ls[i].length:=by rw[hs,Arb]
   refine⟨Aq5 i,_,hx,?_⟩;simp only;refine⟨rfl,rfl,Ark (Arg _ (show _≤1000000 by omega)) (by decide),?_⟩;refine⟨by constructor<;>omega,?_⟩;refine next (i+1,bump g) _ _ ⟨by simp only;omega,by simp only;omega,?_,?_⟩
   ·exact⟨⟨by simp only[lk];exact congrArg (V.osl _ _ _) hsl.symm,rfl⟩,⟨rfl,rfl⟩,⟨rfl,rfl⟩,⟨rfl,rfl⟩,trivial⟩
   ·exact⟨⟨by rw[hs],rfl⟩,trivial⟩
  ·have hi:i=ls.length:=by have:ls.length≤i:=(by simpa using hge);omega
   subst hi;exact⟨trivial,rfl,rfl,rfl,rfl,rfl,by simp only[Asj]⟩
theorem Ads {α:Type}{xs ys:List α}{i:Nat}(hx:i<xs.length)(hy:i<ys.length):xs.drop i=ys.drop i↔xs[i]=ys[i]∧xs.drop (i+1)=ys.drop (i+1):=by
 rw[Aru hx,Aru hy,List.cons.injEq]
theorem PieceT.ext {a b:PieceT}(h1:a.keep=b.keep)(h2:a.drop=b.drop)(h3:a.put=b.put):a=b:=by cases a;cases b;simp_all
instance:DecidableEq PieceT:=λa b=>decidable_of_iff (a.keep=b.keep∧a.drop=b.drop∧a.put=b.put) ⟨λh=>PieceT.ext h.1 h.2.1 h.2.2,λh=>by subst h;exact⟨rfl,rfl,rfl⟩⟩
theorem Wu (xs ys:List Int)(hl:xs.length≤1000000):Pure Tryz.prog 157 [.sl 1 (xs.map intV),.sl 1 (ys.map intV)] (λx=>x=.bool (decide (xs=ys))):=by
 refine Aj (Ad 100 Tryz.func157 rfl rfl rfl λB=> ?_);refine⟨λg1=>go 100 ?_,λg1=>go 100 ?_⟩
 ·have g1:=A7 g1;refine⟨trivial,rfl,rfl,rfl,Ar (decide_eq_false λe=>g1 ?_)⟩;rw[e]
 have g1:xs.length=ys.length:=by have:=Bk g1;simp at this;omega
 show Goes _ _ _ _;refine Ak (ι:=Nat) (λi=>i≤xs.length∧(xs.drop i=ys.drop i↔xs=ys)) (λi=>xs.length-i) (λi=>[(13,.int .i64 i),(12,.int .i64 (xs.map intV).length),(1,.sl 1 (ys.map intV)),(0,.sl 1 (xs.map intV))]) (λ_=>[]) 0 100 (λ_=>rfl) (λ_=>rfl) ⟨⟨Aq4 _,Iff.rfl⟩,?_,trivial⟩ ?_
 ·exact Zq4
 rintro i ⟨k1,k2⟩ next;refine⟨λhlt=>go 100 ?_,λhge=>go 100 ?_⟩
 ·have hi:i<xs.length:=by simpa using hlt
  have hi':i<ys.length:=by omega
  have hx:(xs.map intV)[i]?=some (intV xs[i]):=by simp[hi]
  have hy:(ys.map intV)[i]?=some (intV ys[i]):=by simp[hi']
  rw[Ads hi hi'] at k2;show Goes _ _ _ _;refine Ac [] 100 ?_;refine⟨Aq5 i,_,hx,Aq5 i,_,hy,?_⟩;refine⟨by kernel_rfl,?_⟩;refine⟨λg2=>go 100 ?_,λg2=>go 100 ?_⟩
  ·refine⟨trivial,rfl,rfl,rfl,Ar (decide_eq_false λe=> ?_)⟩;have:=(k2.2 e).1;rw[this] at g2;simp at g2
  ·refine⟨by constructor<;>omega,?_⟩;have he:xs[i]=ys[i]:=by
    exact Bk g2
   exact next (i+1) _ _ ⟨⟨hi,by rw[←k2];exact⟨λh=>⟨he,h⟩,λh=>h.2⟩⟩,by omega,Zq4,trivial⟩
 ·have hi:i=xs.length:=by have:xs.length≤i:=(by simpa using hge);omega
  subst hi;refine⟨trivial,rfl,rfl,rfl,Cu (decide_eq_true (k2.1 ?_))⟩;rw[Aro (Ara _),Aro (by omega)]
def CloneQ (sz:Nat)(xs:List V)(x:V)(T:Heap):Prop:=(xs=[]∧x=.nilsl∧T=[])∨(x=.osl (.loc 0) 2 0 xs.length∧T=[some (.vec 2 sz xs)])
theorem Jk (xs:List V)(hl:xs.length≤1000000):Fun Tryz.prog 164 [] [.sl 1 xs] (CloneQ 1 xs):=by
 refine Ay 100 Tryz.func164 rfl rfl rfl λimps B hi=> ?_;have:imps=[]:=Ard.1 hi;subst this;show Goes _ _ _ _;refine Lg 100 rfl rfl rfl rfl rfl rfl λb hb=> ?_;refine⟨λg=>go 100 ?_,λg=>go 100 ?_⟩
 ·exact⟨trivial,rfl,rfl,.inl ⟨hb g,rfl,rfl⟩⟩
 ·refine⟨trivial,rfl,rfl,Ark (Arg _ (show _≤1000000 by simpa using hl)) (by decide),?_⟩;refine⟨trivial,rfl,rfl,.inr ⟨?_,rfl⟩⟩;simp[resV,bump]
theorem Nl (xs:List V)(hl:xs.length≤1000000):Fun Tryz.prog 84 [] [.sl 6 xs] (CloneQ 6 xs):=by
 refine Ay 100 Tryz.func84 rfl rfl rfl λimps B hi=> ?_;have:imps=[]:=Ard.1 hi;subst this;show Goes _ _ _ _;refine Lg 100 rfl rfl rfl rfl rfl rfl λb hb=> ?_;refine⟨λg=>go 100 ?_,λg=>go 100 ?_⟩
 ·exact⟨trivial,rfl,rfl,.inl ⟨hb g,rfl,rfl⟩⟩
 ·refine⟨trivial,rfl,rfl,Ark (Arg _ (show _≤1000000 by simpa using hl)) (by decide),?_⟩;refine⟨trivial,rfl,rfl,.inr ⟨?_,rfl⟩⟩;simp[resV,bump]
theorem Akx {p q:List Int}{i:Nat}(hp:i<p.length)(hq:i<q.length):common (p.drop i) (q.drop i)=bif decide (p[i]=q[i]) then common (p.drop (i+1)) (q.drop (i+1))+1 else 0:=by
 rw[Aru hp,Aru hq,common]
theorem Wv {p q:List Int}{i:Nat}(h:p.length≤i∨q.length≤i):common (p.drop i) (q.drop i)=0:=by
 rcases h with h|h
 ·rw[Aro h];simp[common]
 ·rw[Aro h];cases p.drop i<;>simp[common]
theorem Te (p q:List Int)(hp:p.length≤1000000):Pure Tryz.prog 140 [pathV p,pathV q] (λx=>x=.int .i64 (common p q)):=by
 refine Ad 100 Tryz.func140 rfl rfl rfl λB=> ?_;show Goes _ _ _ _;refine Ak (ι:=Nat) (λi=>i≤p.length∧i+common (p.drop i) (q.drop i)=common p q) (λi=>p.length-i) (λi=>[(5,.int .i64 i),(1,pathV q),(0,pathV p)]) (λ_=>[]) 0 100 (λ_=>rfl) (λ_=>rfl) ⟨⟨Aq4 _,by simp⟩,?_,trivial⟩ ?_
 ·exact Zq3
 rintro i ⟨k1,k2⟩ next;show Goes _ _ _ _;have fin:common (p.drop i) (q.drop i)=0->V.int .i64 (i:Nat)=.int .i64 (common p q):=λh=>by rw[←k2,h];rfl
 refine Ac [] 100 ⟨λg1=>⟨λg2=> ?_,λg2=> ?_⟩,λg1=> ?_⟩
 ·have hi:i<p.length:=by simpa using g1
  have hi':i<q.length:=by simpa using g2
  have hx:(p.map intV)[i]?=some (intV p[i]):=by simp[hi]
  have hy:(q.map intV)[i]?=some (intV q[i]):=by simp[hi']
  rw[Akx hi hi'] at k2 fin;refine⟨Aq5 i,_,hx,Aq5 i,_,hy,?_⟩;refine⟨by kernel_rfl,?_⟩;refine⟨λg3=>go 100 ?_,λg3=>go 100 ?_⟩
  ·rw[g3] at k2;refine⟨by constructor<;>omega,?_⟩;exact next (i+1) _ _ ⟨⟨hi,by simp only[cond_true] at k2;omega⟩,by omega,Zq3,trivial⟩
  ·rw[g3] at fin;exact⟨trivial,rfl,rfl,rfl,fin rfl⟩
 ·have hi':q.length≤i:=by simpa using g2
  refine⟨by kernel_rfl,?_⟩;exact⟨trivial,rfl,rfl,rfl,fin (Wv (.inr hi'))⟩
 ·have hi:p.length≤i:=by simpa using g1
  refine⟨by kernel_rfl,?_⟩;exact⟨trivial,rfl,rfl,rfl,fin (Wv (.inl hi))⟩
theorem Tf (p q:List Int)(hp:p.length≤1000000):Pure Tryz.prog 134 [pathV p,pathV q] (λx=>x=.bool (within p q)):=by
 refine Aj (Ad 100 Tryz.func134 rfl rfl rfl λB=> ?_);show CallThen _ _ _ _ _ _;refine Aa (Te p q hp) rfl ?_;rintro x rfl;refine⟨trivial,rfl,rfl,rfl,B8 ?_⟩;rw[←K9];simp;omega
theorem Aaa (p q:List Int)(hp:p.length≤1000000):Pure Tryz.prog 101 [pathV p,pathV q] (λx=>x=.bool (decide (p=q))):=by
 refine Aj (Ad 100 Tryz.func101 rfl rfl rfl λB=> ?_);refine⟨λg1=>go 100 ?_,λg1=>go 100 ?_⟩
 ·have g1:p.length=q.length:=by have:=Aw g1;simp at this;omega
  show CallThen _ _ _ _ _ _;refine Aa (Te p q hp) rfl ?_;rintro x rfl;refine⟨trivial,rfl,rfl,rfl,B8 ?_⟩;rw[←Aem p q g1];simp;omega
 ·have g1:=Bg g1;exact⟨trivial,rfl,rfl,rfl,Ar (decide_eq_false λe=>g1 (by rw[e]))⟩
theorem Cg (p q:List Int)(hp:p.length≤1000000):Pure Tryz.prog 148 [pathV p,pathV q] (λx=>x=.bool (decide (p=q))):=by
 refine Ad 100 Tryz.func148 rfl rfl rfl λB=> ?_;show CallThen _ _ _ _ _ _;refine Aa (Wu p q hp) rfl ?_;rintro x rfl;exact⟨trivial,rfl,rfl,rfl,rfl⟩
theorem Cj (p q:List Int)(hp:p.length≤1000000):Pure Tryz.prog 120 [pathV p,pathV q] (λx=>x=.bool (within p q)):=by
 refine Aj (Ad 100 Tryz.func120 rfl rfl rfl λB=> ?_);refine⟨λg1=>go 100 ?_,λg1=>go 100 ?_⟩
 ·have g1:p.length≤q.length:=by have:=Lr g1;simp at this;omega
  refine⟨by decide,by simp,by simpa using g1,?_⟩;show CallThen _ _ _ _ _ _;have e:V.sl 1 ((((q.map intV).drop (Int.toNat 0)).take (((p.map intV).length:Int).toNat-Int.toNat 0)))=pathV (q.take p.length):=by
   unfold pathV;simp
  refine Aa (Q:=λx=>x=.bool (decide (p=q.take p.length))) (by have h:=Wu p (q.take p.length) hp;unfold pathV at e;rw[←e] at h;exact h) rfl ?_;rintro x rfl;exact⟨trivial,rfl,rfl,rfl,B8 rfl⟩
 ·have g1:q.length<p.length:=by have:=I2 g1;simp at this;omega
  refine⟨trivial,rfl,rfl,rfl,Ar ?_⟩;cases h:within p q with
  |false=>rfl
  |true=>have:=Hm h;omega
theorem Ahy {P:Program}{f:FuncId}{sz:Nat}{xs:List V}(h:Fun P f [] [.sl sz xs] (CloneQ sz xs)):Pure P f [.sl sz xs] (λx=>x=.sl sz xs):=by
 refine Aj (Gl (h.mono λx T hx=> ?_))
 rcases hx with⟨e,rfl,rfl⟩| ⟨rfl,rfl⟩
 ·subst e;exact⟨rfl,_,Wk.nil sz,rfl,rfl⟩
 ·exact⟨rfl,rfl,rfl,_,Wk.refl _,rfl,rfl⟩
theorem Pq (p:List Int)(hp:p.length≤1000000)(hne:p≠[]):Pure Tryz.prog 147 [pathV p] (λx=>x=.tup [pathV p.dropLast,intV (p.getLast hne),.tt]):=by
 have hpos:0<p.length:=Arw.2 hne;refine Ad 100 Tryz.func147 rfl rfl rfl λB=> ?_;refine⟨λg1=>go 100 ?_,λg1=>go 100 ?_⟩
 ·have:=Aw g1;simp at this;exact absurd this hne
 refine⟨by constructor<;>simp<;>omega,?_⟩;show Goes _ _ _ _;have e:V.sl 1 ((((p.map intV).drop (Int.toNat 0)).take ((((p.map intV).length:Int)-1).toNat-Int.toNat 0)))=.sl 1 (p.dropLast.map intV):=by
  rw[Awe,Atk]
  congr 2
  simp
 have hx:(p.map intV)[(((p.map intV).length:Int)-1).toNat]?=some (intV (p.getLast hne)):=by
  rw[Arv,List.getLast_eq_getElem];have:(((p.map intV).length:Int)-1).toNat=p.length-1:=by simp
  rw[this,Aq3 (by omega)];rfl
 refine Ac [] 100 ⟨by decide,by simp;omega,by omega,?_⟩;have h:=Ahy (Jk (p.dropLast.map intV) (by rw[Arf,List.length_dropLast];omega));rw[←e] at h;refine⟨_,h,rfl,?_⟩;refine⟨by simp only[Arf];omega,_,hx,?_⟩;refine⟨by kernel_rfl,?_⟩;refine⟨trivial,rfl,rfl,rfl,?_⟩;rw[e];rfl
theorem M0: ∀l:List Tree,l.length≤weights l
 | []=>by rw[weights];simp
 |s::l=>by
  have:=M0 l;have:=Bt s;rw[Qf,Aq8];omega
theorem Bv (t:Tree):t.subs.length<t.weight:=by have:=Bt t;have:=M0 t.subs;omega
theorem N4 {t s:Tree}{i:Nat}(h:t.subs[i]?=some s):t.subV[i]?=some (nodeV s):=by rw[A2,Arv,h];rfl
theorem A6 (t:Tree):t.subV.length=t.subs.length:=by rw[A2,Arf]
theorem Ww:Wk (.tup [zeroV .nilsl,.ff]) (atV (zeroT []) none):=Wk.tup ⟨Ye (ss:=[]) (Wk.nil 6),.refl _,trivial⟩
theorem w_At (t:Tree)(p:List Int)(hp:p.length≤1000000):Pure Tryz.prog 118 [nodeV t,pathV p] (λx=>x=atV (zeroT []) (atT t p)):=by
 refine Aj (Ad 100 Tryz.func118 rfl rfl rfl λB=> ?_);show Goes _ _ _ _;refine Ak (ι:=Nat×Tree) (λi=>i.1≤p.length∧atT i.2 (p.drop i.1)=atT t p) (λi=>p.length-i.1) (λi=>[(10,.int .i64 i.1),(9,.int .i64 (p.map intV).length),(8,pathV p),(2,.ptr (.loc 0) 0),(4,.ptr (.loc 1) 0)]) (λi=>[some (.box (nodeV i.2).cells),some (.box (zeroV .nilsl).cells)]) (0,t) 100 (λ_=>rfl) (λ_=>rfl) ⟨⟨Aq4 _,rfl⟩,?_,?_⟩ ?_
 ·exact Zq5
 ·exact Zq2
 rintro⟨i,s⟩ ⟨k1,k2⟩ next;simp only at k1 k2;refine⟨λhlt=>go 100 ?_,λhge=>go 100 ?_⟩
 ·have hi:i<p.length:=by simpa using hlt
  have hx:(p.map intV)[i]?=some (intV p[i]):=by simp[hi]
  rw[Bi hi,atT] at k2;refine⟨Aq5 i,_,hx,?_⟩;refine⟨λg1=>go 100 ?_,λg1=>go 100 ?_⟩
  ·have g1:=Au g1;rw[Acc g1] at k2;exact⟨trivial,rfl,rfl,rfl,_,Ww,rfl,by rw[←k2]⟩
  have g1:=Ah g1;refine⟨λg2=>go 100 ?_,λg2=>go 100 ?_⟩
  ·have g2:=Lr g2;rw[A6] at g2;rw[Acd g2] at k2;exact⟨trivial,rfl,rfl,rfl,_,Ww,rfl,by rw[←k2]⟩
  ·have g2:=I2 g2;rw[A6] at g2;obtain⟨u,hu,hv⟩:=Afr g1 g2;rw[hu] at k2;refine⟨g1,_,N4 hv,?_⟩;refine⟨by constructor<;>omega,?_⟩;exact next (i+1,u) _ _ ⟨⟨hi,k2⟩,by simp only;omega,Zq5,Zq2⟩
 ·have hi:p.length≤i:=by simpa using hge
  rw[Aro hi,atT] at k2;exact⟨trivial,rfl,rfl,rfl,_,.refl _,rfl,by rw[←k2];rfl⟩
theorem Ly (t:Tree)(p:List Int)(hp:p.length≤1000000):Pure Tryz.prog 92 [nodeV t,pathV p] (λx=>x=atV (zeroT []) (atT t p)):=by
 refine Aj (Ad 100 Tryz.func92 rfl rfl rfl λB=> ?_);show Goes _ _ _ _;refine Ak (ι:=Nat×Tree) (λi=>i.1≤p.length∧atT i.2 (p.drop i.1)=atT t p) (λi=>p.length-i.1) (λi=>[(6,.int .i64 i.1),(1,pathV p),(2,.ptr (.loc 0) 0),(4,.ptr (.loc 1) 0)]) (λi=>[some (.box (nodeV i.2).cells),some (.box (zeroV .nilsl).cells)]) (0,t) 100 (λ_=>rfl) (λ_=>rfl) ⟨⟨Aq4 _,rfl⟩,?_,?_⟩ ?_
 ·exact Zq4
 ·exact Zq2
 rintro⟨i,s⟩ ⟨k1,k2⟩ next;simp only at k1 k2;refine⟨λhlt=>go 100 ?_,λhge=>go 100 ?_⟩
 ·have hi:i<p.length:=by simpa using hlt
  have hx:(p.map intV)[i]?=some (intV p[i]):=by simp[hi]
  rw[Bi hi,atT] at k2;show Goes _ _ _ _;refine Ac [] 100 ⟨Aq5 i,_,hx,⟨λg1=> ?_,λg1=> ?_⟩⟩
  ·have g1:=Au g1;rw[Acc g1] at k2;refine⟨by kernel_rfl,?_⟩;exact⟨trivial,rfl,rfl,rfl,_,Ww,rfl,by rw[←k2]⟩
  have g1:=Ah g1;refine⟨Aq5 i,_,hx,?_⟩;refine⟨by kernel_rfl,?_⟩;refine⟨λg2=>go 100 ?_,λg2=>go 100 ?_⟩
  ·have g2:=Lr g2;rw[A6] at g2;rw[Acd g2] at k2;exact⟨trivial,rfl,rfl,rfl,_,Ww,rfl,by rw[←k2]⟩
  ·have g2:=I2 g2;rw[A6] at g2;obtain⟨u,hu,hv⟩:=Afr g1 g2;rw[hu] at k2;show Goes _ _ _ _;refine Ac [] 100 ⟨Aq5 i,_,hx,g1,_,N4 hv,?_⟩;refine⟨by kernel_rfl,?_⟩;refine⟨by constructor<;>omega,?_⟩;exact next (i+1,u) _ _ ⟨⟨hi,k2⟩,by simp only;omega,Zq4,Zq2⟩
 ·have hi:p.length≤i:=by simpa using hge
  rw[Aro hi,atT] at k2;exact⟨trivial,rfl,rfl,rfl,_,.refl _,rfl,by rw[←k2];rfl⟩
theorem Aky (t:Tree)(at_:Int):Pure Tryz.prog 119 [nodeV t,intV at_] (λx=>x=.int .i64 (intoE t at_)):=by
 refine Ad 100 Tryz.func119 rfl rfl rfl λB=> ?_;refine⟨λg1=>go 100 ?_,λg1=>go 100 ?_⟩
 ·exact⟨trivial,rfl,rfl,rfl,by unfold intoE;rw[g1];rfl⟩
 refine⟨λg2=>go 100 ?_,λg2=>go 100 ?_⟩
 ·rw[A6] at g2;exact⟨trivial,rfl,rfl,rfl,by unfold intoE;rw[g1,g2];rfl⟩
 ·rw[A6] at g2;exact⟨trivial,rfl,rfl,rfl,by unfold intoE;rw[g1,g2];rfl⟩
theorem Aab (t:Tree)(at_:Int):Pure Tryz.prog 133 [nodeV t,intV at_] (λx=>x=.int .i64 (intoE t at_)):=by
 refine Ad 100 Tryz.func133 rfl rfl rfl λB=> ?_;refine⟨λg1=>go 100 ?_,λg1=>go 100 ?_⟩
 ·exact⟨trivial,rfl,rfl,rfl,by unfold intoE;rw[g1];rfl⟩
 refine⟨λg2=>go 100 ?_,λg2=>go 100 ?_⟩
 ·rw[A6] at g2;exact⟨trivial,rfl,rfl,rfl,by unfold intoE;rw[g1,g2];rfl⟩
 ·rw[A6] at g2;exact⟨trivial,rfl,rfl,rfl,by unfold intoE;rw[g1,g2];rfl⟩
theorem Ui (t:Tree)(i:Nat)(s:Tree):t.subV.set i (nodeV s)=(t.subs.set i s).map nodeV:=by rw[A2,Au5]
theorem K2 (g:FuncId)(c1:List V)(F:Tree->Tree)(y:Tree)
  (hg:Fun Tryz.prog g [some (.box (nodeV y).cells)] [.ptr (.loc 0) 0,.iptr c1 0] (λ_ T=>T=[some (.box (nodeV (F y)).cells)])):
  ∀(p:List Int) (t:Tree),p.length≤1000000->t.weight≤1000000->atT t p=some y->Pure Tryz.prog 125 [nodeV t,pathV p,.fn (.func g) [] [.iptr c1 0]] (λx=>x=nodeV (changeT F t p))
 | [],t,hp,ht,hy=>by
  rw[atT] at hy;injection hy with hy
  subst hy;refine Ad 100 Tryz.func125 rfl rfl rfl λB=> ?_;refine⟨λg1=>go 100 ?_,λg1=> ?_⟩
  case refine_2=>exact absurd rfl (Bg g1)
  show CallThen _ _ _ _ _ _;refine Ag [0] hg rfl rfl Zq1 rfl rfl rfl ?_;rintro x T1 rfl;refine⟨rfl,?_⟩;exact⟨trivial,rfl,rfl,rfl,rfl⟩
 |i::p,t,hp,ht,hy=>by
  rw[atT] at hy;cases hs:subT t i with
  |none=>rw[hs] at hy;cases hy
  |some s=>
  rw[hs] at hy;simp only at hy;obtain⟨hi0,hat,hmem⟩:=A1 hs;have hlt:=Ab hat;have hw:=D5 hmem;have hsl:=Bv t;have ih:=K2 g c1 F y hg p s (by simp at hp;omega) (by omega) hy;refine Ad 100 Tryz.func125 rfl rfl rfl λB=> ?_;refine⟨λg1=> ?_,λg1=>go 100 ?_⟩
  ·have:=Aw g1;simp at this;omega
  show CallThen _ _ _ _ _ _;refine Ag [] (Nl t.subV (by rw[A6];omega)) rfl rfl trivial rfl rfl rfl ?_;rintro x T1 (⟨e,_⟩| ⟨rfl,rfl⟩)
  ·have:=congrArg List.length e;rw[A6,Arc] at this;omega
  refine⟨rfl,?_⟩;show Goes _ _ _ _;have hx:t.subV[0+i.toNat]?=some (nodeV s):=by rw[Ary];exact N4 hat
  have hil:i< (t.subV.length:Int):=by rw[A6];omega
  have e:V.sl 1 ((((i::p).map intV).drop (Int.toNat 1)).take (((((i::p).map intV).length:Nat):Int).toNat-Int.toNat 1))=pathV p:=by
   unfold pathV;rw[Ars (by simp)];rfl
  refine Ac [] 100 ⟨by decide,_,rfl,by decide,_,rfl,rfl,hi0,hil,rfl,_,hx,by decide,by simp;omega,by omega,nodeV (changeT F s p),?_,rfl,rfl,hi0,hil,rfl,_,hx,?_⟩
  ·unfold pathV at e ih;rw[e];exact ih
  refine⟨by kernel_rfl,?_⟩;refine⟨trivial,rfl,rfl,rfl,(by simp),rfl,?_⟩;rw[changeT,hs];simp only;rw[Gb,←Ui,Ary];rfl
theorem Aac (g:FuncId)(c1 c2:List V)(F:Tree->Tree)(y:Tree)
  (hg:Fun Tryz.prog g [some (.box (nodeV y).cells)] [.ptr (.loc 0) 0,.iptr c1 0,.iptr c2 0] (λ_ T=>T=[some (.box (nodeV (F y)).cells)])):
  ∀(p:List Int) (t:Tree),p.length≤1000000->t.weight≤1000000->atT t p=some y->Pure Tryz.prog 125 [nodeV t,pathV p,.fn (.func g) [] [.iptr c1 0,.iptr c2 0]] (λx=>x=nodeV (changeT F t p))
 | [],t,hp,ht,hy=>by
  rw[atT] at hy;injection hy with hy
  subst hy;refine Ad 100 Tryz.func125 rfl rfl rfl λB=> ?_;refine⟨λg1=>go 100 ?_,λg1=> ?_⟩
  case refine_2=>exact absurd rfl (Bg g1)
  show CallThen _ _ _ _ _ _;refine Ag [0] hg rfl rfl Zq1 rfl rfl rfl ?_;rintro x T1 rfl;refine⟨rfl,?_⟩;exact⟨trivial,rfl,rfl,rfl,rfl⟩
 |i::p,t,hp,ht,hy=>by
  rw[atT] at hy;cases hs:subT t i with
  |none=>rw[hs] at hy;cases hy
  |some s=>
  rw[hs] at hy;simp only at hy;obtain⟨hi0,hat,hmem⟩:=A1 hs;have hlt:=Ab hat;have hw:=D5 hmem;have hsl:=Bv t;have ih:=Aac g c1 c2 F y hg p s (by simp at hp;omega) (by omega) hy;refine Ad 100 Tryz.func125 rfl rfl rfl λB=> ?_;refine⟨λg1=> ?_,λg1=>go 100 ?_⟩
  ·have:=Aw g1;simp at this;omega
  show CallThen _ _ _ _ _ _;refine Ag [] (Nl t.subV (by rw[A6];omega)) rfl rfl trivial rfl rfl rfl ?_;rintro x T1 (⟨e,_⟩| ⟨rfl,rfl⟩)
  ·have:=congrArg List.length e;rw[A6,Arc] at this;omega
  refine⟨rfl,?_⟩;show Goes _ _ _ _;have hx:t.subV[0+i.toNat]?=some (nodeV s):=by rw[Ary];exact N4 hat
  have hil:i< (t.subV.length:Int):=by rw[A6];omega
  have e:V.sl 1 ((((i::p).map intV).drop (Int.toNat 1)).take (((((i::p).map intV).length:Nat):Int).toNat-Int.toNat 1))=pathV p:=by
   unfold pathV;rw[Ars (by simp)];rfl
  refine Ac [] 100 ⟨by decide,_,rfl,by decide,_,rfl,rfl,hi0,hil,rfl,_,hx,by decide,by simp;omega,by omega,nodeV (changeT F s p),?_,rfl,rfl,hi0,hil,rfl,_,hx,?_⟩
  ·unfold pathV at e ih;rw[e];exact ih
  refine⟨by kernel_rfl,?_⟩;refine⟨trivial,rfl,rfl,rfl,(by simp),rfl,?_⟩;rw[changeT,hs];simp only;rw[Gb,←Ui,Ary];rfl
theorem Akz (x y:Tree)(n:Int)(h0:0≤n)(h1:n≤y.subs.length)(hl:y.subs.length≤900000):Fun Tryz.prog 161 [some (.box (nodeV y).cells)] [.ptr (.loc 0) 0,.iptr [intV n] 0,.iptr (nodeV x).cells 0] (λ_ T=>T=[some (.box (nodeV (insT n x y)).cells)]):=by
 refine A9 1 rfl (Ay 100 Tryz.func161 rfl rfl rfl λimps B hi=> ?_);obtain⟨r,rfl⟩:=At2.1 hi;show Goes _ _ _ _;have hnl:n≤(y.subV.length:Int):=by rw[A6];exact h1
 have hc:=Rf [(y.subV.drop (Int.toNat 0)).take (n.toNat-Int.toNat 0),[nodeV x],(y.subV.drop n.toNat).take ((y.subV.length:Int).toNat-n.toNat)] (by
  simp[A6];omega) (by simp)
 refine Ac [] 100 ⟨by decide,h0,hnl,?_⟩;refine⟨by kernel_rfl,⟨rfl,trivial⟩,rfl,h0,hnl,Arr _,?_⟩;refine⟨by kernel_rfl,rfl,rfl,⟨rfl,rfl,rfl,trivial⟩,rfl,rfl,rfl,_,hc,rfl,?_⟩;refine⟨by kernel_rfl,?_⟩;refine⟨trivial,rfl,rfl,[some (.box [.int .u64 y.id,.bool y.leaf,.str y.label,.sl 2 (y.attrs.map attrV),.str y.text,.sl 6 [(y.subV.drop (Int.toNat 0)).take (n.toNat-Int.toNat 0),[nodeV x],(y.subV.drop n.toNat).take ((y.subV.length:Int).toNat-n.toNat)].flatten])],rfl,rfl,Zq1,?_⟩;have e:[(y.subV.drop (Int.toNat 0)).take (n.toNat-Int.toNat 0),[nodeV x],(y.subV.drop n.toNat).take ((y.subV.length:Int).toNat-n.toNat)].flatten=(y.subs.take n.toNat++x::y.subs.drop n.toNat).map nodeV:=by
  rw[A2];simp[Atk,At3];rw[Ars (by simp)]
 rw[e,insT,Gb];rfl
theorem Ak0 (y:Tree)(n:Int)(h0:0≤n)(h1:n<y.subs.length)(hl:y.subs.length≤900000):Fun Tryz.prog 163 [some (.box (nodeV y).cells)] [.ptr (.loc 0) 0,.iptr [intV n] 0] (λ_ T=>T=[some (.box (nodeV (delT n y)).cells)]):=by
 refine A9 1 rfl (Ay 100 Tryz.func163 rfl rfl rfl λimps B hi=> ?_);obtain⟨r,rfl⟩:=At2.1 hi;show Goes _ _ _ _;have hnl:n≤(y.subV.length:Int):=by rw[A6];omega
 have hnl':n+1≤(y.subV.length:Int):=by rw[A6];omega
 have hc:=Rf [(y.subV.drop (Int.toNat 0)).take (n.toNat-Int.toNat 0),(y.subV.drop (n+1).toNat).take ((y.subV.length:Int).toNat- (n+1).toNat)] (by
  simp[A6];omega) (by simp)
 refine Ac [] 100 ⟨by decide,h0,hnl,?_⟩;refine⟨⟨by omega,by omega⟩,by omega,hnl',Arr _,?_⟩;refine⟨by kernel_rfl,⟨rfl,rfl,trivial⟩,rfl,rfl,rfl,_,hc,rfl,?_⟩;refine⟨by kernel_rfl,?_⟩;refine⟨trivial,rfl,rfl,[some (.box [.int .u64 y.id,.bool y.leaf,.str y.label,.sl 2 (y.attrs.map attrV),.str y.text,.sl 6 [(y.subV.drop (Int.toNat 0)).take (n.toNat-Int.toNat 0),(y.subV.drop (n+1).toNat).take ((y.subV.length:Int).toNat- (n+1).toNat)].flatten])],rfl,rfl,Zq1,?_⟩;have e:[(y.subV.drop (Int.toNat 0)).take (n.toNat-Int.toNat 0),(y.subV.drop (n+1).toNat).take ((y.subV.length:Int).toNat- (n+1).toNat)].flatten=(y.subs.take n.toNat++y.subs.drop (n.toNat+1)).map nodeV:=by
  have e1:(n+1).toNat=n.toNat+1:=by omega
  rw[A2,e1];simp[Atk,At3];rw[Ars (by simp)]
 rw[e,delT,Gb];rfl
theorem Adt (t x y:Tree)(p:List Int)(n:Int)(hp:p.length≤1000000)(ht:t.weight≤900000)(hy:atT t p=some y)(h0:0≤n)(h1:n≤y.subs.length):
  Pure Tryz.prog 122 [nodeV t,pathV p,intV n,nodeV x] (λz=>z=nodeV (changeT (insT n x) t p)):=by
 have hyw:=Ce hy;have hys:=Bv y;refine Ad 100 Tryz.func122 rfl rfl rfl λB=> ?_;show CallThen _ _ _ _ _ _;refine Dl 1 rfl rfl ?_;refine Dl 2 rfl rfl ?_;refine Aa (Aac 161 [intV n] (nodeV x).cells (insT n x) y (Akz x y n h0 h1 (by omega)) p t hp (by omega) hy) rfl ?_;rintro z rfl;exact⟨trivial,rfl,rfl,rfl,rfl⟩
theorem Adu (t y:Tree)(p:List Int)(hp:p.length≤1000000)(hne:p≠[])(ht:t.weight≤900000)(hy:atT t p.dropLast=some y)(h0:0≤p.getLast hne)(h1:p.getLast hne<y.subs.length):
  Pure Tryz.prog 123 [nodeV t,pathV p] (λz=>z=nodeV (changeT (delT (p.getLast hne)) t p.dropLast)):=by
 have hyw:=Ce hy;have hys:=Bv y;refine Ad 100 Tryz.func123 rfl rfl rfl λB=> ?_;show CallThen _ _ _ _ _ _;refine Aa (Pq p hp hne) rfl ?_;rintro z rfl;show CallThen _ _ _ _ _ _;refine Dl 2 rfl rfl ?_;refine Aa (K2 163 [intV (p.getLast hne)] (delT (p.getLast hne)) y (Ak0 y _ h0 h1 (by omega)) p.dropLast t (by simp;omega) (by omega) hy) rfl ?_;rintro z rfl;exact⟨trivial,rfl,rfl,rfl,rfl⟩
def landV (r:List Int×Int):V:=.tup [pathV r.1,intV r.2]
theorem Ak1 (p to:List Int)(n:Int)(hp:p.length≤1000000)(ht:to.length≤1000000)(hne:p≠[])(hn:inI n)(hr: ∀x∈to,inI x)(h0:0≤p.getLast hne):
  Pure Tryz.prog 124 [pathV p,pathV to,intV n] (λz=>z=landV (landT p.dropLast (p.getLast hne) to n)):=by
 obtain⟨hn1,hn2⟩:=hn;have hq:p.dropLast.length≤1000000:=by simp;omega
 refine Ad 100 Tryz.func124 rfl rfl rfl λB=> ?_;show CallThen _ _ _ _ _ _;refine Aa (Pq p hp hne) rfl ?_;rintro z rfl;show CallThen _ _ _ _ _ _;refine Aa (Cg p.dropLast to hq) rfl ?_;rintro z rfl;have other:(decide (p.dropLast=to)&&decide (p.getLast hne<n))=false->landT p.dropLast (p.getLast hne) to n=bif within p.dropLast to&& (decide (p.dropLast.length<to.length)&&decide (p.getLast hne<to.getD p.dropLast.length 0)) then(to.set p.dropLast.length (to.getD p.dropLast.length 0-1),n) else(to,n):=λh=>by
  unfold landT;rw[h];rfl
 have hlen:((p.dropLast.map intV).length:Int)=(p.dropLast.length:Int):=by simp
 refine⟨λg1=>go 100 ⟨λg2=>go 100 ?_,λg2=> ?_⟩,λg1=> ?_⟩
 ·have g2':=Au g2;refine⟨by constructor<;>omega,?_⟩;refine⟨trivial,rfl,rfl,rfl,?_⟩;unfold landT;rw[g1,g2];rfl
 case refine_2=>
  replace other:=other (by rw[g1,g2];rfl);refine go 100 ?_;show CallThen _ _ _ _ _ _;refine Aa (Cj p.dropLast to hq) rfl ?_;rintro z rfl;refine⟨λg3=>go 100 ⟨λg4=>go 100 ?_,λg4=>go 100 ?_⟩,λg3=>go 100 ?_⟩
  ·have g4':=Au g4;rw[hlen] at g4';simp only[Arf] at g4';have g4l:p.dropLast.length<to.length:=by omega
   have hx:(to.map intV)[(((p.dropLast.map intV).length:Nat):Int).toNat]?=some (intV (to.getD p.dropLast.length 0)):=by
    have e:(((p.dropLast.map intV).length:Nat):Int).toNat=p.dropLast.length:=by simp
    rw[e,Arv,Aq3 g4l,Asg,Aq3 g4l];rfl
   refine⟨Aq5 _,_,hx,?_⟩;refine⟨λg5=>go 100 ?_,λg5=>go 100 ?_⟩
   ·show CallThen _ _ _ _ _ _;refine Ag [] (Jk (to.map intV) (by simpa using ht)) rfl rfl trivial rfl rfl rfl ?_;rintro z T1 (⟨e,_⟩| ⟨rfl,rfl⟩)
    ·have:=congrArg List.length e;simp at this;subst this;simp at g4l
    refine⟨rfl,?_⟩;have hx':(to.map intV)[0+ (((p.dropLast.map intV).length:Nat):Int).toNat]?=some (intV (to.getD p.dropLast.length 0)):=by rw[Ary];exact hx
    have hlt:(((p.dropLast.map intV).length:Nat):Int)< ((to.map intV).length:Nat):=by simp;simp at g4l;omega
    have hr':=hr (to.getD p.dropLast.length 0) (by rw[Asg,Aq3 g4l];exact Arq g4l);have g5':=Au g5;obtain⟨r1,r2⟩:=hr';refine⟨rfl,Aq5 _,hlt,rfl,_,hx',⟨by omega,by omega⟩,rfl,Aq5 _,hlt,rfl,_,hx',?_⟩;refine⟨trivial,rfl,rfl,rfl,by simp,rfl,?_⟩;rw[other];rw[g3,decide_eq_true g4l,g5];have e:0+ (((p.dropLast.map intV).length:Nat):Int).toNat=p.dropLast.length:=by simp
    show V.tup [V.sl 1 (((to.map intV)).set _ (intV (to.getD p.dropLast.length 0-1))),intV n]=landV (to.set p.dropLast.length (to.getD p.dropLast.length 0-1),n);rw[e,←Au5];rfl
   ·refine⟨trivial,rfl,rfl,rfl,?_⟩;rw[other,g3,decide_eq_true g4l,g5];rfl
  ·refine⟨trivial,rfl,rfl,rfl,?_⟩;have g4':=Ah g4;rw[hlen] at g4';simp only[Arf] at g4';have g4l: ¬p.dropLast.length<to.length:=by omega
   rw[other,g3,decide_eq_false g4l];rfl
  ·refine⟨trivial,rfl,rfl,rfl,?_⟩;rw[other,g3];rfl
 case refine_3=>
  replace other:=other (by rw[g1];rfl);refine go 100 ?_;show CallThen _ _ _ _ _ _;refine Aa (Cj p.dropLast to hq) rfl ?_;rintro z rfl;refine⟨λg3=>go 100 ⟨λg4=>go 100 ?_,λg4=>go 100 ?_⟩,λg3=>go 100 ?_⟩
  ·have g4':=Au g4;rw[hlen] at g4';simp only[Arf] at g4';have g4l:p.dropLast.length<to.length:=by omega
   have hx:(to.map intV)[(((p.dropLast.map intV).length:Nat):Int).toNat]?=some (intV (to.getD p.dropLast.length 0)):=by
    have e:(((p.dropLast.map intV).length:Nat):Int).toNat=p.dropLast.length:=by simp
    rw[e,Arv,Aq3 g4l,Asg,Aq3 g4l];rfl
   refine⟨Aq5 _,_,hx,?_⟩;refine⟨λg5=>go 100 ?_,λg5=>go 100 ?_⟩
   ·show CallThen _ _ _ _ _ _;refine Ag [] (Jk (to.map intV) (by simpa using ht)) rfl rfl trivial rfl rfl rfl ?_;rintro z T1 (⟨e,_⟩| ⟨rfl,rfl⟩)
    ·have:=congrArg List.length e;simp at this;subst this;simp at g4l
    refine⟨rfl,?_⟩;have hx':(to.map intV)[0+ (((p.dropLast.map intV).length:Nat):Int).toNat]?=some (intV (to.getD p.dropLast.length 0)):=by rw[Ary];exact hx
    have hlt:(((p.dropLast.map intV).length:Nat):Int)< ((to.map intV).length:Nat):=by simp;simp at g4l;omega
    have hr':=hr (to.getD p.dropLast.length 0) (by rw[Asg,Aq3 g4l];exact Arq g4l);have g5':=Au g5;obtain⟨r1,r2⟩:=hr';refine⟨rfl,Aq5 _,hlt,rfl,_,hx',⟨by omega,by omega⟩,rfl,Aq5 _,hlt,rfl,_,hx',?_⟩;refine⟨trivial,rfl,rfl,rfl,by simp,rfl,?_⟩;rw[other];rw[g3,decide_eq_true g4l,g5];have e:0+ (((p.dropLast.map intV).length:Nat):Int).toNat=p.dropLast.length:=by simp
    show V.tup [V.sl 1 (((to.map intV)).set _ (intV (to.getD p.dropLast.length 0-1))),intV n]=landV (to.set p.dropLast.length (to.getD p.dropLast.length 0-1),n);rw[e,←Au5];rfl
   ·refine⟨trivial,rfl,rfl,rfl,?_⟩;rw[other,g3,decide_eq_true g4l,g5];rfl
  ·refine⟨trivial,rfl,rfl,rfl,?_⟩;have g4':=Ah g4;rw[hlen] at g4';simp only[Arf] at g4';have g4l: ¬p.dropLast.length<to.length:=by omega
   rw[other,g3,decide_eq_false g4l];rfl
  ·refine⟨trivial,rfl,rfl,rfl,?_⟩;rw[other,g3];rfl
theorem Ane (t:Tree)(h:t.weight≤1000000):Pure Tryz.prog 82 [nodeV t] (λx=>x=.bool (rightN t)):=by
  have hw:=Bt t;refine Aj (Ad 300 Tryz.func82 rfl rfl rfl λB=> ?_)
  repeat' first
    | (refine⟨λ_=>go 300 ?_,λ_=>go 300 ?_⟩)
    | (refine⟨trivial,rfl,rfl,rfl,Ar ?_⟩)
    | (show Goes _ _ _ _
       suffices hr:rightN t=attrsOk none t.attrs by
         refine Ak (ι:=Nat) (λi=>i≤t.attrs.length∧attrsOk (prevK t.attrs i) (t.attrs.drop i)=rightN t) (λi=>t.attrs.length-i) (λi=>[(32,.int .i64 i),(31,.int .i64 (t.attrs.map attrV).length),(30,.sl 2 (t.attrs.map attrV)),(1,.ptr (.loc 0) 0)]) (λi=>[some (.box (nodeV t).cells)]) 0 300 (λ_=>rfl) (λ_=>rfl) ⟨⟨Aq4 _,hr.symm⟩,Zq4,Zq1⟩ ?_;rintro i ⟨k1,k2⟩ next;refine⟨λhlt=>go 300 ?_,λhge=>go 300 ?_⟩
         · have hi:i<t.attrs.length:=by simpa using hlt
           have hx:(t.attrs.map attrV)[i]?=some (attrV t.attrs[i]):=by simp[hi]
           rw[Acj hi] at k2;unfold attrOk at k2;have cont:keyOk t.attrs[i].1=true->decide ((t.attrs[i].2.length:Int)≤256)=true->ordOk (prevK t.attrs i) t.attrs[i].1=true->attrsOk (prevK t.attrs (i+1)) (t.attrs.drop (i+1))=rightN t:=λa b c=>by rw[a,b,c] at k2;simpa using k2
           have stop1:keyOk t.attrs[i].1=false->rightN t=false:=λa=>by rw[←k2,a];rfl
           have stop2:decide ((t.attrs[i].2.length:Int)≤256)=false->rightN t=false:=λa=>by rw[←k2,a];simp
           have stop3:ordOk (prevK t.attrs i) t.attrs[i].1=false->rightN t=false:=λa=>by rw[←k2,a];simp
           refine⟨Aq5 i,_,hx,?_⟩;show Goes _ _ _ _;refine Ac [] 300 ⟨_,An2 t.attrs[i].1,rfl,⟨λq1=> ?_,λq1=>⟨λq2=> ?_,λq2=>⟨λq3=> ?_,λq3=> ?_⟩⟩⟩⟩
           · refine⟨by kernel_rfl,?_⟩
             exact⟨trivial,rfl,rfl,rfl,Ar (stop1 (by simpa using q1))⟩
           · refine⟨by kernel_rfl,?_⟩
             exact⟨trivial,rfl,rfl,rfl,Ar (stop2 (by have:=Au q2;simp;omega))⟩
           · have q3':0<i:=by have:=Au q3;omega
             have hx':(t.attrs.map attrV)[((i:Int)-1).toNat]?=some (attrV t.attrs[i-1]):=by
               have:((i:Int)-1).toNat=i-1:=by omega
               rw[this];simp[show i-1<t.attrs.length by omega]
             have hp:prevK t.attrs i=some t.attrs[i-1].1:=by
               obtain⟨j,rfl⟩: ∃j,i=j+1:=⟨i-1,by omega⟩;rw[prevK,Asg,Aq3 (by omega)];rfl
             rw[hp] at cont stop3;refine⟨⟨by omega,by omega⟩,by omega,_,hx',?_⟩;refine⟨by kernel_rfl,?_⟩;refine⟨λq4=>go 300 ?_,λq4=>go 300 ?_⟩
             · exact⟨trivial,rfl,rfl,rfl,Ar (stop3 (congrArg Bool.not q4))⟩
             · refine⟨by constructor<;>omega,?_⟩
               exact next (i+1) _ _ ⟨⟨hi,cont (by simpa using q1) (by have:=Ah q2;simp;omega) (congrArg Bool.not q4)⟩,by omega,Zq4,Zq1⟩
           · have q3':i=0:=by have:=Ah q3;omega
             subst q3';refine⟨by kernel_rfl,?_⟩;refine⟨by constructor<;>omega,?_⟩;exact next 1 _ _ ⟨⟨hi,cont (by simpa using q1) (by have:=Ah q2;simp;omega) rfl⟩,by omega,Zq4,Zq1⟩
         · have hi:i=t.attrs.length:=by have:t.attrs.length≤i:=(by simpa using hge);omega
           subst hi;rw[Aro (Ara _),attrsOk] at k2;exact⟨trivial,rfl,rfl,rfl,Cu k2.symm⟩)
    |fail
  all_goals (simp_all[rightN,headOk,A2])
def rightUpd (_:Unit)(p:Int×Tree):Unit×Option Code:=bif rightN p.2 then((),none) else((),some .ret)
theorem Rg: ∀l:List (Int×Tree),rfold rightUpd () l=bif l.all (λp=>rightN p.2) then((),none) else((),some .ret)
 | []=>rfl
 |p::l=>by
  rw[rfold,Avb];cases h:rightN p.2 with
  |false=>simp[rightUpd,h]
  |true=>
   simp only[rightUpd,h,cond_true,Asb];exact Rg l
theorem Pr (t:Tree)(h:t.weight≤1000000):Pure Tryz.prog 50 [nodeV t] (λx=>x=.bool (rightT t)):=by
 have hs:=Nt t;refine Aj (Ad 100 Tryz.func50 rfl rfl rfl λB=> ?_);refine⟨λg1=>go 100 ?_,λg1=>go 100 ?_⟩
 ·exact⟨trivial,rfl,rfl,rfl,Ar (by unfold rightT;rw[g1];rfl)⟩
 show CallThen _ _ _ _ _ _;refine Aa (Aox t) rfl ?_;rintro x rfl;show Goes _ _ _ _;refine U1 (σ:=Unit) 100 2 (λ_=>[some (.box (nodeV t).cells),some (.box [.ff])]) rightUpd preV (λ_ l=> ∀p∈l,p.2.weight≤1000000) () (t.pre 0) rfl rfl rfl (Ap5 t (by omega)) rfl (λ_=>rfl) (λ_=>rfl) (λ_=>rfl) rfl (λ_=>rfl) (λ_ _ h=>by cases h) ?_ ?_ ?_
 ·exact λp hp=>Ark (Xp t 0 p hp).1 h
 ·intro s a l hI;refine⟨λ_ p hp=>hI p (Are _ hp),λimps B r l h1 h2=> ?_⟩;have h0:=hI a Ari;have hr:=Ane a.2 h0;show Goes _ _ _ _;refine Mo 100 rfl h2 rfl ?_;show CallThen _ _ _ _ _ _;refine Aa hr rfl ?_;rintro x rfl;unfold rightUpd;refine⟨λg=>go 100 ?_,λg=>go 100 ?_⟩
  ·have g:rightN a.2=false:=by simpa using g
   rw[g];exact⟨rfl,rfl,trivial,⟨rfl,rfl⟩,⟨rfl,rfl⟩,⟨rfl,rfl⟩,⟨rfl,rfl⟩,trivial⟩
  ·have g:rightN a.2=true:=by simpa using g
   rw[g];exact⟨rfl,rfl,trivial,⟨rfl,rfl⟩,⟨rfl,rfl⟩,⟨rfl,rfl⟩,⟨rfl,rfl⟩,trivial⟩
 ·rw[Rg,Zl];cases hr:t.rightA with
  |true=>exact⟨trivial,rfl,rfl,rfl,Cu (by unfold rightT;rw[g1,hr];rfl)⟩
  |false=>exact⟨trivial,rfl,rfl,rfl,Ar (by unfold rightT;rw[g1,hr];rfl)⟩
theorem Ahz {l:List Tree}{i:Nat}(hi:i<l.length):rightsA (l.drop i)=(l[i].rightA&&rightsA (l.drop (i+1))):=by rw[Aru hi,rightsA]
theorem Ae2 (t:Tree):t.weight≤1000000->Pure Tryz.prog 79 [nodeV t] (λx=>x=.bool t.rightA):=by
  induction t using Tree.ind with
  |_ t ih=>
  intro h;have hw:=Bt t;refine Aj (Ad 300 Tryz.func79 rfl rfl rfl λB=> ?_);have hA:=It t;have no:rightN t=false->t.rightA=false:=λe=>by rw[hA,e];rfl
  repeat' first
    | (refine⟨λ_=>go 300 ?_,λ_=>go 300 ?_⟩)
    | (refine⟨trivial,rfl,rfl,rfl,Ar ?_⟩)
    | (show Goes _ _ _ _
       suffices hr:rightN t=attrsOk none t.attrs by
         refine Hd (ι:=Nat) (λi=>i≤t.attrs.length∧attrsOk (prevK t.attrs i) (t.attrs.drop i)=rightN t) (λi=>t.attrs.length-i) (λi=>[(3,.int .i64 i),(1,.ptr (.loc 0) 0)]) (λi=>[some (.box (nodeV t).cells)]) 0
           (λ_:Unit=>rightN t=true) (λ_=>[(1,.ptr (.loc 0) 0)]) (λ_=>[some (.box (nodeV t).cells)]) 300 (λ_=>rfl) (λ_=>rfl) (λ_=>rfl) (λ_=>rfl) ⟨⟨Aq4 _,hr.symm⟩,Zq2,Zq1⟩ ?_ ?_
         · rintro⟨⟩ hN
           show Goes _ _ _ _;refine Ak (ι:=Nat) (λi=>i≤t.subs.length∧rightsA (t.subs.drop i)=rightsA t.subs) (λi=>t.subs.length-i) (λi=>[(4,.int .i64 i),(1,.ptr (.loc 0) 0)]) (λi=>[some (.box (nodeV t).cells)]) 0 300 (λ_=>rfl) (λ_=>rfl) ⟨⟨Aq4 _,rfl⟩,Zq2,Zq1⟩ ?_;rintro i ⟨k1,k2⟩ next;refine⟨λhlt=>go 300 ?_,λhge=>go 300 ?_⟩
           · have hi:i<t.subs.length:=by simpa[A2] using hlt
             have hmem:t.subs[i]∈t.subs:=Arq hi;have hws:=D5 hmem;have hsl:=Bv t;rw[Ahz hi] at k2;refine⟨Aq5 i,nodeV t.subs[i],by simp[A2,hi],?_⟩;show CallThen _ _ _ _ _ _;refine Aa (ih _ hmem (by omega)) rfl ?_;rintro x rfl;refine⟨λg=>go 300 ?_,λg=>go 300 ?_⟩
             · have g:(t.subs[i]).rightA=false:=by simpa using g
               exact⟨trivial,rfl,rfl,rfl,Ar (by rw[hA,←k2,g];simp)⟩
             · have g:(t.subs[i]).rightA=true:=by simpa using g
               rw[g,Asb] at k2;refine⟨by constructor<;>omega,?_⟩;exact next (i+1) _ _ ⟨⟨hi,k2⟩,by omega,Zq2,Zq1⟩
           · have hi:t.subs.length≤i:=by simpa[A2] using hge
             rw[Aro hi,rightsA] at k2;exact⟨trivial,rfl,rfl,rfl,Cu (by rw[hA,hN,←k2];rfl)⟩
         · rintro i ⟨k1,k2⟩ next post
           refine⟨λhlt=>go 300 ?_,λhge=>go 300 ?_⟩
           · have hi:i<t.attrs.length:=by simpa using hlt
             have hx:(t.attrs.map attrV)[i]?=some (attrV t.attrs[i]):=by simp[hi]
             rw[Acj hi] at k2;unfold attrOk at k2;have cont:keyOk t.attrs[i].1=true->decide ((t.attrs[i].2.length:Int)≤256)=true->ordOk (prevK t.attrs i) t.attrs[i].1=true->attrsOk (prevK t.attrs (i+1)) (t.attrs.drop (i+1))=rightN t:=λa b c=>by rw[a,b,c] at k2;simpa using k2
             have stop1:keyOk t.attrs[i].1=false->rightN t=false:=λa=>by rw[←k2,a];rfl
             have stop2:decide ((t.attrs[i].2.length:Int)≤256)=false->rightN t=false:=λa=>by rw[←k2,a];simp
             have stop3:ordOk (prevK t.attrs i) t.attrs[i].1=false->rightN t=false:=λa=>by rw[←k2,a];simp
             show Goes _ _ _ _;refine Ac [] 300 ⟨Aq5 i,_,hx,_,Ad5 t.attrs[i].1,rfl,⟨λq1=> ?_,λq1=>⟨Aq5 i,_,hx,⟨λq2=> ?_,λq2=>⟨λq3=> ?_,λq3=> ?_⟩⟩⟩⟩⟩
             · refine⟨by kernel_rfl,?_⟩
               exact⟨trivial,rfl,rfl,rfl,Ar (no (stop1 (by simpa using q1)))⟩
             · refine⟨by kernel_rfl,?_⟩
               exact⟨trivial,rfl,rfl,rfl,Ar (no (stop2 (by have:=Au q2;simp;omega)))⟩
             · have q3':0<i:=by have:=Au q3;omega
               have hx':(t.attrs.map attrV)[((i:Int)-1).toNat]?=some (attrV t.attrs[i-1]):=by
                 have:((i:Int)-1).toNat=i-1:=by omega
                 rw[this];simp[show i-1<t.attrs.length by omega]
               have hp:prevK t.attrs i=some t.attrs[i-1].1:=by
                 obtain⟨j,rfl⟩: ∃j,i=j+1:=⟨i-1,by omega⟩;rw[prevK,Asg,Aq3 (by omega)];rfl
               rw[hp] at cont stop3;refine⟨Aq5 i,_,hx,⟨by omega,by omega⟩,by omega,_,hx',?_⟩;refine⟨by kernel_rfl,?_⟩;refine⟨λq4=>go 300 ?_,λq4=>go 300 ?_⟩
               · exact⟨trivial,rfl,rfl,rfl,Ar (no (stop3 (congrArg Bool.not q4)))⟩
               · refine⟨by constructor<;>omega,?_⟩
                 exact next (i+1) _ _ ⟨⟨hi,cont (by simpa using q1) (by have:=Ah q2;simp;omega) (congrArg Bool.not q4)⟩,by omega,Zq2,Zq1⟩
             · have q3':i=0:=by have:=Ah q3;omega
               subst q3';refine⟨by kernel_rfl,?_⟩;refine⟨by constructor<;>omega,?_⟩;exact next 1 _ _ ⟨⟨hi,cont (by simpa using q1) (by have:=Ah q2;simp;omega) rfl⟩,by omega,Zq2,Zq1⟩
           · have hi:i=t.attrs.length:=by have:t.attrs.length≤i:=(by simpa using hge);omega
             subst hi;rw[Aro (Ara _),attrsOk] at k2;exact post () _ _ _ rfl ⟨k2.symm,Zq1,Zq1⟩)
    |fail
  all_goals (first|refine no ?_|skip)
  all_goals (simp_all[rightN,headOk,A2])
theorem Tg (t:Tree)(h:t.weight≤1000000):Pure Tryz.prog 39 [nodeV t] (λx=>x=.bool (rightT t)):=by
 refine Aj (Ad 100 Tryz.func39 rfl rfl rfl λB=> ?_);refine⟨λg1=>go 100 ?_,λg1=>go 100 ?_⟩
 ·show CallThen _ _ _ _ _ _;refine Aa (Ae2 t h) rfl ?_;rintro x rfl;refine⟨trivial,rfl,rfl,rfl,B8 ?_⟩;unfold rightT;rw[g1];rfl
 ·refine⟨trivial,rfl,rfl,rfl,Ar ?_⟩;unfold rightT;rw[g1];rfl
theorem Anf (l:List PieceT)(hl:l.length≤4096)(hok: ∀p∈l,p.Ok):Pure Tryz.prog 158 [piecesV l] (λx=>x=.int .i64 (extentP l)):=by
 refine Ad 100 Tryz.func158 rfl rfl rfl λB=> ?_;show Goes _ _ _ _;refine Ak (ι:=Nat×Int) (λi=>i.1≤l.length∧0≤i.2∧i.2+extentP (l.drop i.1)=extentP l) (λi=>l.length-i.1) (λi=>[(8,.int .i64 i.1),(7,.int .i64 (l.map pieceV).length),(6,piecesV l),(3,.int .i64 i.2)]) (λ_=>[]) (0,0) 100 (λ_=>rfl) (λ_=>rfl) ⟨⟨Aq4 _,Arr _,by simp⟩,Zq4,trivial⟩ ?_;rintro⟨i,n⟩ ⟨k1,k2,k3⟩ next;simp only at k1 k2 k3;have hle:=Pc hok;refine⟨λhlt=>go 100 ?_,λhge=>go 100 ?_⟩
 ·have hi:i<l.length:=by simpa using hlt
  have hx:(l.map pieceV)[i]?=some (pieceV l[i]):=by simp[hi]
  have hp:=hok l[i] (Arq hi);have:=hp.k0;have:=hp.d0;have hn:=Ej (l:=l.drop (i+1)) λq hq=>hok q (Asp hq);rw[Bi hi,Bd] at k3;refine⟨Aq5 i,_,hx,⟨by omega,by omega⟩,⟨by omega,by omega⟩,⟨by omega,by omega⟩,?_⟩;exact next (i+1,n+ (l[i].keep+l[i].drop)) _ _ ⟨⟨hi,by simp only;omega,by simp only;omega⟩,by simp only;omega,Zq4,trivial⟩
 ·have hi:l.length≤i:=by simpa using hge
  rw[Aro hi] at k3;exact⟨trivial,rfl,rfl,rfl,by rw[←k3];simp[extentP];rfl⟩
theorem Ae3 (l:List PieceT)(hl:l.length≤4096)(hok: ∀p∈l,p.Ok):Pure Tryz.prog 139 [piecesV l] (λx=>x=.int .i64 (extentP l)):=by
 refine Ad 100 Tryz.func139 rfl rfl rfl λB=> ?_;show Goes _ _ _ _;refine Ak (ι:=Nat×Int) (λi=>i.1≤l.length∧0≤i.2∧i.2+extentP (l.drop i.1)=extentP l) (λi=>l.length-i.1) (λi=>[(4,.int .i64 i.1),(0,piecesV l),(3,.int .i64 i.2)]) (λ_=>[]) (0,0) 100 (λ_=>rfl) (λ_=>rfl) ⟨⟨Aq4 _,Arr _,by simp⟩,Zq3,trivial⟩ ?_;rintro⟨i,n⟩ ⟨k1,k2,k3⟩ next;simp only at k1 k2 k3;have hle:=Pc hok;refine⟨λhlt=>go 100 ?_,λhge=>go 100 ?_⟩
 ·have hi:i<l.length:=by simpa using hlt
  have hx:(l.map pieceV)[i]?=some (pieceV l[i]):=by simp[hi]
  have hp:=hok l[i] (Arq hi);have:=hp.k0;have:=hp.d0;have hn:=Ej (l:=l.drop (i+1)) λq hq=>hok q (Asp hq);rw[Bi hi,Bd] at k3;show Goes _ _ _ _;refine Ac [] 100 ⟨Aq5 i,_,hx,⟨by omega,by omega⟩,Aq5 i,_,hx,⟨by omega,by omega⟩,?_⟩;refine⟨by kernel_rfl,?_⟩;refine⟨⟨by omega,by omega⟩,?_⟩;exact next (i+1,n+l[i].keep+l[i].drop) _ _ ⟨⟨hi,by simp only;omega,by simp only;omega⟩,by simp only;omega,Zq3,trivial⟩
 ·have hi:l.length≤i:=by simpa using hge
  rw[Aro hi] at k3;exact⟨trivial,rfl,rfl,rfl,by rw[←k3];simp[extentP];rfl⟩
theorem Aad (t:List UInt8)(l:List PieceT)(ht:t.length≤1000000000)(hl:l.length≤1000000)(hpl: ∀p∈l,p.put.length≤1000000000):
  Pure Tryz.prog 98 [.str t,piecesV l] (λx=>x=strE (applyE t l)):=by
 refine Ad 100 Tryz.func98 rfl rfl rfl λB=> ?_;show CallThen _ _ _ _ _ _;refine Aa (Xf l hl hpl) rfl ?_;rintro x rfl;refine⟨λg1=>go 100 ?_,λg1=>go 100 ?_⟩
 ·exact⟨trivial,rfl,rfl,rfl,by unfold applyE;rw[g1];rfl⟩
 have hr:rightP l=true:=by simpa using g1
 obtain⟨r1,r2,r3⟩:=Kx hr;show CallThen _ _ _ _ _ _;refine Aa (Ae3 l r1 r2) rfl ?_;rintro x rfl;refine⟨λg2=>go 100 ?_,λg2=>go 100 ?_⟩
 ·exact⟨trivial,rfl,rfl,rfl,by unfold applyE;rw[g1,g2];rfl⟩
 have g2':=Ah g2;have hfin:applyE t l=(editP t l,0):=by unfold applyE;rw[g1,g2];rfl
 show Goes _ _ _ _;refine Ak (ι:=Nat×List UInt8×List UInt8) (λi=>i.1≤l.length∧extentP (l.drop i.1)≤i.2.2.length∧i.2.1.length+i.2.2.length+putsLen (l.drop i.1)≤t.length+putsLen l∧i.2.1++editP i.2.2 (l.drop i.1)=editP t l) (λi=>l.length-i.1)
  (λi=>[(7,.int .i64 i.1),(6,.str i.2.1),(0,.str i.2.2),(1,piecesV l)]) (λ_=>[]) (0,[],t) 100 (λ_=>rfl) (λ_=>rfl) ⟨⟨Aq4 _,g2',by simp,rfl⟩,Zq4,trivial⟩ ?_
 rintro⟨i,o,u⟩ ⟨k1,k2,k3,k4⟩ next;simp only at k1 k2 k3 k4;refine⟨λhlt=>go 100 ?_,λhge=>go 100 ?_⟩
 ·have hi:i<l.length:=by simpa using hlt
  have hx:(l.map pieceV)[i]?=some (pieceV l[i]):=by simp[hi]
  have hp:=r2 l[i] (Arq hi);have p1:=hp.k0;have p2:=hp.d0;have p3:=hp.k1;have p4:=hp.d1;have hn:=Ej (l:=l.drop (i+1)) λq hq=>r2 q (Asp hq);have e:putsLen (l[i]::l.drop (i+1))=l[i].put.length+putsLen (l.drop (i+1)):=rfl;rw[Bi hi,Bd] at k2;rw[Bi hi,e] at k3;rw[Bi hi,editP] at k4;have hlen1:((u.drop (Int.toNat 0)).take (l[i].keep.toNat-Int.toNat 0)).length=l[i].keep.toNat:=by simp;omega
  show Goes _ _ _ _;refine Ac [] 100 ⟨Aq5 i,_,hx,by decide,p1,by simp only;omega,?_,Aq5 i,_,hx,?_,?_⟩
  ·simp only;rw[Arb,hlen1];omega
  ·simp only;rw[Arb,Arb,hlen1];omega
  refine⟨by kernel_rfl,?_⟩;show Goes _ _ _ _;refine Ac [] 100 ⟨Aq5 i,_,hx,Aq5 i,_,hx,⟨by omega,by omega⟩,by omega,by simp only;omega,Arr _,?_⟩;refine⟨by kernel_rfl,?_⟩;refine⟨⟨by omega,by omega⟩,?_⟩;have hlen2:((u.drop (l[i].keep+l[i].drop).toNat).take ((u.length:Int).toNat- (l[i].keep+l[i].drop).toNat))=u.drop (l[i].keep+l[i].drop).toNat:=Ars (by simp);refine next (i+1,o++ (u.drop (Int.toNat 0)).take (l[i].keep.toNat-Int.toNat 0)++l[i].put,(u.drop (l[i].keep+l[i].drop).toNat).take ((u.length:Int).toNat- (l[i].keep+l[i].drop).toNat)) _ _ ⟨⟨hi,?_,?_,?_⟩,by simp only;omega,Zq4,trivial⟩
  ·simp only;rw[hlen2,Asf];omega
  ·simp only;rw[hlen2,Asf,Arb,Arb,hlen1];omega
  ·simp only;rw[hlen2,←k4];simp
 ·have hi:l.length≤i:=by simpa using hge
  rw[Aro hi,editP] at k4;rw[Aro hi] at k3;have e:putsLen []=0:=rfl;rw[e] at k3;refine⟨by simp only;rw[Arb];omega,?_⟩;exact⟨trivial,rfl,rfl,rfl,by rw[hfin,←k4];rfl⟩
end Bow
namespace Bow
open Go Go.Proofs Go.RowKit Go.Shelf
theorem Alj:((Tryz.prog).info? 175).map (·.size)=some 2:=by kernel_rfl
theorem Aqp:liesAt Tryz.prog Tryz.prog.depth 175 (2 / (Tryz.prog).cellsOf 175) 0 175 1=true:=by kernel_rfl
theorem Aqq:((Tryz.prog).info? 5).map (λi=>(i.zero,i.size,i.bytes))=some (some (.int .u8 0),1,1):=by kernel_rfl
theorem Uj (b:Nat)(w:World)(h0:w.cell? ⟨b,0,none⟩=some (.pointer (some ⟨b,0,none⟩))):
  Calls Tryz.prog 190 #[.pointer (some ⟨b,0,none⟩)] w λe w'=>e=.returned (.tuple #[])∧w'=w:=by
 obtain⟨j,hj,_⟩:=Asu.1 Alj
 go_enter Tryz.func190, Tryz.ntmps190
 go_wp2
 rw[Lib.run_neq_ptr_same w _ Tryz.underlying173 hj]
 go_wp2
 go_end0
 exact⟨rfl,rfl⟩
theorem Sd (b:Nat)(w:World)(h0:w.cell? ⟨b,0,none⟩=some (.pointer none))(hsh:w.shape? b=some (175,2))(hfz:w.frozen? ⟨b,0,none⟩=false):
  Calls Tryz.prog 190 #[.pointer (some ⟨b,0,none⟩)] w λe w'=>e=.returned (.tuple #[])∧w'=w.setCell ⟨b,0,none⟩ (.pointer (some ⟨b,0,none⟩)):=by
 obtain⟨j,hj,hjs⟩:=Asu.1 Alj
 go_enter Tryz.func190, Tryz.ntmps190
 go_wp2
 rw[Lib.run_to_unsafe w ⟨b,0,none⟩ Tryz.underlying173 Tryz.underlying226 hj (by rw[hjs];decide) hsh (Nat.zero_lt_succ 1)];simp only[Result.andThen];rw[Oper.upon_value]
 go_wp2
 rw[run_callFunc_extern Tryz.func203 (by kernel_rfl) (by kernel_rfl) (by kernel_rfl) (e:=Extern.AbiNoEscape.same) (by kernel_rfl)];rw[Lib.run_noEscape];simp only[Result.andThen];rw[Oper.upon_value]
 go_wp2
 rw[Lib.run_from_unsafe w ⟨b,0,none⟩ Tryz.underlying226 Tryz.underlying173 hj hsh Aqp];simp only[Result.andThen];rw[Oper.upon_value]
 go_wp2
 go_end0
 exact⟨rfl,rfl⟩
theorem Afd (B b:Nat)(bs:List Value)(w:World)(h:Lib.IsBuilderF 175 5 B b bs w):
  Calls Tryz.prog 190 #[.pointer (some ⟨b,0,none⟩)] w λe w'=>e=.returned (.tuple #[])∧(Lib.BuilderAtF 175 5 B b (.pointer (some ⟨b,0,none⟩)) bs w'∧Below B w w'∧Lib.OthersKept 5 (some b) w w'):=by
 rcases h with h|h
 ·refine(Sd b w h.cell0 h.shape h.frozen0).mono ?_;rintro e w' ⟨rfl,rfl⟩;exact⟨rfl,h.used _,(Below.refl B w).setCell (p:=⟨b,0,none⟩) h.1 _,(Lib.OthersKept.refl _ _ w).setCell ⟨b,0,none⟩ rfl _⟩
 ·refine(Uj b w h.cell0).mono ?_;rintro e w' ⟨rfl,rfl⟩;exact⟨rfl,h,Below.refl B _,Lib.OthersKept.refl _ _ _⟩
theorem Lb (B b:Nat)(bs:List Value)(s:ByteArray)(w:World)(h:Lib.IsBuilderF 175 5 B b bs w)(hlen:bs.length+s.size≤140737488355328)(hBw:B≤w.heap.size):
  Calls Tryz.prog 159 #[.pointer (some ⟨b,0,none⟩),.string s] w λe w'=>e=.returned (.tuple #[.int .i64 s.size,.nilIface])∧(Lib.BuilderAtF 175 5 B b (.pointer (some ⟨b,0,none⟩)) (bs++Lib.strCells s) w'∧Below B w w'∧Lib.OthersKept 5 (some b) w w'):=by
 obtain⟨i0,hi,hz0,hz1,hz2⟩:=info_parts Aqq
 go_enter Tryz.func159, Tryz.ntmps159
 go_wp2_with (go_at_call 190;refine(Afd B b bs _ h).mono ?_)
 rintro e w1 ⟨rfl,h1,hb1,hk1⟩;obtain⟨hB,v,hbk,hown,hne⟩:=h1;have c0:w1.cell? ⟨b,0,none⟩=some (.pointer (some ⟨b,0,none⟩)):=by rw[Lib.cell_of_heap hbk];rfl
 have c1:w1.cell? ⟨b,1,none⟩=some v:=by rw[Lib.cell_of_heap hbk];rfl
 go_wp2_with (at_builtin;refine Lib.wpList_append_own_stringF _ rfl _ _ 85 9 rfl B 5 i0 Tryz.underlying85 Tryz.underlying9 hi hz0 hz1 hz2 _ _ _ rfl hown s rfl ?c3 ?c4 ?c5 ?_)
 case c3=>unfold maxLen;omega
 case c4=>omega
 case c5=>have:=hb1.size;omega
 intro v' w2 hown' hgrow _;have hlt:b<w1.heap.size:=by
  rcases Ar3 b w1.heap.size with h'|h'
  ·exact h'
  ·simp[Array.getElem?_eq_none h'] at hbk
 have hb2:w2.heap[b]?=some (.cells #[.pointer (some ⟨b,0,none⟩),v] 175 (0,0)):=by
  rw[hgrow.block b hlt (λe=>hne e.symm)];exact hbk
 have d0:w2.cell? ⟨b,0,none⟩=some (.pointer (some ⟨b,0,none⟩)):=by rw[Lib.cell_of_heap hb2];rfl
 have d1:w2.cell? ⟨b,1,none⟩=some v:=by rw[Lib.cell_of_heap hb2];rfl
 have f1:w2.frozen? ⟨b,1,none⟩=false:=Lib.frozen_of_heap hb2 1;obtain⟨ao,n',cap,rfl⟩: ∃ao n' cap,v'=.slice ao n' cap:=by
  rcases hown'.2 with⟨hv,_⟩| ⟨g,cap,cur,fz,hv,_⟩
  ·exact⟨_,_,_,hv⟩
  ·exact⟨_,_,_,hv⟩
 go_wp2
 go_ret2
 refine⟨rfl,?_,?_,(hk1.grown hgrow (Lib.ownsRowF_kind hown)).setCell ⟨b,1,none⟩ rfl _⟩
 ·exact Lib.BuilderAtF.put (T:= 175) (e:= 5) hB hb2 (bs':=bs++Lib.strCells s) (by simpa[Lib.strCells_length] using hown') (by decide)
 ·exact(hb1.grown hgrow (by have:=hb1.size;omega) (λk hk=>(hown.lt k hk).1)).setCell (p:=⟨b,1,none⟩) hB _
def bRen:Ren where
 f:=fun|169=> 160 |n=>n
 t:=fun|0=>0|3=> 3 |9=> 9 |37=> 85 |70=> 173 |72=> 175 |127=> 205 |5=> 5 |n=>n
 g:=λn=>n
theorem bLays:Lays.n169 Tryz.prog bRen:= {
 mixed:=by kernel_rfl
 f169:= Tryz.func160.trans (congrArg some (by kernel_rfl))
 t0:= Tryz.underlying0
 a0:= Tryz.isAgg0
 z0:= Tryz.sizeOf0
 v0:= Tryz.zeroValue0
 t3:= Tryz.underlying3
 a3:= Tryz.isAgg3
 z3:= Tryz.sizeOf3
 v3:= Tryz.zeroValue3
 t9:= Tryz.underlying9
 a9:= Tryz.isAgg9
 z9:= Tryz.sizeOf9
 v9:= Tryz.zeroValue9
 t37:= Tryz.underlying85
 a37:= Tryz.isAgg85
 z37:= Tryz.sizeOf85
 v37:= Tryz.zeroValue85
 t70:= Tryz.underlying173
 a70:= Tryz.isAgg173
 z70:= Tryz.sizeOf173
 v70:= Tryz.zeroValue173
 t72:= Tryz.underlying175
 a72:= Tryz.isAgg175
 z72:= Tryz.sizeOf175
 v72:= Tryz.zeroValue175
 t127:= Tryz.underlying205
 a127:= Tryz.isAgg205
 z127:= Tryz.sizeOf205
 v127:= Tryz.zeroValue205
}
theorem bExtra:Builder.Extra Tryz.prog bRen:= {
 sizeBuilder:=by kernel_rfl
 liesBuilder:=by kernel_rfl
 t5:= Tryz.underlying5
 a5:= Tryz.isAgg5
 z5:= Tryz.sizeOf5
 v5:= Tryz.zeroValue5
 infoByte:=by kernel_rfl
 cellsByte:=by kernel_rfl
 sizeByte:=by kernel_rfl
 neB5:=by decide
}
theorem Ant (B b:Nat)(l:List UInt8)(w:World)(h:Lib.IsBuilderF 175 5 B b (Lib.byteCells l) w)(hBw:B≤w.heap.size):
  Calls Tryz.prog 160 #[.pointer (some ⟨b,0,none⟩)] w λe w'=>e=.returned (.string ⟨l.toArray⟩)∧(Lib.IsBuilderF 175 5 B b (Lib.byteCells l) w'∧Below B w w'∧Lib.OthersKept 5 (some b) w w'):=
 Any.Builder_String_any_k bLays bExtra B b l w h hBw
end Bow
namespace Bow
open Go Go.Proofs Go.RowKit
theorem Ae4 (l:List PieceT): ∀x∈l.map pieceV,flatL x.cells=true:=by
 intro x hx;obtain⟨p,_,rfl⟩:=Ato.1 hx;rfl
theorem Apc (l:List PieceT)(hl:l.length≤1000000)(hpl: ∀p∈l,p.put.length≤1000000000)(v:Value)(w:World)(h:Rep w β0 [] (piecesV l) v):
  Calls Tryz.prog 117 #[v] w λe w'=>e=.returned (.bool (rightP l))∧Below w.heap.size w w':=by
 refine Nq (β:=β0) (H:=[]) (J5 l hl hpl) (λx u w' β' H' hx hu=> ?_) rfl rfl ?_
 ·subst hx;exact Fi (m:=[]) hu
 ·intro j x u hj hu;cases j with
  |zero=>simp at hj hu;subst hj hu;exact h
  |succ j=>simp at hj
theorem Ang (l:List PieceT)(hl:l.length≤4096)(hok: ∀p∈l,p.Ok)(v:Value)(w:World)(h:Rep w β0 [] (piecesV l) v):
  Calls Tryz.prog 158 #[v] w λe w'=>e=.returned (.int .i64 (extentP l))∧Below w.heap.size w w':=by
 refine Nq (β:=β0) (H:=[]) (Anf l hl hok) (λx u w' β' H' hx hu=> ?_) rfl rfl ?_
 ·subst hx;exact A8 (m:=[]) hu
 ·intro j x u hj hu;cases j with
  |zero=>simp at hj hu;subst hj hu;exact h
  |succ j=>simp at hj
theorem Rh {w w':World}{x:V}{v:Value}(h:Rep w β0 [] x v)(hb:Below w.heap.size w w'):Rep w' β0 [] x v:=h.mono (Fr.of_below hb)
theorem Aq1 (x:ByteArray)(y:List UInt8)(h:x.data.toList=y):x=⟨y.toArray⟩:=by
 obtain⟨⟨l⟩⟩:=x;subst h;rfl
theorem hidU {p:Prop}(h:p):Hid p:=h
theorem Ak2 (S:ByteArray)(l:List PieceT)(ht:S.size≤1000000000)(hl:l.length≤1000000)(hpl: ∀p∈l,p.put.length≤1000000000)(ao:Option Addr)(cap:Nat)(w:World)(hrep:Rep w β0 [] (piecesV l) (.slice ao l.length cap)):
  Calls Tryz.prog 121 #[.string S,.slice ao l.length cap] w λe w'=>e=.returned (.tuple #[.string ⟨(applyE S.data.toList l).1.toArray⟩,.int .i64 (applyE S.data.toList l).2])∧Below w.heap.size w w':=by
 go_enter Tryz.func121, Tryz.ntmps121
 have cR:=Apc l hl hpl _ w hrep
 go_wp2_with (go_at_call 117;refine cR.mono ?_)
 rintro e w1 ⟨rfl,hb1⟩;clear cR;cases hr:rightP l with
 |false=>
  go_wp2
  go_ret2
  refine⟨?_,hb1⟩;unfold applyE;rw[hr];rfl
 |true=>
  obtain⟨r1,r2,r3⟩:=Kx hr;have cE:=Ang l r1 r2 _ w1 (Rh hrep hb1)
  go_wp2_with (go_at_call 158;refine cE.mono ?_)
  rintro e w2 ⟨rfl,hb2⟩;clear cE;have hb12:Below w.heap.size w w2:=hb1.trans (hb2.mono hb1.size)
  by_cases hx:(S.size:Int)<extentP l
  ·go_wp2
   go_ret2
   refine⟨?_,hb12⟩;unfold applyE;rw[hr,decide_eq_true (by simpa using hx)];rfl
  ·go_wp2
   go_loopw [0,21] (λtext i wr=> ∃(k:Nat) (T acc:List UInt8),k≤l.length∧text=.string ⟨T.toArray⟩∧i=.int .i64 k∧Lib.IsBuilderF 175 5 w2.heap.size w2.heap.size (Lib.byteCells acc) wr∧Below w2.heap.size w2 wr∧acc++editP T (l.drop k)=editP S.data.toList l∧extentP (l.drop k)≤T.length∧acc.length+T.length+putsLen (l.drop k)≤S.data.toList.length+putsLen l) (λ_ i _=>l.length- (intOf i).toNat)
   case atStart=>
    refine⟨0,S.data.toList,[],Aq4 _,rfl,rfl,Lib.IsBuilderF.of (Lib.fresh_isBuilder _ _ w2),(Below.refl _ _).alloc (Ara _) _,rfl,?_,?_⟩
    ·simpa using hx
    ·simp
   case round=>
    obtain⟨k,T,acc,hk,rfl,rfl,hI,hbw,hacc,hext,hsz⟩:=hrel
    by_cases hlt:k<l.length
    ·obtain⟨a,cap',hv,hcap,hmax,hc⟩:=Abh (Rh (Rh hrep hb12) hbw);obtain⟨e1,e2,e3⟩:ao=a∧l.length=(l.map pieceV).length∧cap=cap':=by injection hv with e1 e2 e3;exact⟨e1,e2,e3⟩
     obtain⟨ad,rfl,hblk,hc⟩:=hc (by intro h;simp at h;subst h;simp at hlt);subst e1;have hg:(l.map pieceV)[k]?=some (pieceV l[k]):=by simp[hlt]
     obtain⟨u0,h0,q0⟩:=hc k _ 0 _ hg rfl;obtain⟨u1,h1,q1⟩:=hc k _ 1 _ hg rfl;obtain⟨u2,h2,q2⟩:=hc k _ 2 _ hg rfl;cases A8 (m:=[]) q0;cases A8 (m:=[]) q1;obtain⟨q2,hput⟩:=Gn (m:=[]) q2;subst q2;rw[←Js] at h1 h2;have h0:wr.cell? (ad.add (k*3))=some (.int .i64 l[k].keep):=h0;have h1:wr.cell? ⟨(ad.add (k*3)).block,(ad.add (k*3)).off+1,none⟩=some (.int .i64 l[k].drop):=h1;have h2:wr.cell? ⟨(ad.add (k*3)).block,(ad.add (k*3)).off+2,none⟩=some (.string ⟨l[k].put.toArray⟩):=h2;clear q0 q1 hc hg hcap hmax hv e2 e3;have hd:l.drop k=l[k]::l.drop (k+1):=Bi hlt;have hok:=r2 l[k] (Arq hlt);have k0:=hok.k0;have k1:=hok.k1;have d0:=hok.d0;have d1:=hok.d1;have hen:0≤extentP (l.drop (k+1)):=Ej λq hq=>r2 q (Asp hq);rw[hd,Bd] at hext;have hpt:putsLen (l[k]::l.drop (k+1))=l[k].put.length+putsLen (l.drop (k+1)):=rfl;rw[hd,hpt] at hsz;rw[hd] at hacc;have hacc:=hidU hacc;have hN:=hidU hsz;clear hsz;obtain⟨p,hp⟩: ∃p,l[k]=p:=⟨_,rfl⟩;simp only[hp] at*;have hsT:(⟨T.toArray⟩:ByteArray).size=T.length:=by simp[ByteArray.size]
     have hI1:=Lib.IsBuilderF.alloc hI (.cells #[.int .i64 p.keep,.int .i64 p.drop,.string ⟨p.put.toArray⟩] 91);have hw1:Below w2.heap.size w2 (wr.alloc (.cells #[.int .i64 p.keep,.int .i64 p.drop,.string ⟨p.put.toArray⟩] 91)):=hbw.alloc hbw.size _;have hbl:w2.heap.size<wr.heap.size:=by
      have: ∀q,Lib.BuilderAtF 175 5 w2.heap.size w2.heap.size q (Lib.byteCells acc) wr->w2.heap.size<wr.heap.size:=by
       rintro q ⟨_,v,hbk,_⟩;exact(Asz.1 hbk).1
      rcases hI with h|h
      ·exact this _ h
      ·exact this _ h
     have hbox:(wr.alloc (.cells #[.int .i64 p.keep,.int .i64 p.drop,.string ⟨p.put.toArray⟩] 91)).heap[wr.heap.size]?=some (.cells #[.int .i64 p.keep,.int .i64 p.drop,.string ⟨p.put.toArray⟩] 91 (0,0)):=heap_alloc_new wr _;have hne: ∀(c:Array Value) (fz:Nat×Nat),(Obj.cells #[.int .i64 p.keep,.int .i64 p.drop,.string ⟨p.put.toArray⟩] 91 (0,0))≠Obj.cells c 5 fz:=λc fz h=>by
      injection h with h1 h2 h3
      exact absurd h2 (by decide)
     have hne:=hidU hne;have hI1:=hidU hI1;have hN2:=hN.out;have hx1:(ByteArray.extract ⟨T.toArray⟩ 0 p.keep.toNat).data.toList=T.take p.keep.toNat:=by rw[Lib.extract_data];simp
     have hx1s:(ByteArray.extract ⟨T.toArray⟩ 0 p.keep.toNat).size=p.keep.toNat:=by
      rw[Lib.size_eq,hx1,Ar1];omega
     have hsz':S.data.toList.length+putsLen l≤1000000000+1048576:=by rw[←Lib.size_eq];omega
     have hsz'':acc.length+ (T.length+ (p.put.length+putsLen (l.drop (k+1))))≤1000000000+1048576:=by omega
     have hsz'':=hidU hsz'';clear hN2 hsz'
     go_wp2_with fail
     refine(Lb w2.heap.size w2.heap.size _ _ _ hI1.out (by rw[Lib.byteCells_length,hx1s];have:=hsz''.out;omega) (Ark (Aty hbl) (by simp))).mono ?_;rintro e W1 ⟨rfl,hA1,b1,q1⟩;have hbox1:=q1 _ _ hbox (by simp;omega) hne.out;have c2:W1.cell? ⟨wr.heap.size,2,none⟩=some (.string ⟨p.put.toArray⟩):=by rw[Lib.cell_of_heap hbox1];rfl
     have hsz1:w2.heap.size≤W1.heap.size:=Ark hw1.size b1.size;have hA1:Lib.IsBuilderF 175 5 w2.heap.size w2.heap.size _ W1:=.inr hA1;have hA1:=hidU hA1;have hbox1:=hidU hbox1;have hq:Below w2.heap.size w2 W1:=hw1.trans b1;clear b1 q1 hw1 hbox
     go_wp2_with fail
     refine(Lb w2.heap.size w2.heap.size _ _ _ hA1.out (by rw[Arb,Lib.byteCells_length,Lib.strCells_eq,Lib.byteCells_length,hx1,Ar1,Lib.size_eq];have:=hsz''.out;simp only[];omega) hsz1).mono ?_;rintro e W2 ⟨rfl,hA2,b2,q2⟩;have hbox2:=q2 _ _ hbox1.out (by simp;omega) hne.out;have c3:W2.cell? ⟨wr.heap.size,0,none⟩=some (.int .i64 p.keep):=by rw[Lib.cell_of_heap hbox2];rfl
     have c4:W2.cell? ⟨wr.heap.size,1,none⟩=some (.int .i64 p.drop):=by rw[Lib.cell_of_heap hbox2];rfl
     have hA2:Lib.IsBuilderF 175 5 w2.heap.size w2.heap.size _ W2:=.inr hA2;have hA2:=hidU hA2;have hq2:Below w2.heap.size w2 W2:=hq.trans b2;clear b2 q2 hbox2 c2
     go_wp2_with fail
     refine⟨⟨k+1,T.drop (p.keep+p.drop).toNat,acc++T.take p.keep.toNat++p.put,hlt,?_,rfl,?_,hq2,?_,?_,?_⟩,?_⟩
     ·congr 1
      refine Aq1 _ _ ?_;rw[Lib.extract_data];exact Ars (by simp)
     ·have:=hA2.out;rw[Lib.strCells_eq,Lib.strCells_eq,hx1,←Lib.byteCells_append,←Lib.byteCells_append] at this;exact this
     ·rw[←hacc.out];show _=acc++editP T (p::l.drop (k+1));rw[editP];simp only[Arz]
     ·rw[Asf];omega
     ·have:=hN.out;simp only[Arb,Ar1,Asf];omega
     ·show l.length- (k+1:Int).toNat<l.length- (k:Int).toNat;omega
    ·have hke:k=l.length:=by omega
     have hd:l.drop k=[]:=Aro (by omega);rw[hd] at hacc hsz hext;have hacc:acc++T=editP S.data.toList l:=hacc;have hsz:acc.length+T.length+0≤S.data.toList.length+putsLen l:=hsz;have hS:S.data.toList.length≤1000000000:=by rw[←Lib.size_eq];omega
     have hI:=hidU hI;have hacc:=hidU hacc;have hN:Hid (acc.length+T.length≤1000000000+1048576):=hidU (by omega);clear hsz hext hS
     go_wp2_with fail
     refine(Lb w2.heap.size w2.heap.size _ _ _ hI.out (by rw[Lib.byteCells_length,Lib.size_eq];have:=hN.out;simp only[];omega) hbw.size).mono ?_;rintro e W1 ⟨rfl,hA1,b1,q1⟩;have hq:Below w2.heap.size w2 W1:=hbw.trans b1;have hA1:Lib.IsBuilderF 175 5 w2.heap.size w2.heap.size _ W1:=.inr hA1;rw[Lib.strCells_eq,←Lib.byteCells_append] at hA1;have hA1:=hidU hA1;clear b1 q1
     go_wp2_with fail
     refine(Ant w2.heap.size w2.heap.size _ _ hA1.out hq.size).mono ?_;rintro e W2 ⟨rfl,_,b2,_⟩;have hq2:Below w2.heap.size w2 W2:=hq.trans b2;clear b2
     go_wp2
     go_ret2
     refine⟨?_,hb12.trans (hq2.mono hb12.size)⟩;have:applyE S.data.toList l=(editP S.data.toList l,0):=by
      unfold applyE;rw[hr,decide_eq_false (by rw[←Lib.size_eq];simpa using hx)];rfl
     rw[this,←hacc.out];rfl
theorem Ri: ∀(t:List UInt8) (l:List PieceT),(∀p∈l,p.Ok)->(editP t l).length≤t.length+putsLen l
 |t,[],_=>Ara _
 |t,p::l,h=>by
  have ih:=Ri (t.drop (p.keep+p.drop).toNat) l λq hq=>h q (Are _ hq);have hp:=h p Ari;have:=hp.k0;have:=hp.d0;have e:putsLen (p::l)=p.put.length+putsLen l:=rfl;rw[editP,e];rw[Asf] at ih;simp only[Arb,Ar1];omega
theorem Ah0 (t:List UInt8)(l:List PieceT):(applyE t l).1.length≤t.length+1048576:=by
 unfold applyE;cases hr:rightP l with
 |false=>simp
 |true=>
  obtain⟨r1,r2,r3⟩:=Kx hr;cases decide ((t.length:Int)<extentP l) with
  |false=>
   have:=Ri t l r2;simp only[Arm,cond_false];omega
  |true=>simp
theorem Ak3 (t:List UInt8)(l:List PieceT)(ht:t.length≤1000000000)(hl:l.length≤1000000)(hpl: ∀p∈l,p.put.length≤1000000000):
  Pure Tryz.prog 121 [.str t,piecesV l] (λx=>x=strE (applyE t l)):=by
 refine Px ?_ rfl λw β H vals hv hr=> ?_
 ·exact⟨_, Tryz.func121,rfl,rfl⟩
 ·obtain⟨v0,v1,rfl⟩: ∃v0 v1,vals= #[v0,v1]:=by
   obtain⟨l⟩:=vals
   match l,hv with
   | [v0,v1],_=>exact⟨v0,v1,rfl⟩
  have h0:=hr 0 _ v0 rfl rfl;have h1:=hr 1 _ v1 rfl rfl;obtain⟨rfl,_⟩:=Gn (m:=[]) h0;have h1:=Rep.flat_sl (Ae4 l) h1;obtain⟨a,cap,rfl,_⟩:=Abh h1;have e:(l.map pieceV).length=l.length:=by simp
  rw[e] at h1 ⊢;refine(Ak2 ⟨t.toArray⟩ l (by simpa[ByteArray.size] using ht) hl hpl a cap w h1).mono ?_;rintro e w' ⟨rfl,hb⟩;have hm:=Ah0 t l;have hS:(⟨t.toArray⟩:ByteArray).data.toList=t:=rfl;rw[hS];refine⟨hb,strE (applyE t l),_,rfl,rfl,rfl,.tup _ _ rfl λj c v hc hv=> ?_⟩
  match j,hc,hv with
  |0,hc,hv=>
   simp at hc hv;subst hc hv;exact .str _ (by unfold maxLen;omega)
  |1,hc,hv=>
   simp at hc hv;subst hc hv;exact .int _ _
  |j+2,hc,hv=>simp at hc
end Bow
namespace Bow
open Go Go.Proofs
theorem Ht (t:Tree):t.text.length<t.weight:=by have:=Bt t;omega
theorem Apd (t:Tree)(o:OpT)(ht:t.weight≤1000000)(ho:o.Ok):Pure Tryz.prog 86 [nodeV t,opV o] (λx=>x=.int .i64 (validE t o)):=by
 have hp:=ho.lt.path;have hto:=ho.lt.to;have hpc:=ho.lt.pieces;have hpl:=ho.each;refine Ad 300 Tryz.func86 rfl rfl rfl λB=> ?_;show CallThen _ _ _ _ _ _;refine Aa (w_At t o.path hp) rfl ?_;rintro x rfl;cases hat:atT t o.path with
 |none=>
  repeat' first
   | (refine⟨λ_=>go 300 ?_,λ_=>go 300 ?_⟩)
   | (refine⟨trivial,rfl,rfl,rfl,?_⟩)
   |fail
  all_goals (show V.int _ _=_;simp_all[validE];done)
 |some x=>
  have hxw:=Ce hat;have hxt:=Ht x
  repeat' first
   | (refine⟨λ_=>go 300 ?_,λ_=>go 300 ?_⟩)
   | (show CallThen _ _ _ _ _ _;refine Aa (Aky x o.at_) rfl ?_;rintro z rfl)
   | (show CallThen _ _ _ _ _ _;refine Aa (Cj o.path o.to hp) rfl ?_;rintro z rfl)
   | (show CallThen _ _ _ _ _ _;refine Aa (Ak3 x.text o.pieces (by omega) (by omega) hpl) rfl ?_;rintro z rfl)
   | (show CallThen _ _ _ _ _ _;refine Aa (w_At t o.to hto) rfl ?_;rintro z rfl;cases hat2:atT t o.to with
     |none=>exact⟨trivial,rfl,rfl,rfl,(by show V.int _ _=_;simp_all[validE])⟩
     |some y=>
      show CallThen _ _ _ _ _ _;refine Aa (Aky y o.at_) rfl ?_;rintro z rfl;exact⟨trivial,rfl,rfl,rfl,(by show V.int _ _=_;simp_all[validE])⟩)
   | (refine⟨trivial,rfl,rfl,rfl,?_⟩)
   |fail
  all_goals (show V.int _ _=_;simp_all[validE])
theorem Wx (t:Tree)(o:OpT)(ht:t.weight≤1000000)(ho:o.Ok):Pure Tryz.prog 91 [nodeV t,opV o] (λx=>x=.int .i64 (ValidE t o)):=by
 have hp:=ho.lt.path;have hto:=ho.lt.to;have hpc:=ho.lt.pieces;have hpl:=ho.each;refine Ad 300 Tryz.func91 rfl rfl rfl λB=> ?_;show CallThen _ _ _ _ _ _;refine Aa (Tg t ht) rfl ?_;rintro x rfl;refine⟨λg1=>go 300 ?_,λg1=>go 300 ?_⟩
 ·exact⟨trivial,rfl,rfl,rfl,by unfold ValidE;rw[g1];rfl⟩
 show CallThen _ _ _ _ _ _;refine Aa (Afa o ho.lt ho.each) rfl ?_;rintro x rfl;refine⟨λg2=>go 300 ?_,λg2=>go 300 ?_⟩
 ·exact⟨trivial,rfl,rfl,rfl,by unfold ValidE;rw[g1,g2];rfl⟩
 have hV:ValidE t o=validE t o:=by unfold ValidE;rw[g1,g2];rfl
 rw[hV];clear hV g1 g2
 repeat' first
  | (refine⟨λ_=>go 300 ?_,λ_=>go 300 ?_⟩)
  | (show CallThen _ _ _ _ _ _;refine Aa (Ly t o.path hp) rfl ?_;rintro z rfl;cases hat:atT t o.path with
    |none=>exact⟨trivial,rfl,rfl,rfl,(by show V.int _ _=_;simp_all[validE])⟩
    |some x=>
     have hxw:=Ce hat;have hxt:=Ht x
     repeat' first
      | (refine⟨λ_=>go 300 ?_,λ_=>go 300 ?_⟩)
      | (show CallThen _ _ _ _ _ _;refine Aa (Aab x o.at_) rfl ?_;rintro z rfl)
      | (show CallThen _ _ _ _ _ _;refine Aa (Tf o.path o.to hp) rfl ?_;rintro z rfl)
      | (show CallThen _ _ _ _ _ _;refine Aa (Aad x.text o.pieces (by omega) (by omega) hpl) rfl ?_;rintro z rfl)
      | (show CallThen _ _ _ _ _ _;refine Aa (Ly t o.to hto) rfl ?_;rintro z rfl;cases hat2:atT t o.to with
        |none=>exact⟨trivial,rfl,rfl,rfl,(by show V.int _ _=_;simp_all[validE])⟩
        |some y=>
         show CallThen _ _ _ _ _ _;refine Aa (Aab y o.at_) rfl ?_;rintro z rfl;exact⟨trivial,rfl,rfl,rfl,(by show V.int _ _=_;simp_all[validE])⟩)
      | (refine⟨trivial,rfl,rfl,rfl,?_⟩)
      |fail
     all_goals (show V.int _ _=_;simp_all[validE]))
  | (refine⟨trivial,rfl,rfl,rfl,?_⟩)
  |fail
 all_goals (show V.int _ _=_;simp_all[validE])
theorem Anh (o:OpT)(y:Tree):Fun Tryz.prog 128 [some (.box (nodeV y).cells)] [.ptr (.loc 0) 0,.iptr (opV o).cells 0] (λ_ T=>T=[some (.box (nodeV (relabelT o.label y)).cells)]):=by
 refine Ay 100 Tryz.func128 rfl rfl rfl λimps B hi=> ?_;obtain⟨r,rfl⟩:=At2.1 hi;refine⟨trivial,rfl,rfl,?_⟩;cases y;rfl
theorem Ani (o:OpT)(y:Tree)(ho:o.Ok)(hy:y.weight≤1000000):Fun Tryz.prog 129 [some (.box (nodeV y).cells)] [.ptr (.loc 0) 0,.iptr (opV o).cells 0] (λ_ T=>T=[some (.box (nodeV (retextT o.pieces y)).cells)]):=by
 refine Ay 100 Tryz.func129 rfl rfl rfl λimps B hi=> ?_;obtain⟨r,rfl⟩:=At2.1 hi;have:=Ht y;show Goes _ _ _ _;refine Ac [] 100 ⟨_,Ak3 y.text o.pieces (by omega) ho.lt.pieces ho.each,rfl,?_⟩;refine⟨by kernel_rfl,?_⟩;refine⟨trivial,rfl,rfl,?_⟩;cases y;rfl
inductive Does (t:Tree)(o:OpT):Tree->Prop
 |ins (y) (hk:o.kind=1) (hy:atT t o.path=some y) (h0:0≤o.at_) (h1:o.at_≤y.subs.length):Does t o (changeT (insT o.at_ (freshT o)) t o.path)
 |del (x) (hk:o.kind=2) (hne:o.path≠[]) (hx:atT t o.path=some x):Does t o (changeT (delT (lastP o.path)) t o.path.dropLast)
 |mov (x z) (hk:o.kind=3) (hne:o.path≠[]) (hx:atT t o.path=some x) (hw:within o.path o.to=false) (hz:atT t o.to=some z) (h0:0≤o.at_) (h1:o.at_≤z.subs.length):Does t o (moveT x t o)
 |lab (y) (hk:o.kind=5) (hy:atT t o.path=some y):Does t o (changeT (relabelT o.label) t o.path)
 |edt (y) (hk:o.kind=6) (hy:atT t o.path=some y):Does t o (changeT (retextT o.pieces) t o.path)
theorem Adw (o:OpT):Wk (.agg [.int .u64 o.id,.bool o.leaf,.str o.label,.nilsl,.str [],.nilsl]) (nodeV (freshT o)):=
 Wk.agg ⟨.refl _,.refl _,.refl _,Wk.nil 2,.refl _,Wk.nil 6,trivial⟩
theorem K3 (t:Tree)(o:OpT)(m:Tree)(ht:t.weight≤900000)(ho:o.Ok)(hto:o.kind=3-> ∀x∈o.to,inI x)(h:Does t o m):Pure Tryz.prog 87 [nodeV t,opV o] (λx=>x=nodeV m):=by
 have hp:=ho.lt.path;have hpt:=ho.lt.to;refine Ad 300 Tryz.func87 rfl rfl rfl λB=> ?_;cases h with
 |ins y hk hy h0 h1=>
  refine⟨λg1=>go 300 ?_,λg1=>absurd hk (Bg g1)⟩;show CallThen _ _ _ _ _ _;refine Aa (Fx (Adt t (freshT o) y o.path o.at_ hp ht hy h0 h1) ⟨.refl _,.refl _,.refl _,Adw o,trivial⟩ rfl rfl) rfl ?_;rintro z rfl;exact⟨trivial,rfl,rfl,rfl,rfl⟩
 |del x hk hne hx=>
  obtain⟨y,y1,y2,y3,y4⟩:=F6 hne hx;refine⟨λg1=>absurd (hk.symm.trans (Aw g1)) (by decide),λg1=>go 300 ?_⟩;refine⟨λg1=>go 300 ?_,λg1=>absurd hk (Bg g1)⟩;show CallThen _ _ _ _ _ _;refine Aa (Adu t y o.path hp hne ht y1 y2 y3) rfl ?_;rintro z rfl;exact⟨trivial,rfl,rfl,rfl,by rw[Dc];rfl⟩
 |mov x z hk hne hx hw hz h0 h1=>
  obtain⟨y,y1,y2,y3,y4⟩:=F6 hne hx;refine⟨λg1=>absurd (hk.symm.trans (Aw g1)) (by decide),λg1=>go 300 ?_⟩;refine⟨λg1=>absurd (hk.symm.trans (Aw g1)) (by decide),λg1=>go 300 ?_⟩;refine⟨λg1=>go 300 ?_,λg1=>absurd hk (Bg g1)⟩;show CallThen _ _ _ _ _ _;refine Aa (w_At t o.path hp) rfl ?_;rintro _ rfl;rw[hx];have hzl:=Bv z;have hzw:=Ce hz;show CallThen _ _ _ _ _ _;refine Aa (Ak1 o.path o.to o.at_ hp hpt hne ⟨by omega,by omega⟩ (hto hk) y2) rfl ?_;rintro _ rfl;show Goes _ _ _ _;have hlast:=Dc hne;have hw':within (o.path.dropLast++ [lastP o.path]) o.to=false:=by rw[←hlast,Atg];exact hw
  obtain⟨z',z1,z2,z3⟩:=Aot (by rw[←hlast];exact y2) h0 o.path.dropLast o.to t y z y1 (by rw[←hlast];exact y3) hw' hz h1;have hmw:=Py (Ahh (lastP o.path)) o.path.dropLast t;have hrem:=Adu t y o.path hp hne ht y1 y2 y3;have hins:=Adt (changeT (delT (lastP o.path)) t o.path.dropLast) x z' (landT o.path.dropLast (lastP o.path) o.to o.at_).1 (landT o.path.dropLast (lastP o.path) o.to o.at_).2 (by rw[Ams];exact hpt) (by omega) z1 z2 z3;rw[←hlast] at hins;refine Ac [] 300 ⟨_,hrem,rfl,_,hins,rfl,?_⟩;refine⟨by kernel_rfl,?_⟩;refine⟨trivial,rfl,rfl,rfl,?_⟩;unfold moveT;rw[←hlast];rfl
 |lab y hk hy=>
  refine⟨λg1=>absurd (hk.symm.trans (Aw g1)) (by decide),λg1=>go 300 ?_⟩;refine⟨λg1=>absurd (hk.symm.trans (Aw g1)) (by decide),λg1=>go 300 ?_⟩;refine⟨λg1=>absurd (hk.symm.trans (Aw g1)) (by decide),λg1=>go 300 ?_⟩;refine⟨λg1=>absurd (hk.symm.trans (Aw g1)) (by decide),λg1=>go 300 ?_⟩;refine⟨λg1=>go 300 ?_,λg1=>absurd hk (Bg g1)⟩;show CallThen _ _ _ _ _ _;refine Dl 1 rfl rfl ?_;refine Aa (K2 128 (opV o).cells (relabelT o.label) y (Anh o y) o.path t hp (by omega) hy) rfl ?_;rintro z rfl;exact⟨trivial,rfl,rfl,rfl,rfl⟩
 |edt y hk hy=>
  have hyw:=Ce hy;refine⟨λg1=>absurd (hk.symm.trans (Aw g1)) (by decide),λg1=>go 300 ?_⟩;refine⟨λg1=>absurd (hk.symm.trans (Aw g1)) (by decide),λg1=>go 300 ?_⟩;refine⟨λg1=>absurd (hk.symm.trans (Aw g1)) (by decide),λg1=>go 300 ?_⟩;refine⟨λg1=>absurd (hk.symm.trans (Aw g1)) (by decide),λg1=>go 300 ?_⟩;refine⟨λg1=>absurd (hk.symm.trans (Aw g1)) (by decide),λg1=>go 300 ?_⟩;show CallThen _ _ _ _ _ _;refine Dl 1 rfl rfl ?_;refine Aa (K2 129 (opV o).cells (retextT o.pieces) y (Ani o y ho (by omega)) o.path t hp (by omega) hy) rfl ?_;rintro z rfl;exact⟨trivial,rfl,rfl,rfl,rfl⟩
def ApplyV (r:Tree×Int):V:=.tup [nodeV r.1,.int .i64 r.2]
end Bow
namespace Bow
open Go
mutual
def sameT (ids:Bool):Tree->Tree->Bool
 | .mk i l b a t ss,u=>(!ids||decide (i=u.id))&& ((l==u.leaf)&& (decide (b=u.label)&& (decide (t=u.text)&& (decide (a=u.attrs)&&sameTs ids ss u.subs))))
def sameTs (ids:Bool):List Tree->List Tree->Bool
 | [],[]=>true
 |s::ss,u::us=>sameT ids s u&&sameTs ids ss us
 |_,_=>false
end
theorem Ac7 (ids:Bool)(t u:Tree):sameT ids t u=((!ids||decide (t.id=u.id))&& ((t.leaf==u.leaf)&& (decide (t.label=u.label)&& (decide (t.text=u.text)&& (decide (t.attrs=u.attrs)&&sameTs ids t.subs u.subs))))):=by
 cases t;rw[sameT];rfl
theorem Wi {ids:Bool}: ∀ {ss us:List Tree},sameTs ids ss us=true->ss.length=us.length
 | [],[],_=>rfl
 | [],_::_,h=>by simp[sameTs] at h
 |_::_,[],h=>by simp[sameTs] at h
 |s::ss,u::us,h=>by
  rw[sameTs,Aq6] at h;simp[Wi h.2]
theorem Aj0 {ids:Bool}{ss us:List Tree}{i:Nat}(h1:i<ss.length)(h2:i<us.length):sameTs ids (ss.drop i) (us.drop i)=(sameT ids ss[i] us[i]&&sameTs ids (ss.drop (i+1)) (us.drop (i+1))):=by
 rw[Aru h1,Aru h2,sameTs]
mutual
theorem Wj (ids:Bool): ∀t:Tree,sameT ids t t=true
 | .mk i l b a c ss=>by
  rw[Ac7];simp only[Tree.id,Tree.leaf,Tree.label,Tree.text,Tree.attrs,Tree.subs];rw[S9 ids ss];simp
theorem S9 (ids:Bool): ∀ss:List Tree,sameTs ids ss ss=true
 | []=>by rw[sameTs]
 |s::ss=>by rw[sameTs,Wj ids s,S9 ids ss];rfl
end
end Bow
namespace Bow
open Go Go.Proofs
open Go Go.Proofs
end Bow
namespace Bow
open Go Go.Proofs
theorem Ak4 (xs:List V)(hl:xs.length≤1000000):Fun Tryz.prog 137 [] [.sl 1 xs] (λx T=>x=.osl (.loc 0) 0 0 xs.length∧T=[some (.vec 0 1 xs)]):=by
 refine Ay 100 Tryz.func137 rfl rfl rfl λimps B hi=> ?_;have:imps=[]:=Ard.1 hi;subst this;refine⟨Ark (Arg _ hl) (by decide),?_⟩;exact⟨trivial,rfl,rfl,rfl,rfl⟩
theorem Adx (x:Tree): ∀(p:List Int) (t y:Tree),p.length≤1000000->t.weight≤1000000->atT t p=some y->Pure Tryz.prog 135 [nodeV t,pathV p,nodeV x] (λr=>r=.tup [nodeV (changeT (λ_=>x) t p),.tt])
 | [],t,y,_,_,_=>by
  refine Ad 300 Tryz.func135 rfl rfl rfl λB=> ?_;refine⟨λg=>go 300 ?_,λg=>absurd rfl (Bg g)⟩;exact⟨trivial,rfl,rfl,rfl,rfl⟩
 |i::p,t,y,hp,ht,hy=>by
  rw[atT] at hy;cases hs:subT t i with
  |none=>rw[hs] at hy;cases hy
  |some s=>
  rw[hs] at hy;simp only at hy;obtain⟨hi,hsi,hm⟩:=A1 hs;have hil:=Ab hsi;have hsw:=D5 hm;have ih:=Adx x p s y (by simp at hp;omega) (by omega) hy;refine Ad 300 Tryz.func135 rfl rfl rfl λB=> ?_;refine⟨λg=>absurd (Aw g) (by simp;omega),λg=>go 300 ?_⟩;show Goes _ _ _ _;refine Ac [] 300 ?_;refine⟨Arr 0,_,rfl,⟨λq1=>absurd (Au q1) (by omega),λq1=>⟨Arr 0,_,rfl,?_⟩⟩⟩;refine⟨by kernel_rfl,?_⟩;refine⟨λq2=>absurd (Lr q2) (by simp[A2];omega),λq2=>go 300 ?_⟩;show Goes _ _ _ _;have hx:t.subV[i.toNat]?=some (nodeV s):=N4 hsi;have hil':i< (t.subV.length:Int):=by rw[A6];omega
  have e:V.sl 1 ((((i::p).map intV).drop (Int.toNat 1)).take (((((i::p).map intV).length:Nat):Int).toNat-Int.toNat 1))=pathV p:=by
   unfold pathV;rw[Ars (by simp)];rfl
  refine Ac [] 300 ⟨Arr 0,_,rfl,hi,_,hx,by decide,by simp;omega,by omega,.tup [nodeV (changeT (λ_=>x) s p),.tt],?_,rfl,?_⟩
  ·unfold pathV at e ih;rw[e];exact ih
  refine⟨by kernel_rfl,?_⟩;refine⟨by kernel_rfl,?_⟩;have hsl:=Bv t;refine⟨Co (by rw[A6];omega) (by decide),?_⟩;show Goes _ _ _ _;have hx0:t.subV[0+i.toNat]?=some (nodeV s):=by rw[Ary];exact hx
  refine Ac [] 1 ⟨Arr 0,_,rfl,rfl,hi,hil',rfl,_,hx0,?_⟩;refine⟨by kernel_rfl,?_⟩;show Goes _ _ _ _;refine Aeg 10 4 rfl rfl (by simp) ?_;refine go 300 ?_;refine⟨trivial,rfl,rfl,rfl,?_⟩;rw[changeT,hs];simp only;rw[Gb,←Ui,Ary];rfl
theorem Ape (t x:Tree)(at_:Int):(t.subV.take (at_.toNat-Int.toNat 0:Nat)).drop 0++ [nodeV x]++ (t.subV.drop at_.toNat).take ((t.subV.length:Int).toNat-at_.toNat)=(t.subs.take at_.toNat++x::t.subs.drop at_.toNat).map nodeV:=by
 rw[A2,Ars (l:=List.drop _ _) (by simp)];simp
theorem Apf (t:Tree)(at_:Int)(h0:0≤at_):(t.subV.take (at_.toNat-Int.toNat 0:Nat)).drop 0++ (t.subV.drop (at_+1).toNat).take ((t.subV.length:Int).toNat- (at_+1).toNat)=(t.subs.take at_.toNat++t.subs.drop (at_.toNat+1)).map nodeV:=by
 have e:(at_+1).toNat=at_.toNat+1:=by omega
 rw[A2,Ars (l:=List.drop _ _) (by simp),e];simp
theorem Aae (t x:Tree)(at_:Int)(ht:t.weight≤1000000)(h0:0≤at_)(h1:at_≤t.subs.length):Pure Tryz.prog 94 [nodeV t,.int .i64 at_,nodeV x] (λr=>r=nodeV (insT at_ x t)):=by
 have hsl:=Bv t;have hl:t.subV.length=t.subs.length:=A6 t;refine Ad 300 Tryz.func94 rfl rfl rfl λB=> ?_;refine⟨by decide,h0,by rw[hl];exact h1,Co (by simp;omega) (by decide),?_⟩;refine⟨⟨rfl,trivial⟩,?_⟩;refine⟨rfl,rfl,rfl,rfl,Co (by simp;omega) (by decide),?_⟩;refine⟨h0,by rw[hl];exact h1,Arr _,rfl,?_,Co (by simp;omega) (by decide),?_⟩
 ·simp
 refine⟨trivial,rfl,rfl,rfl,by simp only[Arb],rfl,?_⟩;rw[insT,Gb,←Ape];rfl
theorem Ak5 (t:Tree)(at_:Int)(ht:t.weight≤1000000)(h0:0≤at_)(h1:at_<t.subs.length):Pure Tryz.prog 136 [nodeV t,.int .i64 at_] (λr=>r=nodeV (delT at_ t)):=by
 have hsl:=Bv t;have hl:t.subV.length=t.subs.length:=A6 t;refine Ad 300 Tryz.func136 rfl rfl rfl λB=> ?_;refine⟨by decide,h0,by rw[hl];omega,Co (by simp;omega) (by decide),?_⟩;refine⟨⟨by omega,by omega⟩,by omega,by rw[hl];omega,Arr _,rfl,by simp,Co (by simp;omega) (by decide),?_⟩;refine⟨trivial,rfl,rfl,rfl,by simp[Arb],rfl,?_⟩;rw[delT,Gb,←Apf _ _ h0];rfl
theorem Gt (t x y:Tree)(p:List Int)(hp:p.length≤1000000)(ht:t.weight≤1000000)(hy:atT t p=some y):Pure Tryz.prog 93 [nodeV t,pathV p,nodeV x] (λr=>r=nodeV (changeT (λ_=>x) t p)):=by
 refine Ad 300 Tryz.func93 rfl rfl rfl λB=> ?_;show CallThen _ _ _ _ _ _;refine Aa (Adx x p t y hp ht hy) rfl ?_;rintro z rfl;exact⟨trivial,rfl,rfl,rfl,rfl⟩
theorem Er {F:Tree->Tree}{y:Tree}: ∀ {p:List Int} {t:Tree},atT t p=some y->changeT (λ_=>F y) t p=changeT F t p
 | [],t,h=>by
  rw[atT] at h;injection h with h
  subst h;rfl
 |i::p,t,h=>by
  rw[atT] at h;cases hs:subT t i with
  |none=>rw[hs] at h;cases h
  |some s=>
   rw[hs] at h;rw[changeT,changeT,hs];simp only;rw[Er (p:=p) h]
theorem Rj (t x:Tree)(p:List Int)(hp:p.length≤1000000)(hne:p≠[])(ht:t.weight≤1000000)(hx:atT t p=some x):Pure Tryz.prog 95 [nodeV t,pathV p] (λr=>r=nodeV (withoutT t p)):=by
 obtain⟨y,y1,y2,y3,y4⟩:=F6 hne hx;have hlen:0<p.length:=Arw.2 hne;have hyw:=Ce y1;refine Ad 300 Tryz.func95 rfl rfl rfl λB=> ?_;refine⟨by constructor<;>simp<;>omega,by decide,by simp;omega,by simp;omega,?_⟩;have e:(List.take ((((p.map intV).length:Int)-1).toNat-Int.toNat 0) (List.drop (Int.toNat 0) (p.map intV)))=p.dropLast.map intV:=by
  rw[Awe,Atk];simp
 show CallThen _ _ _ _ _ _;rw[e];refine Aa (Ly t p.dropLast (by simp;omega)) rfl ?_;rintro z rfl;rw[y1];show Goes _ _ _ _;have hg:(p.map intV)[(((p.map intV).length:Int)-1).toNat]?=some (intV (lastP p)):=by
  have e1:(((p.map intV).length:Int)-1).toNat=p.length-1:=by simp
  rw[e1,Arv,←Av0,Atx hne,Dc hne];rfl
 have hlast:=Dc hne;refine Ac [] 300 ⟨⟨by simp;omega,by simp;omega⟩,by simp;omega,_,hg,_,Ak5 y (lastP p) (by omega) (by omega) (by omega),rfl,_,Gt t (delT (lastP p) y) y p.dropLast (by simp;omega) ht y1,rfl,?_⟩;refine⟨by kernel_rfl,?_⟩;refine⟨trivial,rfl,rfl,rfl,?_⟩;rw[Er (F:=delT (lastP p)) y1];rfl
theorem Gu (t:Tree)(a:AttrL):nodeV (t.withAttrs a)=.agg [.int .u64 t.id,.bool t.leaf,.str t.label,.sl 2 (a.map attrV),.str t.text,.sl 6 t.subV]:=by
 cases t;rfl
theorem Fe (t:Tree):t.attrs.length≤t.weight:=by rw[Bt];omega
theorem Ak6 (t:Tree)(o:OpT)(ht:t.weight≤400000):Pure Tryz.prog 97 [nodeV t,opV o] (λr=>r=nodeV (t.withAttrs (refA o o.gone t.attrs))):=by
 have hal:=Fe t;refine Ad 300 Tryz.func97 rfl rfl rfl λB=> ?_;show Goes _ _ _ _;refine Dx 5 2 rfl ?_;refine Ak (ι:=Nat×Bool×Nat×Nat×List V) (λi=>i.1≤t.attrs.length∧ ∃acc:AttrL,i.2.2.2.2=acc.map attrV∧i.2.2.2.1=acc.length∧acc.length≤2*i.1∧acc++refA o i.2.1 (t.attrs.drop i.1)=refA o o.gone t.attrs) (λi=>t.attrs.length-i.1)
  (λi=>[(7,.int .i64 i.1),(6,.bool i.2.1),(5,.osl (.loc 3) i.2.2.1 0 i.2.2.2.1),(2,.ptr (.loc 0) 0),(3,.ptr (.loc 1) 0),(4,.ptr (.loc 2) 0)])
  (λi=>[some (.box (nodeV t).cells),some (.box (opV o).cells),some (.box (zeroV .nilsl).cells),some (.vec i.2.2.1 2 i.2.2.2.2)]) (0,o.gone,0,0,[]) 300 (λ_=>rfl) (λ_=>rfl) ⟨⟨Aq4 _,[],rfl,rfl,Ara _,rfl⟩,?_,?_⟩ ?_
 ·exact Zq6
 ·exact Zq4
 rintro⟨i,d,g,n,xs⟩ ⟨k1,acc,rfl,rfl,k2,k3⟩ next;simp only at k1 k2 k3;refine⟨λhlt=>go 300 ?_,λhge=>go 300 ?_⟩
 ·have hi:i<t.attrs.length:=by simpa using hlt
  have hx:(t.attrs.map attrV)[i]?=some (attrV t.attrs[i]):=by simp[hi]
  rw[Bi hi,refA] at k3;show Goes _ _ _ _;refine Ac [] 300 ⟨λq1=>⟨Aq5 i,_,hx,?_⟩,λq1=> ?_⟩
  all_goals refine⟨by kernel_rfl,?_⟩
  ·have hd:d=false:=by simpa using q1
   subst hd;refine⟨λq2=>go 300 ?_,λq2=>go 300 ?_⟩
   ·have hl:Op.bytesLess t.attrs[i].1 o.key=false:=by simpa using q2
    rw[hl] at k3;refine⟨⟨rfl,trivial⟩,rfl,rfl,rfl,(by simp),Co (by simp;omega) (by decide),?_⟩;show Goes _ _ _ _;refine Ac [] 300 ⟨Aq5 i,_,hx,?_⟩;refine⟨by kernel_rfl,?_⟩;refine⟨λq3=>go 300 ?_,λq3=>go 300 ?_⟩
    ·have he:decide (t.attrs[i].1=o.key)=false:=by simpa using q3
     rw[he] at k3;refine⟨Aq5 i,_,hx,⟨rfl,trivial⟩,rfl,rfl,rfl,(by simp),Co (by simp;omega) (by decide),?_⟩;refine⟨by constructor<;>omega,?_⟩;show Goes _ _ _ _;refine Hy 6 (v:=.tt) (v':=.bool true) rfl rfl rfl Wk.tt ?_;refine next (i+1,true,_,_,_) _ _ ⟨⟨hi,acc++ [(o.key,o.value)]++ [t.attrs[i]],?_,?_,?_,?_⟩,?_,Zq6,Zq4⟩
     ·simp[attrV]
     ·simp
     ·simp;omega
     ·simpa using k3
     ·simp only;omega
    ·have he:decide (t.attrs[i].1=o.key)=true:=by simpa using q3
     rw[he] at k3;refine⟨by constructor<;>omega,?_⟩;show Goes _ _ _ _;refine Hy 6 (v:=.tt) (v':=.bool true) rfl rfl rfl Wk.tt ?_;refine next (i+1,true,_,_,_) _ _ ⟨⟨hi,acc++ [(o.key,o.value)],?_,?_,?_,?_⟩,?_,Zq6,Zq4⟩
     ·simp[attrV]
     ·simp
     ·simp;omega
     ·simpa using k3
     ·simp only;omega
   ·have hl:Op.bytesLess t.attrs[i].1 o.key=true:=by simpa using q2
    rw[hl] at k3;show Goes _ _ _ _;refine Ac [] 300 ⟨Aq5 i,_,hx,?_⟩;refine⟨by kernel_rfl,?_⟩;refine⟨λq3=>go 300 ?_,λq3=>go 300 ?_⟩
    ·have he:decide (t.attrs[i].1=o.key)=false:=by simpa using q3
     rw[he] at k3;refine⟨Aq5 i,_,hx,⟨rfl,trivial⟩,rfl,rfl,rfl,(by simp),Co (by simp;omega) (by decide),?_⟩;refine⟨by constructor<;>omega,?_⟩;show Goes _ _ _ _;refine next (i+1,false,bump g,(acc.map attrV).length+1,acc.map attrV++ [attrV t.attrs[i]]) _ _ ⟨⟨hi,acc++ [t.attrs[i]],?_,?_,?_,?_⟩,?_,Zq6,Zq4⟩
     ·simp[attrV]
     ·simp
     ·simp;omega
     ·simpa using k3
     ·simp only;omega
    ·have he:decide (t.attrs[i].1=o.key)=true:=by simpa using q3
     rw[he] at k3;refine⟨by constructor<;>omega,?_⟩;show Goes _ _ _ _;refine next (i+1,false,_,_,_) _ _ ⟨⟨hi,acc,?_,?_,?_,?_⟩,?_,Zq6,Zq4⟩
     ·simp
     ·simp
     ·simp;omega
     ·simpa using k3
     ·simp only;omega
  ·have hd:d=true:=by simpa using q1
   subst hd;show Goes _ _ _ _;refine Ac [] 300 ⟨Aq5 i,_,hx,?_⟩;refine⟨by kernel_rfl,?_⟩;refine⟨λq3=>go 300 ?_,λq3=>go 300 ?_⟩
   ·have he:decide (t.attrs[i].1=o.key)=false:=by simpa using q3
    rw[he] at k3;refine⟨Aq5 i,_,hx,⟨rfl,trivial⟩,rfl,rfl,rfl,(by simp),Co (by simp;omega) (by decide),?_⟩;refine⟨by constructor<;>omega,?_⟩;show Goes _ _ _ _;refine next (i+1,true,bump g,(acc.map attrV).length+1,acc.map attrV++ [attrV t.attrs[i]]) _ _ ⟨⟨hi,acc++ [t.attrs[i]],?_,?_,?_,?_⟩,?_,Zq6,Zq4⟩
    ·simp[attrV]
    ·simp
    ·simp;omega
    ·simpa using k3
    ·simp only;omega
   ·have he:decide (t.attrs[i].1=o.key)=true:=by simpa using q3
    rw[he] at k3;refine⟨by constructor<;>omega,?_⟩;show Goes _ _ _ _;refine next (i+1,true,_,_,_) _ _ ⟨⟨hi,acc,?_,?_,?_,?_⟩,?_,Zq6,Zq4⟩
    ·simp
    ·simp
    ·simp;omega
    ·simpa using k3
    ·simp only;omega
 ·have hi:i=t.attrs.length:=by have:t.attrs.length≤i:=(by simpa using hge);omega
  subst hi;rw[Aui,refA] at k3;refine⟨λq1=>go 300 ?_,λq1=>go 300 ?_⟩
  ·have hd:d=false:=by simpa using q1
   subst hd;refine⟨⟨rfl,trivial⟩,rfl,rfl,rfl,(by simp),Co (by simp;omega) (by decide),?_⟩;refine⟨trivial,rfl,rfl,rfl,(by simp),rfl,?_⟩;rw[Gu,←k3];simp[attrV]
  ·have hd:d=true:=by simpa using q1
   subst hd;refine⟨trivial,rfl,rfl,rfl,(by simp),rfl,?_⟩;rw[Gu,←k3];simp
theorem Ady {P:Program}{f:FuncId}{a:V}{sz:Nat}{q q':List V}{Q:V->Prop}(h:Pure P f [a,.sl sz q'] Q)(e:q=q'):Pure P f [a,.sl sz q] Q:=e▸h
theorem Ak7 (t x z:Tree)(o:OpT)(ht:t.weight≤400000)(ho:o.Ok)(hfr: ∀i∈o.path,inI (i+1))(hne:o.path≠[])(hx:atT t o.path=some x)(hw:within o.path o.to=false)(hz:atT t o.to=some z)(h0:0≤o.at_)(h1:o.at_≤z.subs.length):
  Pure Tryz.prog 96 [nodeV t,opV o] (λr=>r=nodeV (moveT x t o)):=by
 have hp:=ho.lt.path;have hpt:=ho.lt.to;have hxw:=Ce hx;have hzw:=Ce hz;have hmw:=Hx (F:=insT o.at_ x) (n:=x.weight) (Ou o.at_ x) o.to t;obtain⟨s',hs'⟩:=Afj h0 x o.path o.to t x z hne hx hw hz h1;have law:=Abm h0 x o.path o.to t x z hne hx hw hz h1;refine Ad 300 Tryz.func96 rfl rfl rfl λB=> ?_;show CallThen _ _ _ _ _ _;refine Aa (Ly t o.path hp) rfl ?_;rintro _ rfl;rw[hx];show CallThen _ _ _ _ _ _;refine Aa (Ly t o.to hpt) rfl ?_;rintro _ rfl;rw[hz];show Goes _ _ _ _;refine Ac [] 300 ⟨_,Aae z x o.at_ (by omega) h0 h1,rfl,_,Gt t (insT o.at_ x z) z o.to hpt (by omega) hz,rfl,?_⟩;rw[Er (F:=insT o.at_ x) hz];refine⟨by kernel_rfl,?_⟩;refine⟨by kernel_rfl,?_⟩;show CallThen _ _ _ _ _ _;refine Ag [] (Ak4 (o.path.map intV) (by simpa using hp)) rfl rfl trivial rfl rfl rfl ?_;rintro r T1 ⟨rfl,rfl⟩;refine⟨rfl,?_⟩;show Goes _ _ _ _;have hwith:=Tf o.to o.path hpt;have hm:(changeT (insT o.at_ x) t o.to).weight≤1000000:=by omega
 have hwo:Pure Tryz.prog 95 [nodeV (changeT (insT o.at_ x) t o.to),pathV (liftP o.to o.at_ o.path)] (λr=>r=nodeV (moveT x t o)):=by
  have:=Rj (changeT (insT o.at_ x) t o.to) s' (liftP o.to o.at_ o.path) (by rw[Abo];exact hp) (λe=>hne (Ard.1 (by rw[←Abo o.to o.at_ o.path,e];rfl))) hm hs';rw[law] at this;exact this
 have hsame:(decide (o.to.length<o.path.length)&& (within o.to o.path&&decide (o.at_≤o.path.getD o.to.length 0)))=false->liftP o.to o.at_ o.path=o.path:=λh=>by unfold liftP;rw[h];rfl
 refine Ac [] 300 ⟨rfl,λq1=>⟨rfl,rfl,_,hwith,rfl,⟨λq2=> ?_,λq2=> ?_⟩⟩,λq1=> ?_⟩
 ·have hd:o.to.length<o.path.length:=by have:=Au q1;simp at this;omega
  have hg:(o.path.map intV)[0+ (((o.to.map intV).length:Nat):Int).toNat]?=some (intV o.path[o.to.length]):=by simp[hd]
  have hgd:o.path.getD o.to.length 0=o.path[o.to.length]:=by simp[Asg,hd]
  have hb0:(0:Int)≤((o.to.map intV).length:Nat):=Aq5 _;have hb1:(((o.to.map intV).length:Nat):Int)< ((o.path.map intV).length:Nat):=by simp;omega
  refine⟨rfl,hb0,hb1,rfl,_,hg,?_⟩;refine⟨by kernel_rfl,?_⟩;refine⟨λq3=>go 300 ?_,λq3=>go 300 ?_⟩
  ·have hin:=hfr _ (Arq hd);refine⟨rfl,hb0,hb1,rfl,_,hg,hin,rfl,hb0,hb1,rfl,_,hg,?_⟩;show CallThen _ _ _ _ _ _;refine C0 ?_;refine⟨rfl,by simp,λr=>r=nodeV (moveT x t o),?_,rfl,?_⟩
   ·refine Ady (q':=(liftP o.to o.at_ o.path).map intV) hwo ?_;have e:liftP o.to o.at_ o.path=o.path.set o.to.length (o.path[o.to.length]+1):=by
     unfold liftP;have q2:within o.to o.path=true:=by simpa using q2
     have q3:o.at_≤o.path[o.to.length]:=Lr q3;rw[hgd,decide_eq_true hd,q2,decide_eq_true q3];rfl
    rw[e,Au5];simp;rfl
   ·rintro r rfl;exact⟨trivial,rfl,rfl,rfl,rfl⟩
  ·have e:=hsame (by
    have q3:=I2 q3;rw[hgd,decide_eq_false (by omega: ¬o.at_≤o.path[o.to.length])];simp)
   rw[e] at hwo;show CallThen _ _ _ _ _ _;refine C0 ?_;refine⟨rfl,rfl,λr=>r=nodeV (moveT x t o),hwo,rfl,?_⟩;rintro r rfl;exact⟨trivial,rfl,rfl,rfl,rfl⟩
 ·have e:=hsame (by
   have q2:within o.to o.path=false:=by simpa using q2
   rw[q2];simp)
  rw[e] at hwo;refine⟨by kernel_rfl,?_⟩;show CallThen _ _ _ _ _ _;refine C0 ?_;refine⟨rfl,rfl,λr=>r=nodeV (moveT x t o),hwo,rfl,?_⟩;rintro r rfl;exact⟨trivial,rfl,rfl,rfl,rfl⟩
 ·have e:=hsame (by
   have q1: ¬o.to.length<o.path.length:=by have:=Ah q1;simp at this;omega
   rw[decide_eq_false q1];rfl)
  rw[e] at hwo;refine⟨by kernel_rfl,?_⟩;show CallThen _ _ _ _ _ _;refine C0 ?_;refine⟨rfl,rfl,λr=>r=nodeV (moveT x t o),hwo,rfl,?_⟩;rintro r rfl;exact⟨trivial,rfl,rfl,rfl,rfl⟩
end Bow
namespace Bow
open Go Go.Proofs Go.RowKit Go.Shelf
theorem Xg (a b:ByteArray)(w:World):
  Calls Tryz.prog 192 #[.string a,.string b] w λe w'=>e=.returned (.int .i64 (Lib.compareBytes a.data.toList b.data.toList))∧w'=w:=by
 go_enter Tryz.func192, Tryz.ntmps192
 go_wp2
 rw[run_callFunc_extern Tryz.func204 (by kernel_rfl) (by kernel_rfl) (by kernel_rfl) (e:=Extern.BytealgCompare.compare) (by kernel_rfl),Lib.run_compareString];simp only[Result.andThen];rw[Oper.upon_value]
 go_wp2
 go_ret
 exact⟨rfl,rfl⟩
theorem Alk (a b:ByteArray)(w:World):
  Calls Tryz.prog 167 #[.string a,.string b] w λe w'=>e=.returned (.int .i64 (Lib.compareBytes a.data.toList b.data.toList))∧w'=w:=by
 go_enter Tryz.func167, Tryz.ntmps167
 go_wp2_with (go_at_call 192;refine(Xg _ _ _).mono ?_;rintro e w' ⟨rfl,rfl⟩)
 go_ret
 exact⟨rfl,rfl⟩
theorem All (a b:List UInt8):Pure Tryz.prog 167 [.str a,.str b] (λx=>x=.int .i64 (Lib.compareBytes a b)):=by
 refine Px ⟨_, Tryz.func167,rfl,rfl⟩ rfl λw β H vals hv hr=> ?_;obtain⟨v0,v1,rfl⟩: ∃v0 v1,vals= #[v0,v1]:=by
  obtain⟨l⟩:=vals
  match l,hv with
  | [v0,v1],_=>exact⟨v0,v1,rfl⟩
 obtain⟨rfl,_⟩:=Gn (m:=[]) (hr 0 _ v0 rfl rfl);obtain⟨rfl,_⟩:=Gn (m:=[]) (hr 1 _ v1 rfl rfl);refine(Alk ⟨a.toArray⟩ ⟨b.toArray⟩ w).mono ?_;rintro e w' ⟨rfl,rfl⟩;exact⟨Below.refl _ _,.int .i64 (Lib.compareBytes a b),_,rfl,rfl,rfl,.int _ _⟩
end Bow
namespace Bow
open Go Go.Proofs
theorem Aaf (a:List UInt8×List UInt8)(k:List UInt8):Pure Tryz.prog 166 [attrV a,.str k] (λx=>x=.int .i64 (Lib.compareBytes a.1 k)):=by
 refine Ad 300 Tryz.func166 rfl rfl rfl λB=> ?_;show CallThen _ _ _ _ _ _;refine Aa (All a.1 k) rfl ?_;rintro x rfl;exact⟨trivial,rfl,rfl,rfl,rfl⟩
theorem Apg (i j:Nat)(h:i+j≤2000000):IntKind.i64.wrap (IntKind.u64.wrap ((i:Int)+j) / 2^min (1:Int).toNat IntKind.u64.bits)=(((i+j) / 2:Nat):Int):=by
 have e:IntKind.u64.wrap ((i:Int)+j)=((i+j:Nat):Int):=by
  unfold IntKind.wrap;simp[IntKind.signed,IntKind.bits];omega
 rw[e];unfold IntKind.wrap;simp[IntKind.signed,IntKind.bits];omega
theorem Anj (l:AttrL)(k:List UInt8)(k0:Option (List UInt8))(hl:l.length≤1000000)(hs:attrsOk k0 l=true):Pure Tryz.prog 165 [.sl 2 (l.map attrV),.str k,.fn (.func 166) [] []] (λx=>x=.tup [.int .i64 (posK k l),.bool (hasK k l)]):=by
 have hpl:=Abn k l;refine Aj (Ad 300 Tryz.func165 rfl rfl rfl λB=> ?_);show Goes _ _ _ _;refine Hd (ι:=Nat×Nat) (κ:=Unit) (λi=>i.1≤posK k l∧posK k l≤i.2∧i.2≤l.length) (λi=>i.2-i.1)
  (λi=>[(9,.int .i64 i.1),(10,.int .i64 i.2),(8,.int .i64 (l.map attrV).length),(0,.sl 2 (l.map attrV)),(1,.str k),(2,.fn (.func 166) [] [])]) (λ_=>[]) (0,(l.map attrV).length) (λ_=>True)
  (λ_=>[(9,.int .i64 (posK k l)),(8,.int .i64 (l.map attrV).length),(0,.sl 2 (l.map attrV)),(1,.str k),(2,.fn (.func 166) [] [])]) (λ_=>[]) 300 (λ_=>rfl) (λ_=>rfl) (λ_=>rfl) (λ_=>rfl) ⟨⟨Aq4 _,by simpa using hpl,by simp⟩,?_,trivial⟩ ?_ ?_
 ·exact Zq6
 ·rintro⟨⟩ _;refine⟨λq1=>go 300 ?_,λq1=>go 300 ?_⟩
  ·have hp:posK k l<l.length:=by have:=Au q1;simp at this;omega
   have hx:(l.map attrV)[posK k l]?=some (attrV l[posK k l]):=by simp[hp]
   refine⟨Aq5 _,_,hx,?_⟩;show CallThen _ _ _ _ _ _;refine Aa (Aaf l[posK k l] k) rfl ?_;rintro x rfl;refine⟨trivial,rfl,rfl,rfl,_,Wk.refl _,rfl,?_⟩;have hgd:l.getD (posK k l) ([],[])=l[posK k l]:=by simp[Asg,hp]
   have e:hasK k l=decide (Lib.compareBytes l[posK k l].1 k=0):=by
    unfold hasK;rw[decide_eq_true hp,Asb,hgd];exact decide_eq_decide.2 (Tu _ _).symm
   rw[e]
  ·have hp: ¬posK k l<l.length:=by have:=Ah q1;simp at this;omega
   refine⟨trivial,rfl,rfl,rfl,.tup [.int .i64 (posK k l),.bool false],Wk.tup ⟨.refl _,Wk.ff,trivial⟩,rfl,?_⟩;have e:hasK k l=false:=by unfold hasK;rw[decide_eq_false hp];rfl
   rw[e]
 ·rintro⟨i,j⟩ ⟨k1,k2,k3⟩ next post;simp only at k1 k2 k3;refine⟨λhlt=>go 300 ?_,λhge=>go 300 ?_⟩
  ·have hij:i<j:=by have:=Au hlt;omega
   refine⟨by constructor<;>simp only<;>omega,?_⟩;show Goes _ _ _ _;refine Al0 2 rfl rfl rfl rfl rfl (by decide) ?_;show Goes _ _ _ _;refine Hy 11 (v':=.int .i64 (((i+j) / 2:Nat):Int)) rfl rfl rfl (Wk.of_eq (congrArg (V.int .i64) (Apg i j (by omega)))) ?_;refine go 300 ?_;obtain⟨m,hm⟩: ∃m,(i+j) / 2=m:=⟨_,rfl⟩;have hml:m<l.length:=by omega
   have hx:(l.map attrV)[m]?=some (attrV l[m]):=by simp[hml]
   rw[hm];refine⟨Aq5 _,_,hx,?_⟩;show CallThen _ _ _ _ _ _;refine Aa (Aaf l[m] k) rfl ?_;rintro x rfl;have hpi:=Afi k hs m hml;refine⟨λq2=>go 300 ?_,λq2=>go 300 ?_⟩
   ·have q2:=hpi.1 ((Oo _ _).1 (Au q2));refine⟨by constructor<;>omega,?_⟩;show Goes _ _ _ _;refine next (m+1,j) _ _ ⟨⟨q2,k2,k3⟩,by simp only;omega,Zq6,trivial⟩
   ·have q2: ¬m<posK k l:=λh=>by
     have:=(Oo _ _).2 (hpi.2 h);have:=Ah q2;omega
    show Goes _ _ _ _;refine next (i,m) _ _ ⟨⟨k1,by simp only;omega,by simp only;omega⟩,by simp only;omega,Zq6,trivial⟩
  ·have hij:i=posK k l:=by have:=Ah hge;omega
   subst hij;exact post () _ _ _ rfl ⟨trivial,Zq5,trivial⟩
theorem Ak8 (o:OpT)(y:Tree)(k0:Option (List UInt8))(hs:attrsOk k0 y.attrs=true)(hl:y.attrs.length≤900000):Fun Tryz.prog 127 [some (.box (nodeV y).cells)] [.ptr (.loc 0) 0,opV o] (λ_ T=>T=[some (.box (nodeV (setAT o y)).cells)]):=by
 refine A9 1 rfl (Ay 300 Tryz.func127 rfl rfl rfl λimps B hi=> ?_);obtain⟨r,rfl⟩:=At2.1 hi;have hpl:=Abn o.key y.attrs;have hpl':((posK o.key y.attrs:Nat):Int)≤(y.attrs.map attrV).length:=by simp;omega
 have hsr:=Anj y.attrs o.key k0 (by omega) hs;show Goes _ _ _ _;refine Ac [] 300 ⟨_,hsr,rfl,?_⟩;refine⟨by kernel_rfl,?_⟩;refine⟨λq1=>go 300 ?_,λq1=>go 300 ?_⟩
 ·have q1:hasK o.key y.attrs=true:=by simpa using q1
  have hp:posK o.key y.attrs<y.attrs.length:=by
   unfold hasK at q1;simp only[Aq6,decide_eq_true_eq] at q1;exact q1.1
  have hpl'':((posK o.key y.attrs:Nat):Int)+1≤(y.attrs.map attrV).length:=by simp;omega
  have hp0:(0:Int)≤((posK o.key y.attrs:Nat):Int)+1:=by omega
  refine⟨by constructor<;>omega,?_⟩;refine⟨λq2=>go 300 ?_,λq2=>go 300 ?_⟩
  ·have q2:o.gone=false:=by simpa using q2
   refine⟨⟨rfl,trivial⟩,?_⟩;show Goes _ _ _ _;have hc:=Jj [(((y.attrs.map attrV).drop (Int.toNat 0)).take (((posK o.key y.attrs:Nat):Int).toNat-Int.toNat 0)),[attrV (o.key,o.value)],(((y.attrs.map attrV).drop (((posK o.key y.attrs:Nat):Int)+1).toNat).take (((y.attrs.map attrV).length:Int).toNat- (((posK o.key y.attrs:Nat):Int)+1).toNat))] (by simp;omega) (by simp);refine Ac [] 300 ⟨by decide,Aq5 _,hpl',hp0,hpl'',Arr _,?_⟩;refine⟨by kernel_rfl,rfl,rfl,⟨rfl,rfl,rfl,trivial⟩,rfl,rfl,rfl,_,hc,rfl,?_⟩;refine⟨by kernel_rfl,?_⟩;refine⟨trivial,rfl,rfl,[some (.box [.int .u64 y.id,.bool y.leaf,.str y.label,.sl 2 [(((y.attrs.map attrV).drop (Int.toNat 0)).take (((posK o.key y.attrs:Nat):Int).toNat-Int.toNat 0)),[attrV (o.key,o.value)],(((y.attrs.map attrV).drop (((posK o.key y.attrs:Nat):Int)+1).toNat).take (((y.attrs.map attrV).length:Int).toNat- (((posK o.key y.attrs:Nat):Int)+1).toNat))].flatten,.str y.text,.sl 6 y.subV])],rfl,rfl,Zq1,?_⟩;have e:[(((y.attrs.map attrV).drop (Int.toNat 0)).take (((posK o.key y.attrs:Nat):Int).toNat-Int.toNat 0)),[attrV (o.key,o.value)],(((y.attrs.map attrV).drop (((posK o.key y.attrs:Nat):Int)+1).toNat).take (((y.attrs.map attrV).length:Int).toNat- (((posK o.key y.attrs:Nat):Int)+1).toNat))].flatten=(setA o y.attrs).map attrV:=by
    unfold setA midA;rw[q1,q2];rw[Ars (l:=List.drop (((posK o.key y.attrs:Nat):Int)+1).toNat (y.attrs.map attrV)) (by simp)];have e1:(((posK o.key y.attrs:Nat):Int)+1).toNat=posK o.key y.attrs+1:=by omega
    rw[e1];simp[Atk,At3]
   rw[e,setAT,Gu];rfl
  ·have q2:o.gone=true:=by simpa using q2
   show Goes _ _ _ _;have hc:=Jj [(((y.attrs.map attrV).drop (Int.toNat 0)).take (((posK o.key y.attrs:Nat):Int).toNat-Int.toNat 0)),[],(((y.attrs.map attrV).drop (((posK o.key y.attrs:Nat):Int)+1).toNat).take (((y.attrs.map attrV).length:Int).toNat- (((posK o.key y.attrs:Nat):Int)+1).toNat))] (by simp;omega) (by simp);have hc:=Fx (args':=[.sl 1 ([(((y.attrs.map attrV).drop (Int.toNat 0)).take (((posK o.key y.attrs:Nat):Int).toNat-Int.toNat 0)),[],(((y.attrs.map attrV).drop (((posK o.key y.attrs:Nat):Int)+1).toNat).take (((y.attrs.map attrV).length:Int).toNat- (((posK o.key y.attrs:Nat):Int)+1).toNat))].map (V.sl 2))]) (args:=[.sl 1 [.sl 2 (((y.attrs.map attrV).drop (Int.toNat 0)).take (((posK o.key y.attrs:Nat):Int).toNat-Int.toNat 0)),.nilsl,.sl 2 (((y.attrs.map attrV).drop (((posK o.key y.attrs:Nat):Int)+1).toNat).take (((y.attrs.map attrV).length:Int).toNat- (((posK o.key y.attrs:Nat):Int)+1).toNat))]]) hc ⟨Wk.sl ⟨⟨⟨.refl _,trivial⟩,⟨rfl,rfl⟩⟩,⟨⟨Wk.nil 2,trivial⟩,⟨rfl,rfl⟩⟩,⟨⟨.refl _,trivial⟩,⟨rfl,rfl⟩⟩,trivial⟩,trivial⟩ rfl rfl;refine Ac [] 300 ⟨by decide,Aq5 _,hpl',hp0,hpl'',Arr _,?_⟩;refine⟨by kernel_rfl,⟨rfl,rfl,rfl,trivial⟩,rfl,rfl,rfl,_,hc,rfl,?_⟩;refine⟨by kernel_rfl,?_⟩;refine⟨trivial,rfl,rfl,[some (.box [.int .u64 y.id,.bool y.leaf,.str y.label,.sl 2 [(((y.attrs.map attrV).drop (Int.toNat 0)).take (((posK o.key y.attrs:Nat):Int).toNat-Int.toNat 0)),[],(((y.attrs.map attrV).drop (((posK o.key y.attrs:Nat):Int)+1).toNat).take (((y.attrs.map attrV).length:Int).toNat- (((posK o.key y.attrs:Nat):Int)+1).toNat))].flatten,.str y.text,.sl 6 y.subV])],rfl,rfl,Zq1,?_⟩;have e:[(((y.attrs.map attrV).drop (Int.toNat 0)).take (((posK o.key y.attrs:Nat):Int).toNat-Int.toNat 0)),[],(((y.attrs.map attrV).drop (((posK o.key y.attrs:Nat):Int)+1).toNat).take (((y.attrs.map attrV).length:Int).toNat- (((posK o.key y.attrs:Nat):Int)+1).toNat))].flatten=(setA o y.attrs).map attrV:=by
    unfold setA midA;rw[q1,q2];rw[Ars (l:=List.drop (((posK o.key y.attrs:Nat):Int)+1).toNat (y.attrs.map attrV)) (by simp)];have e1:(((posK o.key y.attrs:Nat):Int)+1).toNat=posK o.key y.attrs+1:=by omega
    rw[e1];simp[Atk,At3]
   rw[e,setAT,Gu];rfl
 ·have q1:hasK o.key y.attrs=false:=by simpa using q1
  have hpl'':=hpl';have hp0:(0:Int)≤((posK o.key y.attrs:Nat):Int):=Aq5 _;refine⟨λq2=>go 300 ?_,λq2=>go 300 ?_⟩
  ·have q2:o.gone=false:=by simpa using q2
   refine⟨⟨rfl,trivial⟩,?_⟩;show Goes _ _ _ _;have hc:=Jj [(((y.attrs.map attrV).drop (Int.toNat 0)).take (((posK o.key y.attrs:Nat):Int).toNat-Int.toNat 0)),[attrV (o.key,o.value)],(((y.attrs.map attrV).drop ((posK o.key y.attrs:Nat):Int).toNat).take (((y.attrs.map attrV).length:Int).toNat- ((posK o.key y.attrs:Nat):Int).toNat))] (by simp;omega) (by simp);refine Ac [] 300 ⟨by decide,Aq5 _,hpl',hp0,hpl'',Arr _,?_⟩;refine⟨by kernel_rfl,rfl,rfl,⟨rfl,rfl,rfl,trivial⟩,rfl,rfl,rfl,_,hc,rfl,?_⟩;refine⟨by kernel_rfl,?_⟩;refine⟨trivial,rfl,rfl,[some (.box [.int .u64 y.id,.bool y.leaf,.str y.label,.sl 2 [(((y.attrs.map attrV).drop (Int.toNat 0)).take (((posK o.key y.attrs:Nat):Int).toNat-Int.toNat 0)),[attrV (o.key,o.value)],(((y.attrs.map attrV).drop ((posK o.key y.attrs:Nat):Int).toNat).take (((y.attrs.map attrV).length:Int).toNat- ((posK o.key y.attrs:Nat):Int).toNat))].flatten,.str y.text,.sl 6 y.subV])],rfl,rfl,Zq1,?_⟩;have e:[(((y.attrs.map attrV).drop (Int.toNat 0)).take (((posK o.key y.attrs:Nat):Int).toNat-Int.toNat 0)),[attrV (o.key,o.value)],(((y.attrs.map attrV).drop ((posK o.key y.attrs:Nat):Int).toNat).take (((y.attrs.map attrV).length:Int).toNat- ((posK o.key y.attrs:Nat):Int).toNat))].flatten=(setA o y.attrs).map attrV:=by
    unfold setA midA;rw[q1,q2];rw[Ars (l:=List.drop ((posK o.key y.attrs:Nat):Int).toNat (y.attrs.map attrV)) (by simp)];simp[Atk,At3]
   rw[e,setAT,Gu];rfl
  ·have q2:o.gone=true:=by simpa using q2
   show Goes _ _ _ _;have hc:=Jj [(((y.attrs.map attrV).drop (Int.toNat 0)).take (((posK o.key y.attrs:Nat):Int).toNat-Int.toNat 0)),[],(((y.attrs.map attrV).drop ((posK o.key y.attrs:Nat):Int).toNat).take (((y.attrs.map attrV).length:Int).toNat- ((posK o.key y.attrs:Nat):Int).toNat))] (by simp;omega) (by simp);have hc:=Fx (args':=[.sl 1 ([(((y.attrs.map attrV).drop (Int.toNat 0)).take (((posK o.key y.attrs:Nat):Int).toNat-Int.toNat 0)),[],(((y.attrs.map attrV).drop ((posK o.key y.attrs:Nat):Int).toNat).take (((y.attrs.map attrV).length:Int).toNat- ((posK o.key y.attrs:Nat):Int).toNat))].map (V.sl 2))]) (args:=[.sl 1 [.sl 2 (((y.attrs.map attrV).drop (Int.toNat 0)).take (((posK o.key y.attrs:Nat):Int).toNat-Int.toNat 0)),.nilsl,.sl 2 (((y.attrs.map attrV).drop ((posK o.key y.attrs:Nat):Int).toNat).take (((y.attrs.map attrV).length:Int).toNat- ((posK o.key y.attrs:Nat):Int).toNat))]]) hc ⟨Wk.sl ⟨⟨⟨.refl _,trivial⟩,⟨rfl,rfl⟩⟩,⟨⟨Wk.nil 2,trivial⟩,⟨rfl,rfl⟩⟩,⟨⟨.refl _,trivial⟩,⟨rfl,rfl⟩⟩,trivial⟩,trivial⟩ rfl rfl;refine Ac [] 300 ⟨by decide,Aq5 _,hpl',hp0,hpl'',Arr _,?_⟩;refine⟨by kernel_rfl,⟨rfl,rfl,rfl,trivial⟩,rfl,rfl,rfl,_,hc,rfl,?_⟩;refine⟨by kernel_rfl,?_⟩;refine⟨trivial,rfl,rfl,[some (.box [.int .u64 y.id,.bool y.leaf,.str y.label,.sl 2 [(((y.attrs.map attrV).drop (Int.toNat 0)).take (((posK o.key y.attrs:Nat):Int).toNat-Int.toNat 0)),[],(((y.attrs.map attrV).drop ((posK o.key y.attrs:Nat):Int).toNat).take (((y.attrs.map attrV).length:Int).toNat- ((posK o.key y.attrs:Nat):Int).toNat))].flatten,.str y.text,.sl 6 y.subV])],rfl,rfl,Zq1,?_⟩;have e:[(((y.attrs.map attrV).drop (Int.toNat 0)).take (((posK o.key y.attrs:Nat):Int).toNat-Int.toNat 0)),[],(((y.attrs.map attrV).drop ((posK o.key y.attrs:Nat):Int).toNat).take (((y.attrs.map attrV).length:Int).toNat- ((posK o.key y.attrs:Nat):Int).toNat))].flatten=(setA o y.attrs).map attrV:=by
    unfold setA midA;rw[q1,q2];rw[Ars (l:=List.drop ((posK o.key y.attrs:Nat):Int).toNat (y.attrs.map attrV)) (by simp)];simp
   rw[e,setAT,Gu];rfl
theorem Ank (o:OpT)(y:Tree)(k0:Option (List UInt8))(hs:attrsOk k0 y.attrs=true)(hl:y.attrs.length≤900000):Fun Tryz.prog 126 [some (.box (nodeV y).cells)] [.ptr (.loc 0) 0,.iptr (opV o).cells 0] (λ_ T=>T=[some (.box (nodeV (setAT o y)).cells)]):=by
 refine Ay 100 Tryz.func126 rfl rfl rfl λimps B hi=> ?_;obtain⟨r,rfl⟩:=At2.1 hi;show CallThen _ _ _ _ _ _;refine Ag [0] (Ak8 o y k0 hs hl) rfl rfl Zq1 rfl rfl rfl ?_;rintro x T1 rfl;refine⟨rfl,?_⟩;exact⟨trivial,rfl,rfl,rfl⟩
theorem Ae5 (t y:Tree)(o:OpT)(ht:t.weight≤900000)(ho:o.Ok)(hk:o.kind=4)(hy:atT t o.path=some y)(hs:attrsOk none y.attrs=true):Pure Tryz.prog 87 [nodeV t,opV o] (λx=>x=nodeV (changeT (setAT o) t o.path)):=by
 have hp:=ho.lt.path;have hyw:=Ce hy;have hya:=Fe y;refine Ad 300 Tryz.func87 rfl rfl rfl λB=> ?_;refine⟨λg1=>absurd (hk.symm.trans (Aw g1)) (by decide),λg1=>go 300 ?_⟩;refine⟨λg1=>absurd (hk.symm.trans (Aw g1)) (by decide),λg1=>go 300 ?_⟩;refine⟨λg1=>absurd (hk.symm.trans (Aw g1)) (by decide),λg1=>go 300 ?_⟩;refine⟨λg1=>go 300 ?_,λg1=>absurd hk (Bg g1)⟩;show CallThen _ _ _ _ _ _;refine Dl 1 rfl rfl ?_;refine Aa (K2 126 (opV o).cells (setAT o) y (Ank o y none hs (by omega)) o.path t hp (by omega) hy) rfl ?_;rintro z rfl;exact⟨trivial,rfl,rfl,rfl,rfl⟩
theorem Anl (t:Tree)(o:OpT)(ht:t.weight≤900000)(ho:o.Ok)(h:ValidE t o=0):Pure Tryz.prog 87 [nodeV t,opV o] (λx=>x=nodeV (applyT t o)):=by
 obtain⟨hr,hf,_⟩:=An h;have hra:t.rightA=true:=by
  unfold rightT at hr;rw[Aq6] at hr;exact hr.2
 have hto:o.kind=3-> ∀x∈o.to,inI x:=λhk x hx=>by
  have:=El (Iq hf hk) x hx;constructor<;>omega
 cases Ju h with
 |ins y hk hy hl h0 h1 h2=>
  have e:applyT t o=changeT (insT o.at_ (freshT o)) t o.path:=by unfold applyT;rw[hk];rfl
  rw[e];exact K3 t o _ ht ho (λh=>absurd (hk.symm.trans h) (by decide)) (.ins y hk hy h0 h1)
 |del x hk hne hx=>
  have e:applyT t o=changeT (delT (lastP o.path)) t o.path.dropLast:=by unfold applyT;rw[hk];rfl
  rw[e];exact K3 t o _ ht ho (λh=>absurd (hk.symm.trans h) (by decide)) (.del x hk hne hx)
 |mov x z hk hne hx hw hz hl h0 h1=>
  have e:applyT t o=moveT x t o:=by unfold applyT;rw[hk,hx];rfl
  rw[e];exact K3 t o _ ht ho (λ_=>hto hk) (.mov x z hk hne hx hw hz h0 h1)
 |att y hk hy h1 h2=>
  have e:applyT t o=changeT (setAT o) t o.path:=by unfold applyT;rw[hk];rfl
  rw[e];exact Ae5 t y o ht ho hk hy (Fk (Dg hra hy))
 |lab y hk hy h2=>
  have e:applyT t o=changeT (relabelT o.label) t o.path:=by unfold applyT;rw[hk];rfl
  rw[e];exact K3 t o _ ht ho (λh=>absurd (hk.symm.trans h) (by decide)) (.lab y hk hy)
 |edt y hk hy hl he=>
  have e:applyT t o=changeT (retextT o.pieces) t o.path:=by unfold applyT;rw[hk];rfl
  rw[e];exact K3 t o _ ht ho (λh=>absurd (hk.symm.trans h) (by decide)) (.edt y hk hy)
theorem Yc (t:Tree)(o:OpT)(ht:t.weight≤1000000)(ho:o.Ok)(h:ValidE t o≠0):Pure Tryz.prog 58 [nodeV t,opV o] (λx=>x=ApplyV (zeroT [],ValidE t o)):=by
 refine Aj (Ad 300 Tryz.func58 rfl rfl rfl λB=> ?_);show CallThen _ _ _ _ _ _;refine Aa (Wx t o ht ho) rfl ?_;rintro x rfl;refine⟨λg1=>go 300 ?_,λg1=>absurd (Bk g1) h⟩;exact⟨trivial,rfl,rfl,rfl,ApplyV (zeroT [],ValidE t o),Wk.tup ⟨Ye (ss:=[]) (Wk.nil 6),.refl _,trivial⟩,rfl,rfl⟩
theorem Aa4 (t:Tree)(o:OpT)(ht:t.weight≤400000)(ho:o.Ok)(h:ValidE t o=0):Pure Tryz.prog 58 [nodeV t,opV o] (λx=>x=ApplyV (applyT t o,0)):=by
 obtain⟨hr,hf,_⟩:=An h;have hra:t.rightA=true:=by
  unfold rightT at hr;rw[Aq6] at hr;exact hr.2
 have hp:=ho.lt.path;have hpi:=El (Bc hf);refine Ad 300 Tryz.func58 rfl rfl rfl λB=> ?_;show CallThen _ _ _ _ _ _;refine Aa (Wx t o (by omega) ho) rfl ?_;rintro x rfl;refine⟨λg1=>absurd h (A7 g1),λg1=>go 300 ?_⟩;show CallThen _ _ _ _ _ _;refine Aa (Ly t o.path hp) rfl ?_;rintro _ rfl;cases Ju h with
 |ins y hk hy hl h0 h1 h2=>
  have e:applyT t o=changeT (insT o.at_ (freshT o)) t o.path:=by unfold applyT;rw[hk];rfl
  have hyw:=Ce hy;rw[hy];refine⟨λg1=>go 300 ?_,λg1=>absurd hk (Bg g1)⟩;show Goes _ _ _ _;have hput:=Fx (args:=[nodeV y,.int .i64 o.at_,.agg [.int .u64 o.id,.bool o.leaf,.str o.label,.nilsl,.str [],.nilsl]]) (Aae y (freshT o) o.at_ (by omega) h0 h1) ⟨.refl _,.refl _,Adw o,trivial⟩ rfl rfl;refine Ac [] 300 ⟨_,hput,rfl,_,Gt t (insT o.at_ (freshT o) y) y o.path hp (by omega) hy,rfl,?_⟩;refine⟨by kernel_rfl,?_⟩;refine⟨trivial,rfl,rfl,rfl,?_⟩;rw[Er (F:=insT o.at_ (freshT o)) hy,e];rfl
 |del x hk hne hx=>
  have e:applyT t o=withoutT t o.path:=by unfold applyT;rw[hk];rfl
  rw[hx];refine⟨λg1=>absurd (hk.symm.trans (Aw g1)) (by decide),λg1=>go 300 ?_⟩;refine⟨λg1=>go 300 ?_,λg1=>absurd hk (Bg g1)⟩;show CallThen _ _ _ _ _ _;refine Aa (Rj t x o.path hp hne (by omega) hx) rfl ?_;rintro z rfl;exact⟨trivial,rfl,rfl,rfl,by rw[e];rfl⟩
 |mov x z hk hne hx hw hz hl h0 h1=>
  have e:applyT t o=moveT x t o:=by unfold applyT;rw[hk,hx];rfl
  rw[hx];refine⟨λg1=>absurd (hk.symm.trans (Aw g1)) (by decide),λg1=>go 300 ?_⟩;refine⟨λg1=>absurd (hk.symm.trans (Aw g1)) (by decide),λg1=>go 300 ?_⟩;refine⟨λg1=>go 300 ?_,λg1=>absurd hk (Bg g1)⟩;show CallThen _ _ _ _ _ _;refine Aa (Ak7 t x z o ht ho (λi hi=>by have:=hpi i hi;constructor<;>omega) hne hx hw hz h0 h1) rfl ?_;rintro r rfl;exact⟨trivial,rfl,rfl,rfl,by rw[e];rfl⟩
 |att y hk hy h1 h2=>
  have e:applyT t o=changeT (setAT o) t o.path:=by unfold applyT;rw[hk];rfl
  have hyw:=Ce hy;have ea:y.withAttrs (refA o o.gone y.attrs)=setAT o y:=by rw[Mb o (Fk (Dg hra hy))];rfl
  rw[hy];refine⟨λg1=>absurd (hk.symm.trans (Aw g1)) (by decide),λg1=>go 300 ?_⟩;refine⟨λg1=>absurd (hk.symm.trans (Aw g1)) (by decide),λg1=>go 300 ?_⟩;refine⟨λg1=>absurd (hk.symm.trans (Aw g1)) (by decide),λg1=>go 300 ?_⟩;refine⟨λg1=>go 300 ?_,λg1=>absurd hk (Bg g1)⟩;show Goes _ _ _ _;have hat:=Ak6 y o (by omega);rw[ea] at hat;refine Ac [] 300 ⟨_,hat,rfl,_,Gt t (setAT o y) y o.path hp (by omega) hy,rfl,?_⟩;refine⟨by kernel_rfl,?_⟩;refine⟨trivial,rfl,rfl,rfl,?_⟩;rw[Er (F:=setAT o) hy,e];rfl
 |lab y hk hy h2=>
  have e:applyT t o=changeT (relabelT o.label) t o.path:=by unfold applyT;rw[hk];rfl
  rw[hy];refine⟨λg1=>absurd (hk.symm.trans (Aw g1)) (by decide),λg1=>go 300 ?_⟩;refine⟨λg1=>absurd (hk.symm.trans (Aw g1)) (by decide),λg1=>go 300 ?_⟩;refine⟨λg1=>absurd (hk.symm.trans (Aw g1)) (by decide),λg1=>go 300 ?_⟩;refine⟨λg1=>absurd (hk.symm.trans (Aw g1)) (by decide),λg1=>go 300 ?_⟩;refine⟨λg1=>go 300 ?_,λg1=>absurd hk (Bg g1)⟩;show CallThen _ _ _ _ _ _;cases y with
  |mk i lf b a c ss=>
  refine Aa (Gt t (relabelT o.label (.mk i lf b a c ss)) (.mk i lf b a c ss) o.path hp (by omega) hy) rfl ?_;rintro r rfl;refine⟨trivial,rfl,rfl,rfl,?_⟩;rw[Er (F:=relabelT o.label) hy,e];rfl
 |edt y hk hy hl he=>
  have e:applyT t o=changeT (retextT o.pieces) t o.path:=by unfold applyT;rw[hk];rfl
  have hyw:=Ce hy;have htw:=Ht y;rw[hy];refine⟨λg1=>absurd (hk.symm.trans (Aw g1)) (by decide),λg1=>go 300 ?_⟩;refine⟨λg1=>absurd (hk.symm.trans (Aw g1)) (by decide),λg1=>go 300 ?_⟩;refine⟨λg1=>absurd (hk.symm.trans (Aw g1)) (by decide),λg1=>go 300 ?_⟩;refine⟨λg1=>absurd (hk.symm.trans (Aw g1)) (by decide),λg1=>go 300 ?_⟩;refine⟨λg1=>absurd (hk.symm.trans (Aw g1)) (by decide),λg1=>go 300 ?_⟩;show CallThen _ _ _ _ _ _;refine Aa (Aad y.text o.pieces (by omega) ho.lt.pieces ho.each) rfl ?_;rintro r rfl;show CallThen _ _ _ _ _ _;cases y with
  |mk i lf b a c ss=>
  refine Aa (Gt t (retextT o.pieces (.mk i lf b a c ss)) (.mk i lf b a c ss) o.path hp (by omega) hy) rfl ?_;rintro r rfl;refine⟨trivial,rfl,rfl,rfl,?_⟩;rw[Er (F:=retextT o.pieces) hy,e];rfl
theorem Ah1 (t:Tree)(o:OpT)(ht:t.weight≤400000)(ho:o.Ok):Pure Tryz.prog 58 [nodeV t,opV o] (λx=>x=ApplyV (applyR t o)):=by
 by_cases h:ValidE t o=0
 ·have e:applyR t o=(applyT t o,0):=by unfold applyR;rw[decide_eq_true h];rfl
  rw[e];exact Aa4 t o ht ho h
 ·have e:applyR t o=(zeroT [],ValidE t o):=by unfold applyR;rw[decide_eq_false h];rfl
  rw[e];exact Yc t o (by omega) ho h
end Bow
namespace Bow
open Go
theorem Dn (t:Tree):rightN t=true↔t.label.length≤64∧(t.leaf=true->t.subs=[])∧(t.leaf=false->t.text=[])∧attrsOk none t.attrs=true:=by
 unfold rightN headOk;constructor
 ·intro h;rw[Aq6,Aq6,Aq6] at h;obtain⟨⟨h1,h2,h3⟩,h4⟩:=h;refine⟨by simp at h1;omega,λhl=> ?_,λhl=> ?_,h4⟩
  ·rw[hl] at h2;cases hs:t.subs with
   |nil=>rfl
   |cons a l=>rw[hs] at h2;simp at h2
  ·rw[hl] at h3;simpa using h3
 ·rintro⟨h1,h2,h3,h4⟩;rw[h4,decide_eq_false (by omega: ¬ (64:Int)<t.label.length)];cases hl:t.leaf with
  |false=>rw[h3 hl];simp
  |true=>rw[h2 hl];simp
theorem M9 (t:Tree)(ss:List Tree)(h:rightN t=true)(hl:t.leaf=true->ss=[]):rightN (t.withSubs ss)=true:=by
 obtain⟨h1,h2,h3,h4⟩:=(Dn t).1 h;refine(Dn _).2 ?_;obtain⟨i,lf,b,a,c,us⟩:=t;exact⟨h1,hl,h3,h4⟩
theorem Na {t:Tree}(h:rightN t=true)(hl:t.leaf=true):t.subs=[]:=((Dn t).1 h).2.1 hl
theorem Ga {t:Tree}(h:t.rightA=true):rightN t=true:=by
 rw[It,Aq6] at h;exact h.1
theorem Do {t:Tree}(h:t.rightA=true): ∀s∈t.subs,s.rightA=true:=by
 rw[It,Aq6,Ke] at h;exact Ati.1 h.2
theorem G3 {t:Tree}(h1:rightN t=true)(h2: ∀s∈t.subs,s.rightA=true):t.rightA=true:=by
 rw[It,h1,Ke,Asb];exact Ati.2 h2
theorem Dy {F:Tree->Tree}{y:Tree}: ∀ {p:List Int} {t:Tree},t.rightA=true->atT t p=some y->(F y).rightA=true->(changeT F t p).rightA=true
 | [],t,_,h,hF=>by
  rw[atT] at h;injection h with h
  subst h;exact hF
 |i::p,t,ht,h,hF=>by
  rw[atT] at h;cases hs:subT t i with
  |none=>rw[hs] at h;cases h
  |some s=>
   rw[hs] at h;obtain⟨h1,h2,h3⟩:=A1 hs;have ih:=Dy (F:=F) (p:=p) (Do ht s h3) h hF;rw[changeT,hs];simp only;refine G3 (M9 t _ (Ga ht) λhl=> ?_) λu hu=> ?_
   ·rw[Na (Ga ht) hl] at h3;cases h3
   ·rw[Ap] at hu
    rcases Atw hu with hu|rfl
    ·exact Do ht u hu
    ·exact ih
theorem Vi (n:Int){x y:Tree}(hy:y.rightA=true)(hl:y.leaf=false)(hx:x.rightA=true):(insT n x y).rightA=true:=by
 refine G3 (M9 y _ (Ga hy) λh=>by rw[hl] at h;cases h) λu hu=> ?_;unfold insT at hu;rw[Ap] at hu
 rcases Asi.1 hu with hu|hu
 ·exact Do hy u (As0 hu)
 ·rcases Arl.1 hu with rfl|hu
  ·exact hx
  ·exact Do hy u (Asp hu)
theorem Agx (n:Int){y:Tree}(hy:y.rightA=true):(delT n y).rightA=true:=by
 refine G3 (M9 y _ (Ga hy) λh=>by rw[Na (Ga hy) h];simp) λu hu=> ?_;unfold delT at hu;rw[Ap] at hu
 rcases Asi.1 hu with hu|hu
 ·exact Do hy u (As0 hu)
 ·exact Do hy u (Asp hu)
theorem Tv {k s:List UInt8}(h:Op.bytesLess k s=true):ordOk (some k) s=true:=by
 show(!leS s k)=true;unfold leS;rw[Agw h,decide_eq_false λe=>Xq h e.symm];rfl
theorem Aix {k0:Option (List UInt8)}{k s:List UInt8}(h1:ordOk k0 k=true)(h2:Op.bytesLess k s=true):ordOk k0 s=true:=by
 cases k0 with
 |none=>rfl
 |some q=>exact Tv (F9 (Ot h1) h2)
theorem Ks {k0:Option (List UInt8)}{a:List UInt8×List UInt8}(h1:keyOk a.1=true)(h2:a.2.length≤256)(h3:ordOk k0 a.1=true):attrOk k0 a=true:=by
 unfold attrOk;rw[h1,h3,decide_eq_true (by omega)];rfl
theorem Mc {k0:Option (List UInt8)}{a:List UInt8×List UInt8}(h:attrOk k0 a=true):keyOk a.1=true∧a.2.length≤256∧ordOk k0 a.1=true:=by
 unfold attrOk at h;simp only[Aq6,decide_eq_true_eq] at h;exact⟨h.1,by omega,h.2.2⟩
theorem Abr {k0:Option (List UInt8)}{k:List UInt8}(h:ordOk k0 k=true): ∀ {l:AttrL},attrsOk (some k) l=true->attrsOk k0 l=true
 | [],_=>rfl
 |a::l,hl=>by
  rw[attrsOk,Aq6] at hl ⊢;obtain⟨h1,h2,h3⟩:=Mc hl.1;exact⟨Ks h1 h2 (Aix h (Ot h3)),hl.2⟩
theorem G4 (o:OpT): ∀ {l:AttrL} {k0:Option (List UInt8)},attrsOk k0 l=true->attrsOk k0 (refA o true l)=true
 | [],_,_=>rfl
 |a::l,k0,h=>by
  have ih:=G4 o (Cw h);rw[attrsOk,Aq6] at h;obtain⟨h1,h2,h3⟩:=Mc h.1;rw[refA];simp only[Arm,Asy,cond_false,Ar9,Bool.true_or];cases decide (a.1=o.key) with
  |true=>exact Abr h3 ih
  |false=>
   show attrsOk k0 (a::refA o true l)=true;rw[attrsOk,h.1,ih];rfl
theorem K6 (o:OpT)(hk:keyOk o.key=true)(hv:o.value.length≤256): ∀ {l:AttrL} {k0:Option (List UInt8)},attrsOk k0 l=true->ordOk k0 o.key=true->attrsOk k0 (refA o false l)=true
 | [],k0,_,ho=>by
  show attrsOk k0 [(o.key,o.value)]=true;rw[attrsOk,Ks hk hv ho];rfl
 |a::l,k0,h,ho=>by
  have ht:=Cw h;rw[attrsOk,Aq6] at h;obtain⟨h1,h2,h3⟩:=Mc h.1;rw[refA];cases ha:Op.bytesLess a.1 o.key with
  |true=>
   rw[decide_eq_false (Xq ha)];show attrsOk k0 (a::refA o false l)=true;rw[attrsOk,h.1,K6 o hk hv ht (Tv ha)];rfl
  |false=>
   by_cases he:a.1=o.key
   ·rw[decide_eq_true he];show attrsOk k0 ((o.key,o.value)::refA o true l)=true;rw[attrsOk,Ks hk hv ho];show attrsOk (some o.key) (refA o true l)=true;rw[←he];exact G4 o ht
   ·rw[decide_eq_false he];show attrsOk k0 ((o.key,o.value)::a::refA o true l)=true;have hka:Op.bytesLess o.key a.1=true:=by
     cases hk':Op.bytesLess o.key a.1 with
     |true=>rfl
     |false=>exact absurd (Oq ha hk') he
    rw[attrsOk,Ks hk hv ho,attrsOk,Ks h1 h2 (Tv hka)];exact G4 o ht
theorem Ty {y:Tree}{a:AttrL}(hy:y.rightA=true)(ha:attrsOk none a=true):(y.withAttrs a).rightA=true:=by
 have h1:=Ga hy;have h2:=Do hy;obtain⟨q1,q2,q3,q4⟩:=(Dn y).1 h1;obtain⟨i,lf,b,a',c,us⟩:=y;exact G3 ((Dn _).2 ⟨q1,q2,q3,ha⟩) h2
theorem Abs {o:OpT}{y:Tree}(hy:y.rightA=true)(hk:keyOk o.key=true)(hv:o.gone=true∨o.value.length≤256):(setAT o y).rightA=true:=by
 unfold setAT;refine Ty hy ?_;rw[←Mb o (Fk hy)];cases hg:o.gone with
 |true=>exact G4 o (Fk hy)
 |false=>exact K6 o hk (hv.resolve_left (by rw[hg];simp)) (Fk hy) rfl
theorem Xs {s:List UInt8}{y:Tree}(hy:y.rightA=true)(hs:s.length≤64):(relabelT s y).rightA=true:=by
 have h1:=Ga hy;have h2:=Do hy;obtain⟨q1,q2,q3,q4⟩:=(Dn y).1 h1;obtain⟨i,lf,b,a',c,us⟩:=y;exact G3 ((Dn _).2 ⟨hs,q2,q3,q4⟩) h2
theorem Aay {l:List PieceT}{y:Tree}(hy:y.rightA=true)(hl:y.leaf=true):(retextT l y).rightA=true:=by
 have h1:=Ga hy;have h2:=Do hy;obtain⟨q1,q2,q3,q4⟩:=(Dn y).1 h1;obtain⟨i,lf,b,a',c,us⟩:=y;exact G3 ((Dn _).2 ⟨q1,q2,λh=>absurd (h.symm.trans hl) (by simp),q4⟩) h2
theorem Abt {o:OpT}(h:o.label.length≤64):(freshT o).rightA=true:=by
 exact G3 ((Dn _).2 ⟨h,λ_=>rfl,λ_=>rfl,rfl⟩) (λs hs=>by cases hs)
theorem Aoh {t x z:Tree}{fr to:List Int}{at_:Int}(hne:fr≠[])(hx:atT t fr=some x)(hw:within fr to=false)(hz:atT t to=some z)(h0:0≤at_)(h1:at_≤z.subs.length):
  ∃z',atT (withoutT t fr) (landT fr.dropLast (lastP fr) to at_).1=some z'∧0≤(landT fr.dropLast (lastP fr) to at_).2∧(landT fr.dropLast (lastP fr) to at_).2≤z'.subs.length∧z'.leaf=z.leaf∧z'.id=z.id:=by
 obtain⟨y,y1,y2,y3,y4⟩:=F6 hne hx;have hlast:=Dc hne;rw[hlast] at y2 y3 y4;have hw':within (fr.dropLast++ [lastP fr]) to=false:=by rw[←hlast,Atg];exact hw
 exact Uf y2 h0 fr.dropLast to t y z y1 y3 hw' hz h1
theorem Nw {t x:Tree}{fr:List Int}(hne:fr≠[])(hx:atT t fr=some x)(ht:t.rightA=true):(withoutT t fr).rightA=true:=by
 obtain⟨y,y1,y2,y3,y4⟩:=F6 hne hx;exact Dy ht y1 (Agx _ (Dg ht y1))
theorem Fm {F:Tree->Tree}(hF: ∀y,(F y).leaf=y.leaf): ∀(p:List Int) (t:Tree),(changeT F t p).leaf=t.leaf
 | [],t=>hF t
 |i::p,t=>by
  rw[changeT];cases subT t i with
  |none=>rfl
  |some s=>exact Ew _ _
theorem Ja {t:Tree}(h:rightT t=true):t.leaf=false∧t.rightA=true:=by
 unfold rightT at h;simpa using h
theorem Ds {t:Tree}{o:OpT}(h:ValidE t o=0):rightT (applyT t o)=true:=by
 obtain⟨hr,hf,_⟩:=An h;obtain⟨hl,hA⟩:=Ja hr;have hins: ∀n x,∀y,(insT n x y).leaf=y.leaf:=λn x y=>Ew _ _;have hdel: ∀n,∀y,(delT n y).leaf=y.leaf:=λn y=>Ew _ _;have key:(applyT t o).leaf=t.leaf∧(applyT t o).rightA=true:=by
  cases Ju h with
  |ins y hk hy hl h0 h1 h2=>
   have e:applyT t o=changeT (insT o.at_ (freshT o)) t o.path:=by unfold applyT;rw[hk];rfl
   rw[e];exact⟨Fm (hins _ _) _ _,Dy hA hy (Vi _ (Dg hA hy) hl (Abt h2))⟩
  |del x hk hne hx=>
   have e:applyT t o=withoutT t o.path:=by unfold applyT;rw[hk];rfl
   rw[e];exact⟨Fm (hdel _) _ _,Nw hne hx hA⟩
  |mov x z hk hne hx hw hz hl h0 h1=>
   have e:applyT t o=moveT x t o:=by unfold applyT;rw[hk,hx];rfl
   obtain⟨z',k1,k2,k3,k4,k5⟩:=Aoh hne hx hw hz h0 h1;rw[e,Abp];have hwA:=Nw hne hx hA;refine⟨(Fm (hins _ _) _ _).trans (Fm (hdel _) _ _),Dy hwA k1 (Vi _ (Dg hwA k1) (k4.trans hl) (Dg hA hx))⟩
  |att y hk hy h1 h2=>
   have e:applyT t o=changeT (setAT o) t o.path:=by unfold applyT;rw[hk];rfl
   rw[e];exact⟨Fm (λy=>by cases y;rfl) _ _,Dy hA hy (Abs (Dg hA hy) h1 h2)⟩
  |lab y hk hy h2=>
   have e:applyT t o=changeT (relabelT o.label) t o.path:=by unfold applyT;rw[hk];rfl
   rw[e];exact⟨Fm (λy=>by cases y;rfl) _ _,Dy hA hy (Xs (Dg hA hy) h2)⟩
  |edt y hk hy hl he=>
   have e:applyT t o=changeT (retextT o.pieces) t o.path:=by unfold applyT;rw[hk];rfl
   rw[e];exact⟨Fm (λy=>by cases y;rfl) _ _,Dy hA hy (Aay (Dg hA hy) hl)⟩
 unfold rightT;rw[key.1,key.2,hl];rfl
section
variable {m:List Int->Nat}
end
end Bow
namespace Bow
open Go Go.Proofs
theorem Wy {α:Type}{xs ys:List α}{i:Nat}(h1:i<xs.length)(h2:i<ys.length):(xs.drop i=ys.drop i)=(xs[i]=ys[i]∧xs.drop (i+1)=ys.drop (i+1)):=by
 rw[Aru h1,Aru h2,List.cons.injEq]
theorem Yd (xs ys:AttrL)(hl:xs.length≤1000000):Pure Tryz.prog 59 [.sl 2 (xs.map attrV),.sl 2 (ys.map attrV)] (λx=>x=.bool (decide (xs=ys))):=by
 refine Aj (Ad 300 Tryz.func59 rfl rfl rfl λB=> ?_);refine⟨λg1=>go 300 ?_,λg1=>go 300 ?_⟩
 ·have g1:=A7 g1;exact⟨trivial,rfl,rfl,rfl,Ar (decide_eq_false λe=>g1 (by rw[e]))⟩
 have g1:xs.length=ys.length:=by have:=Bk g1;simp at this;omega
 show Goes _ _ _ _;refine Ak (ι:=Nat) (λi=>i≤xs.length∧(xs.drop i=ys.drop i↔xs=ys)) (λi=>xs.length-i) (λi=>[(5,.int .i64 i),(0,.sl 2 (xs.map attrV)),(1,.sl 2 (ys.map attrV))]) (λ_=>[]) 0 300 (λ_=>rfl) (λ_=>rfl) ⟨⟨Aq4 _,by simp⟩,Zq3,trivial⟩ ?_;rintro i ⟨k1,k2⟩ next;refine⟨λhlt=>go 300 ?_,λhge=>go 300 ?_⟩
 ·have hi:i<xs.length:=by simpa using hlt
  have hi':i<ys.length:=by omega
  have hx:(xs.map attrV)[i]?=some (attrV xs[i]):=by simp[hi]
  have hy:(ys.map attrV)[i]?=some (attrV ys[i]):=by simp[hi']
  rw[Wy hi hi'] at k2;show Goes _ _ _ _;refine Ac [] 300 ⟨Aq5 i,_,hx,Aq5 i,_,hy,?_⟩;refine⟨by kernel_rfl,?_⟩;refine⟨by kernel_rfl,?_⟩;refine⟨λg2=>go 300 ?_,λg2=>go 300 ?_⟩
  ·refine⟨trivial,rfl,rfl,rfl,Ar (decide_eq_false λe=> ?_)⟩;have:=(k2.2 e).1;rw[this] at g2;simp at g2
  ·refine⟨by constructor<;>omega,?_⟩;have he:xs[i]=ys[i]:=by
    simp at g2;exact Prod.ext g2.1 g2.2
   exact next (i+1) _ _ ⟨⟨hi,by rw[←k2];exact⟨λh=>⟨he,h⟩,λh=>h.2⟩⟩,by omega,Zq3,trivial⟩
 ·have hi:i=xs.length:=by have:xs.length≤i:=(by simpa using hge);omega
  subst hi;refine⟨trivial,rfl,rfl,rfl,Cu (decide_eq_true (k2.1 ?_))⟩;rw[Aro (Ara _),Aro (by omega)]
theorem Ah2 (t:Tree): ∀u:Tree,t.weight≤1000000->Pure Tryz.prog 19 [nodeV t,nodeV u] (λx=>x=.bool (sameT true t u)):=by
 induction t using Tree.ind with
 |_ t ih=>
 intro u ht;have hsl:=Bv t;have hal:=Fe t;have hA:=Yd t.attrs u.attrs (by omega);have e:=Ac7 true t u;refine Aj (Ad 300 Tryz.func19 rfl rfl rfl λB=> ?_)
 repeat' first
  | (refine⟨λ_=>go 300 ?_,λ_=>go 300 ?_⟩)
  | (show CallThen _ _ _ _ _ _;refine Aa hA rfl ?_;rintro z rfl)
  | (refine⟨trivial,rfl,rfl,rfl,Ar ?_⟩)
  |fail
 case h.refine_2.refine_2.refine_2.refine_2.refine_2.refine_2 g1 g2 g3 g4 g5 g6=>
  have hlen:t.subs.length=u.subs.length:=by have:=Bk g6;rw[A6,A6] at this;omega
  have e':sameT true t u=sameTs true t.subs u.subs:=by
   rw[e];have g1:=Bk g1;simp at g2 g3 g4 g5;simp[g1,g2,g3,g4,g5]
  show Goes _ _ _ _;refine Ak (ι:=Nat) (λi=>i≤t.subs.length∧sameTs true (t.subs.drop i) (u.subs.drop i)=sameTs true t.subs u.subs) (λi=>t.subs.length-i) (λi=>[(5,.int .i64 i),(2,.ptr (.loc 0) 0),(3,.ptr (.loc 1) 0)]) (λ_=>[some (.box (nodeV t).cells),some (.box (nodeV u).cells)]) 0 300 (λ_=>rfl) (λ_=>rfl) ⟨⟨Aq4 _,rfl⟩,Zq3,Zq2⟩ ?_;rintro i ⟨k1,k2⟩ next;refine⟨λhlt=>go 300 ?_,λhge=>go 300 ?_⟩
  ·have hi:i<t.subs.length:=by simpa[A2] using hlt
   have hi':i<u.subs.length:=by omega
   have hx:t.subV[i]?=some (nodeV t.subs[i]):=by simp[A2,hi]
   have hy:u.subV[i]?=some (nodeV u.subs[i]):=by simp[A2,hi']
   have hws:=D5 (Arq hi);rw[Aj0 hi hi'] at k2;show Goes _ _ _ _;refine Ac [] 300 ⟨Aq5 i,_,hx,Aq5 i,_,hy,_,ih _ (Arq hi) u.subs[i] (by omega),rfl,?_⟩;refine⟨by kernel_rfl,?_⟩;refine⟨λg=>go 300 ?_,λg=>go 300 ?_⟩
   ·have g:sameT true t.subs[i] u.subs[i]=false:=by simpa using g
    exact⟨trivial,rfl,rfl,rfl,Ar (by rw[e',←k2,g];rfl)⟩
   ·have g:sameT true t.subs[i] u.subs[i]=true:=by simpa using g
    rw[g,Asb] at k2;refine⟨by constructor<;>omega,?_⟩;exact next (i+1) _ _ ⟨⟨hi,k2⟩,by omega,Zq3,Zq2⟩
  ·have hi:t.subs.length≤i:=by simpa[A2] using hge
   rw[Aro hi,Aro (by omega),sameTs] at k2;exact⟨trivial,rfl,rfl,rfl,Cu (by rw[e',←k2])⟩
 case h.refine_2.refine_2.refine_2.refine_2.refine_2.refine_1 g1 g2 g3 g4 g5 g6=>
  have g6:=A7 g6;rw[A6,A6] at g6;cases h:sameT true t u with
  |false=>rfl
  |true=>
   rw[e] at h;simp only[Aq6] at h;exact absurd (congrArg Nat.cast (Wi h.2.2.2.2.2)) g6
 all_goals (rw[e];simp_all)
end Bow
namespace Bow
open Go
def zeroT0:Tree:=.mk 0 false [] [] [] []
def allR:Tree->List OpT->Nat->Tree×Nat×Int
 |t,[],i=>(t,i,0)
 |t,o::l,i=>bif decide (ValidE t o=0) then allR (applyT t o) l (i+1) else(zeroT0,i,ValidE t o)
def AllR (t:Tree)(l:List OpT):Tree×Nat×Int:=bif rightT t then allR t l 0 else(zeroT0,0,2)
def costs:List OpT->Nat
 | []=>0
 |o::l=>costO o+costs l
theorem So:zeroT0.weight=1:=by
 have:=Bt zeroT0;simp[attrLen,weights,Tree.label,Tree.text,Tree.attrs,Tree.subs,zeroT0] at this;exact this
theorem Vj (t:Tree):1≤t.weight:=by rw[Bt];omega
theorem Sp: ∀(l:List OpT) (t:Tree) (i:Nat),(allR t l i).1.weight≤t.weight+costs l
 | [],t,i=>by rw[allR,costs];simp
 |o::l,t,i=>by
  rw[allR,costs]
  by_cases h:ValidE t o=0
  ·rw[decide_eq_true h];have:=Sp l (applyT t o) (i+1);have:=K5 h;simp only[cond_true];omega
  ·rw[decide_eq_false h];have:=So;have:=Vj t;simp only[cond_false];omega
theorem Gq (t:Tree)(l:List OpT):(AllR t l).1.weight≤t.weight+costs l:=by
 unfold AllR;cases rightT t with
 |true=>exact Sp l t 0
 |false=>
  have:=So;have:=Vj t;simp only[cond_false];omega
theorem Xt {t:Tree}(h:rightT t=true)(o:OpT):ValidE t o=bif !formedB o then 80 else validE t o:=by
 unfold ValidE;rw[h];rfl
theorem Abu {n k:Nat}: ∀ {l:List OpT},l.length≤k->(∀o∈l,costO o≤n)->costs l≤k*n
 | [],_,_=>Aq4 _
 |o::l,hk,h=>by
  obtain⟨k',rfl⟩: ∃k',k=k'+1:=⟨k-1,by simp at hk;omega⟩;have:=Abu (n:=n) (k:=k') (l:=l) (by simpa using hk) λo' ho=>h o' (Are _ ho);have:=h o Ari;rw[costs,Nat.succ_mul];omega
end Bow
