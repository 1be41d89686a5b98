/- The library, part 6: W61, W62, W63, SP24, W64, W119, W120, SP25, SP26, SP30, W65, W66, W68, W69, W121, W76, W77, W78, SP28, W67, SP27, SP31, W70, W71, W72, W79, SP32, W73, SP33, W80, SP58, SP59, SP60, SP61, SP40, SP41, SP42, SP43, SP44, SP45, SP46. -/
import Derived.Test.YtbffliejmnokpaaGreatMe
import Derived.Test.YtbffliejmnokpaaGreatMc
import Derived.Test.YtbffliejmnokpaaGreatMd
set_option maxRecDepth 100000
set_option maxHeartbeats 4000000
namespace Bow
open Go Go.Proofs
def isB (x:V):Prop:= ∃b:Bool,x=.bool b
theorem Apo (l:List PieceT)(top:Nat)(hl:l.length≤1000000)(ht:top≤1000000):Pure Tryz.prog 48 [piecesV l,.int .i64 top] isB:=by
 have ff: ∃y,Wk .ff y∧y.pureB=true∧isB y:=⟨.bool false,Wk.ff,rfl,false,rfl⟩;have tt: ∃y,Wk .tt y∧y.pureB=true∧isB y:=⟨.bool true,Wk.tt,rfl,true,rfl⟩;refine Aj (Ad 300 Tryz.func48 rfl rfl rfl λB=> ?_);refine⟨λg1=>go 300 ?_,λg1=>go 300 ?_⟩
 ·exact⟨trivial,rfl,rfl,rfl,ff⟩
 show Goes _ _ _ _;refine Ak (ι:=Nat×Int) (λi=>i.1≤l.length∧0≤i.2∧i.2≤top) (λi=>l.length-i.1) (λi=>[(6,.int .i64 i.1),(5,.int .i64 i.2),(0,piecesV l),(1,.int .i64 top)]) (λ_=>[]) (0,0) 300 (λ_=>rfl) (λ_=>rfl) ⟨⟨Aq4 _,Arr _,Aq5 _⟩,Zq4,trivial⟩ ?_;rintro⟨i,n⟩ ⟨k1,k2,k3⟩ next;simp only at k1 k2 k3;refine⟨λhlt=>go 300 ?_,λhge=>go 300 ?_⟩
 ·have hi:i<l.length:=by simpa using hlt
  have hx:(l.map pieceV)[i]?=some (pieceV l[i]):=by simp[hi]
  show Goes _ _ _ _;refine Ac [] 300 ⟨Aq5 i,_,hx,Aq5 i,_,hx,?_⟩;refine⟨by kernel_rfl,?_⟩;refine⟨λg1=>go 300 ?_,λg1=>go 300 ?_⟩<;>refine⟨λg2=>go 300 ?_,λg2=>go 300 ?_⟩
  all_goals
   simp only[decide_eq_true_eq,decide_eq_false_iff_not] at g1 g2;refine⟨by constructor<;>omega,?_⟩;refine⟨λg3=>go 300 ?_,λg3=>go 300 ?_⟩
   ·exact⟨trivial,rfl,rfl,rfl,ff⟩
   simp only[decide_eq_false_iff_not] at g3;refine⟨by constructor<;>omega,by constructor<;>omega,?_⟩;refine⟨λg4=>go 300 ?_,λg4=>go 300 ?_⟩
   ·exact⟨trivial,rfl,rfl,rfl,ff⟩
   simp only[decide_eq_false_iff_not] at g4;refine⟨Aq5 i,_,hx,by constructor<;>omega,by constructor<;>omega,by constructor<;>omega,?_⟩;refine⟨λg5=>go 300 ?_,λg5=>go 300 ?_⟩
   ·exact⟨trivial,rfl,rfl,rfl,ff⟩
   simp only[decide_eq_false_iff_not] at g5;refine⟨by constructor<;>omega,by constructor<;>omega,Aq5 i,_,hx,by constructor<;>omega,by constructor<;>omega,?_⟩;show Goes _ _ _ _;refine next (i+1,_) _ _ ⟨⟨hi,?_,?_⟩,by simp only;omega,Zq4,trivial⟩
   ·simp only;omega
   ·simp only;omega
 ·exact⟨trivial,rfl,rfl,rfl,tt⟩
theorem Ah9 {l:List PieceT}(h:rightP l=true):putsLen l≤1048576:=by
 unfold rightP at h;rw[Aq6] at h;have:=(Pb h.2).2
 rcases this with rfl|this
 ·exact Aq4 _
 ·omega
theorem Anr (n:Nat)(h:n≤10000000):Fun Tryz.prog 187 [] [.nilsl,.int .i64 n] (λx T=> ∃g,x=.osl (.loc 0) g 0 0∧T=[some (.vec g 11 [])]):=by
 refine Ay 100 Tryz.func187 rfl rfl rfl λimps B hi=> ?_;have:imps=[]:=Ard.1 hi;subst this;refine⟨λg1=>go 100 ?_,λg1=>go 100 ?_⟩
 ·have:=Au g1;omega
 show Goes _ _ _ _;refine Ip 100 rfl rfl rfl rfl rfl ?_;refine⟨by constructor<;>omega,by constructor<;>omega,?_⟩;refine⟨λg2=>go 100 ?_,λg2=> ?_⟩
 ·have g2:=Au g2;show Goes _ _ _ _;refine Ip 100 rfl rfl rfl rfl rfl ?_;show Goes _ _ _ _;refine M4 100 rfl rfl rfl rfl rfl rfl rfl ?_;show Goes _ _ _ _;refine M5 100 n rfl rfl rfl rfl (congrArg (V.int .i64) (by omega)) (by omega) rfl rfl rfl rfl rfl (Ark (Arg _ h) (by decide)) ?_;show Goes _ _ _ _;refine L6 (h:=0) 100 rfl rfl rfl rfl rfl rfl rfl rfl (Aq4 _) ?_;exact⟨trivial,rfl,rfl,2,rfl,rfl⟩
 ·refine Dx 0 11 rfl ?_;refine go 100 ?_;exact⟨trivial,rfl,rfl,0,rfl,rfl⟩
theorem Aia (ls:List (List V))(h:ls.flatten.length≤1000000)(hl:ls.length≤1000000):Pure Tryz.prog 153 [.sl 1 (ls.map (V.sl 11))] (λx=>x=.sl 11 ls.flatten):=by
 refine Ad 100 Tryz.func153 rfl rfl rfl λB=> ?_;show Goes _ _ _ _;refine Ak (ι:=Nat) (λi=>i≤ls.length) (λi=>ls.length-i) (λi=>[(3,.int .i64 (ls.take i).flatten.length),(11,.int .i64 i),(10,.int .i64 (ls.map (V.sl 11)).length),(9,.sl 1 (ls.map (V.sl 11))),(0,.sl 1 (ls.map (V.sl 11)))]) (λ_=>[]) 0 100 (λ_=>rfl) (λ_=>rfl) ⟨Aq4 _,?_,trivial⟩ ?_
 ·exact Zq5
 intro i k1 next;have hb1:=Bo ls i;refine⟨λhlt=>go 100 ?_,λhge=>go 100 ?_⟩
 ·have hi:i<ls.length:=by simpa using hlt
  have hx:(ls.map (V.sl 11))[i]?=some (.sl 11 ls[i]):=by simp[hi]
  have hb2:=Bo ls (i+1);have hs:=Dd hi;have hsl:(ls.take (i+1)).flatten.length=(ls.take i).flatten.length+ls[i].length:=by rw[hs,Arb]
  refine⟨Aq5 i,_,hx,?_⟩;refine⟨by constructor<;>omega,?_⟩;refine⟨λg1=>go 100 ?_,λg1=>go 100 ?_⟩
  ·have:=Au g1;omega
  refine⟨by constructor<;>omega,?_⟩;refine next (i+1) _ _ ⟨by omega,by omega,?_,trivial⟩;exact⟨⟨by simp only[lk];exact congrArg (V.int .i64) (by omega),rfl⟩,⟨rfl,rfl⟩,⟨rfl,rfl⟩,⟨rfl,rfl⟩,⟨rfl,rfl⟩,trivial⟩
 ·have hi:i=ls.length:=by have:ls.length≤i:=(by simpa using hge);omega
  subst hi;rw[Asj];show CallThen _ _ _ _ _ _;refine Ag [] (Anr ls.flatten.length (by omega)) rfl rfl trivial rfl rfl rfl ?_;rintro x T1 ⟨g,rfl,rfl⟩;refine⟨rfl,?_⟩;show Goes _ _ _ _;refine Ak (ι:=Nat×Nat) (λi=>i.1≤ls.length) (λi=>ls.length-i.1) (λi=>[(6,.osl (.loc 0) i.2 0 (ls.take i.1).flatten.length),(27,.int .i64 i.1),(26,.int .i64 (ls.map (V.sl 11)).length),(25,.sl 1 (ls.map (V.sl 11)))]) (λi=>[some (.vec i.2 11 (ls.take i.1).flatten)]) (0,g) 100 (λ_=>rfl) (λ_=>rfl) ⟨Aq4 _,?_,?_⟩ ?_
  ·exact Zq4
  ·exact Zq1
  rintro⟨i,g⟩ k1 next;have hb1:=Bo ls i;simp only at k1 hb1;refine⟨λhlt=>go 100 ?_,λhge=>go 100 ?_⟩
  ·have hi:i<ls.length:=by simpa using hlt
   have hx:(ls.map (V.sl 11))[i]?=some (.sl 11 ls[i]):=by simp[hi]
   have hb2:=Bo ls (i+1);have hs:=Dd hi;have hsl:(ls.take (i+1)).flatten.length=(ls.take i).flatten.length+ls[i].length:=by rw[hs,Arb]
   refine⟨Aq5 i,_,hx,?_⟩;simp only;refine⟨rfl,rfl,Ark (Arg _ (show _≤1000000 by omega)) (by decide),?_⟩;refine⟨by constructor<;>omega,?_⟩;refine next (i+1,bump g) _ _ ⟨by simp only;omega,by simp only;omega,?_,?_⟩
   ·exact⟨⟨by simp only[lk];exact congrArg (V.osl _ _ _) hsl.symm,rfl⟩,⟨rfl,rfl⟩,⟨rfl,rfl⟩,⟨rfl,rfl⟩,trivial⟩
   ·exact⟨⟨by rw[hs],rfl⟩,trivial⟩
  ·have hi:i=ls.length:=by have:ls.length≤i:=(by simpa using hge);omega
   subst hi;exact⟨trivial,rfl,rfl,rfl,rfl,rfl,by simp only[Asj]⟩
theorem App (l:List OpT):Pure Tryz.prog 186 [opsV l] (λx=>x=.bool (decide (4096<l.length))):=by
 refine Aj (Ad 300 Tryz.func186 rfl rfl rfl λB=> ?_);refine⟨trivial,rfl,rfl,rfl,B8 ?_⟩;simp only[Arf];exact decide_eq_decide.2 ⟨λh=>by omega,λh=>by omega⟩
def findL (f:List OpT->Bool):Nat->List (List OpT)->Int
 |_,[]=> -1
 |i,x::xs=>bif f x then i else findL f (i+1) xs
theorem Aak (f:List OpT->Bool): ∀(xs:List (List OpT)) (i:Nat),decide (0≤findL f i xs)=xs.any f
 | [],i=>by simp[findL]
 |x::xs,i=>by
  rw[findL,Awf];cases h:f x with
  |true=>simp
  |false=>simpa using Aak f xs (i+1)
def listsV (l:List (List OpT)):V:=.sl 1 (l.map opsV)
theorem Ae7 (xs:List (List OpT))(hl:xs.length≤1000000):
  Pure Tryz.prog 200 [listsV xs,.fn (.func 186) [] []] (λx=>x=.int .i64 (findL (λl=>decide (4096<l.length)) 0 xs)):=by
 refine Ad 100 Tryz.func200 rfl rfl rfl λB=> ?_;show Goes _ _ _ _;refine Ak (ι:=Nat) (λi=>i≤xs.length∧findL (λl=>decide (4096<l.length)) i (xs.drop i)=findL (λl=>decide (4096<l.length)) 0 xs) (λi=>xs.length-i) (λi=>[(8,.int .i64 i),(7,.int .i64 (xs.map opsV).length),(1,.fn (.func 186) [] []),(0,listsV xs)]) (λ_=>[]) 0 200 (λ_=>rfl) (λ_=>rfl) ⟨⟨Aq4 _,rfl⟩,?_,?_⟩ ?_
 ·exact Zq4
 ·trivial
 ·rintro i ⟨h1,h2⟩ next;refine⟨λhlt=>go 200 ?_,λhge=>go 200 ?_⟩
  ·have hi:i<xs.length:=by simpa using hlt
   have hx:(xs.map opsV)[i]?=some (opsV xs[i]):=by simp[hi]
   rw[Bi hi,findL] at h2;refine⟨Aq5 i,_,hx,?_⟩;show CallThen _ _ _ _ _ _;refine Aa (App xs[i]) rfl ?_;rintro x rfl;refine⟨λh=>go 200 ?_,λh=>go 200 ?_⟩
   ·rw[h] at h2;exact⟨trivial,rfl,rfl,rfl,by rw[←h2];rfl⟩
   ·rw[h] at h2;refine⟨by constructor<;>omega,?_⟩;show Goes _ _ _ _;exact next (i+1) _ _ ⟨⟨hi,h2⟩,by omega,Zq4,trivial⟩
  ·have hi:xs.length≤i:=by simpa using hge
   rw[Aro hi] at h2;exact⟨trivial,rfl,rfl,rfl,by rw[←h2];rfl⟩
theorem Aqn (xs:List (List OpT))(hl:xs.length≤1000000):Pure Tryz.prog 152 [listsV xs] (λx=>x=.bool (xs.any λl=>decide (4096<l.length))):=by
 have hc:Pure Tryz.prog 185 [listsV xs,.fn (.func 186) [] []] (λx=>x=.bool (xs.any λl=>decide (4096<l.length))):=by
  refine Ad 100 Tryz.func185 rfl rfl rfl λB=> ?_;show CallThen _ _ _ _ _ _;refine Aa (Ae7 xs hl) rfl ?_;rintro x rfl;exact⟨trivial,rfl,rfl,rfl,by rw[←Aak _ xs 0];rfl⟩
 refine Ad 100 Tryz.func152 rfl rfl rfl λB=> ?_;show CallThen _ _ _ _ _ _;refine Aa hc rfl ?_;rintro x rfl;exact⟨trivial,rfl,rfl,rfl,rfl⟩
theorem Yg (l:List OpT)(hl:l.length≤1000000)(hok: ∀o∈l,o.Lt 1000000):Pure Tryz.prog 99 [opsV l] (λx=>x=opsV (bareL l)):=by
 refine Aj (Ad 300 Tryz.func99 rfl rfl rfl λB=> ?_);show Goes _ _ _ _;refine Dx 3 11 rfl ?_;refine Ak (ι:=Nat×Nat) (λi=>i.1≤l.length) (λi=>l.length-i.1) (λi=>[(8,.int .i64 i.1),(7,.int .i64 (l.map opV).length),(6,opsV l),(3,.osl (.loc 0) i.2 0 i.1)]) (λi=>[some (.vec i.2 11 ((bareL (l.take i.1)).map opV))]) (0,0) 300 (λ_=>rfl) (λ_=>rfl) ⟨Aq4 _,Zq4,Zq1⟩ ?_;rintro⟨i,g⟩ k1 next;simp only at k1;have hbl:(bareL (l.take i)).length=i:=by simp[bareL];omega
 refine⟨λhlt=>go 300 ?_,λhge=>go 300 ?_⟩
 ·have hi:i<l.length:=by simpa using hlt
  have hx:(l.map opV)[i]?=some (opV l[i]):=by simp[hi]
  refine⟨Aq5 i,_,hx,?_⟩;show CallThen _ _ _ _ _ _;refine Aa (Hb l[i] (hok _ (Arq hi))) rfl ?_;rintro x rfl;refine⟨⟨rfl,trivial⟩,rfl,rfl,rfl,(by rw[Arf];exact hbl.symm),Ark (Arg _ (show _≤1000001 by rw[Arf,hbl];simp only[Aq8,Arc];omega)) (by decide),?_⟩;refine⟨by constructor<;>omega,?_⟩;show Goes _ _ _ _;have e:(bareL (l.take (i+1))).map opV=(bareL (l.take i)).map opV++ [opV (bareO l[i])]:=by
   rw[Ask hi];simp only[bareL,Asr,Asa,Ate]
  refine next (i+1,bump g) _ _ ⟨hi,by simp only;omega,⟨⟨rfl,rfl⟩,⟨rfl,rfl⟩,⟨rfl,rfl⟩,⟨?_,rfl⟩,trivial⟩,⟨⟨?_,rfl⟩,trivial⟩⟩
  ·simp only[lk];exact congrArg (V.osl _ _ _) (by rw[Arf,hbl];rfl)
  ·exact congrArg (λz=>some (HObj.vec (bump g) 11 z)) e.symm
 ·have hi:i=l.length:=by have:l.length≤i:=(by simpa using hge);omega
  subst hi;refine⟨trivial,rfl,rfl,rfl,by simp[bareL],rfl,opsV (bareL l),?_,rfl,rfl⟩;show Wk (.sl 11 ((bareL (l.take l.length)).map opV)) _;rw[Asj];exact .refl _
end Bow
namespace Bow
open Go
def muchP (xs ys:List OpT):Bool:=decide (4096<xs.length)||decide (4096<ys.length)
def bringS (prior:Bool)(f:List OpT->List OpT->Option (List OpT×List OpT×Int))(xs ys:List OpT):Option (List OpT×List OpT×Int):=
 bif muchP xs ys then some ([],[],3)
 else match xs,ys with
  | [],ys=>some ([],ys,0)
  |a::xs,[]=>some (a::xs,[],0)
  |a::a'::xs,b::ys=>match f [a] (b::ys) with
   |none=>none
   |some (x,y,e)=>bif !decide (e=0) then some ([],[],e) else match f (a'::xs) y with
    |none=>none
    |some (z,w,e)=>bif !decide (e=0) then some ([],[],e) else bif muchP (x++z) w then some ([],[],3) else some (x++z,w,0)
  | [a],b::b'::ys=>match f [a] [b] with
   |none=>none
   |some (x,y,e)=>bif !decide (e=0) then some ([],[],e) else match f x (b'::ys) with
    |none=>none
    |some (z,w,e)=>bif !decide (e=0) then some ([],[],e) else bif muchP z (y++w) then some ([],[],3) else some (z,y++w,0)
  | [a],[b]=>some (bothX a b prior)
def bringF (prior:Bool):Nat->List OpT->List OpT->Option (List OpT×List OpT×Int)
 |0=>λ_ _=>none
 |n+1=>bringS prior (bringF prior n)
theorem A0 (prior:Bool)(n:Nat)(xs ys:List OpT):bringF prior (n+1) xs ys=bringS prior (bringF prior n) xs ys:=rfl
def mv1 (o:OpT):Nat:=bif decide (o.kind=3) then 1 else 0
def mvs (l:List OpT):Nat:=(l.map mv1).sum
theorem B9:mvs []=0:=rfl
theorem A3 (o:OpT)(l:List OpT):mvs (o::l)=mv1 o+mvs l:=by simp[mvs]
theorem Li (a b:List OpT):mvs (a++b)=mvs a+mvs b:=by simp[mvs]
theorem Aiz (o:OpT):mv1 o≤1:=by unfold mv1;cases decide (o.kind=3)<;>simp
theorem Dt (o:OpT):(bareO o).kind=o.kind:=by
 unfold bareO;cases h1:o.kind==1 with
 |true=>exact(eq_of_beq h1).symm
 |false=>cases h2:o.kind==2 with
  |true=>exact(eq_of_beq h2).symm
  |false=>cases h3:o.kind==3 with
   |true=>exact(eq_of_beq h3).symm
   |false=>cases h4:o.kind==4 with
    |true=>exact(eq_of_beq h4).symm
    |false=>cases h5:o.kind==5 with
     |true=>exact(eq_of_beq h5).symm
     |false=>cases h6:o.kind==6 with
      |true=>exact(eq_of_beq h6).symm
      |false=>rfl
theorem Abx (o:OpT):mv1 (bareO o)=mv1 o:=by unfold mv1;rw[Dt]
theorem Aby (l:List OpT):mvs (l.map bareO)=mvs l:=by
 induction l with
 |nil=>rfl
 |cons o l ih=>rw[Asa,A3,A3,ih,Abx]
theorem Apw {o o':OpT}(h:o.kind=o'.kind):mv1 o=mv1 o':=by unfold mv1;rw[h]
theorem Abz (b a:OpT)(p:Bool):(shiftedO b a p).kind=b.kind:=by
 unfold shiftedO;cases decide (b.kind=1)<;>cases decide (b.kind=3)<;>rfl
theorem Ab0 (p:List Int):mv1 (dropO p)=0:=rfl
theorem Nx {b a:OpT}{p:Bool}(h:(rowO b a p).length=2):rowO a b (!p)=[]∧((a.kind=3∧b.kind=2∧mvs (rowO b a p)=0)∨(a.kind=3∧b.kind=3∧p=true∧mvs (rowO b a p)≤2)):=by
 unfold rowO at h ⊢;cases h1:decide (a.kind=2) with
 |true=>
  rw[h1] at h;cases h2:within a.path b.path with
  |true=>rw[h2] at h;cases h
  |false=>
   rw[h2] at h;cases h3:decide (b.kind=3)&&within a.path b.to<;>(rw[h3] at h;cases h)
 |false=>
  rw[h1] at h;cases h2:wonO b a with
  |true=>rw[h2] at h;cases p<;>cases h
  |false=>
   rw[h2] at h;have k1:a.kind≠2:=of_decide_eq_false h1;cases h3:decide (a.kind=3) with
   |false=>rw[h3] at h;cases h
   |true=>
    rw[h3] at h;have k3:a.kind=3:=of_decide_eq_true h3;cases h4:decide (b.kind=2) with
    |true=>
     rw[h4] at h;have k4:b.kind=2:=of_decide_eq_true h4;cases h5:within b.path a.path&& (!decide (b.path=a.path)&& !within b.path a.to) with
     |false=>rw[h5] at h;cases h
     |true=>
      rw[Aq6] at h5;refine⟨?_,.inl ⟨k3,k4,?_⟩⟩
      ·rw[h5.1];rfl
      ·simp[A3,B9,Ab0]
    |false=>
     rw[h4] at h;cases h5:decide (b.kind=3)&& (within b.path a.to&&within a.path b.to) with
     |false=>rw[h5] at h;cases h
     |true=>
      rw[h5] at h;have h5':=h5;simp only[Aq6,decide_eq_true_eq] at h5;obtain⟨k5,w1,w2⟩:=h5;cases p with
      |false=>cases h
      |true=>
       have hwon:wonO a b=false:=by
        unfold wonO at h2 ⊢;simp only[k3,k5] at h2 ⊢;have:decide (b.path=a.path)=decide (a.path=b.path):=decide_eq_decide.2 ⟨λh=>h.symm,λh=>h.symm⟩;simpa[this] using h2
       refine⟨?_,.inr ⟨k3,k5,rfl,?_⟩⟩
       ·rw[hwon];simp[k5,w1,w2]
       ·have:=Aiz (undoO a);have:=Aiz b;simp[A3,B9];omega
theorem Afn {b a:OpT}{p:Bool}(h:(rowO b a p).length≠2):mvs (rowO b a p)≤mv1 b:=by
 have e0:mvs []≤mv1 b:=Aq4 _;have e1:mvs [shiftedO b a p]≤mv1 b:=Avg (by simp[A3,B9,Apw (Abz b a p)]);have e2: ∀q,mvs [dropO q]≤mv1 b:=λq=>by simp[A3,B9,Ab0]
 unfold rowO at h ⊢;cases h1:decide (a.kind=2) with
 |true=>
  cases h2:within a.path b.path with
  |true=>exact e0
  |false=>cases h3:decide (b.kind=3)&&within a.path b.to with
   |true=>exact e2 _
   |false=>exact e1
 |false=>
  rw[h1] at h;cases h2:wonO b a with
  |true=>cases p with
   |true=>exact e1
   |false=>exact e0
  |false=>
   rw[h2] at h;cases h3:decide (a.kind=3) with
   |false=>exact e1
   |true=>
    rw[h3] at h;cases h4:decide (b.kind=2) with
    |true=>
     rw[h4] at h;cases h5:within b.path a.path&& (!decide (b.path=a.path)&& !within b.path a.to) with
     |false=>exact e1
     |true=>rw[h5] at h;exact absurd rfl h
    |false=>
     rw[h4] at h;cases h5:decide (b.kind=3)&& (within b.path a.to&&within a.path b.to) with
     |false=>exact e1
     |true=>
      rw[h5] at h;cases p with
      |true=>exact absurd rfl h
      |false=>exact e0
structure Inv (prior:Bool)(xs ys x y:List OpT):Prop where
 s:x.length+y.length≤xs.length+ys.length
 m:mvs x+mvs y≤mvs xs+mvs ys
 t:x.length+y.length=xs.length+ys.length->mvs x+mvs y=mvs xs+mvs ys->(bif prior then y.length else x.length)≤(bif prior then ys.length else xs.length)
theorem Kc {b a:OpT}{p:Bool}{l:List OpT}(hs:soundO a=true∧soundO b=true)(he:bothEdit b a=false)(h:behindX b a p=(l,0)):l=(rowO b a p).map bareO:=by
 unfold behindX at h;rw[he] at h;unfold behindO at h;rw[hs.1,hs.2] at h;simp only[Arm,Auc,cond_false] at h;cases hf:(rowO b a p).all formedB with
 |true=>rw[hf] at h;exact(Prod.mk.inj h).1.symm
 |false=>rw[hf] at h;simp at h
theorem Ow {b a:OpT}{p:Bool}{l:List OpT}(h:behindX b a p=(l,0)):soundO a=true∧soundO b=true:=by
 unfold behindX at h;cases he:bothEdit b a with
 |true=>
  rw[he] at h;unfold behindE at h;cases ha:soundO a<;>cases hb:soundO b<;>simp_all
 |false=>
  rw[he] at h;unfold behindO at h;cases ha:soundO a<;>cases hb:soundO b<;>simp_all
theorem T6 {a b:OpT}{prior:Bool}{x y:List OpT}(h:bothX a b prior=(x,y,0)):behindX a b prior=(x,0)∧behindX b a (!prior)=(y,0):=by
 unfold bothX at h
 by_cases h1:(behindX a b prior).2=0
 ·by_cases h2:(behindX b a (!prior)).2=0
  ·rw[decide_eq_true h1,decide_eq_true h2] at h;injection h with e1 e2
   injection e2 with e2 _
   exact⟨Prod.ext e1 h1,Prod.ext e2 h2⟩
  ·rw[decide_eq_true h1,decide_eq_false h2] at h;injection h with _ e2
   injection e2 with _ e2
   exact absurd e2 h2
 ·rw[decide_eq_false h1] at h;injection h with _ e2
  injection e2 with _ e2
  exact absurd e2 h1
theorem Ry {b a:OpT}{p:Bool}{l:List OpT}(he:bothEdit b a=true)(h:behindX b a p=(l,0)):l.length=1∧mvs l=0:=by
 unfold behindX at h;rw[he] at h;unfold behindE at h;have hk:b.kind=6:=by
  unfold bothEdit at he;simp only[Aq6,decide_eq_true_eq] at he;exact he.2.1
 cases ha: !soundO a|| !soundO b with
 |true=>rw[ha] at h;simp at h
 |false=>
  rw[ha] at h;cases hc:decide ((transP b.pieces a.pieces p).2.2=0)&&formedB (editO b a p) with
  |false=>rw[hc] at h;simp at h
  |true=>
   rw[hc] at h;have:=(Prod.mk.inj h).1;subst this;refine⟨rfl,?_⟩;have:mv1 (bareO (editO b a p))=0:=by
    rw[Abx];unfold mv1;have:(editO b a p).kind=6:=hk;simp[this]
   simp[A3,B9,this]
theorem Al7 {a b:OpT}{prior:Bool}{x y:List OpT}(h:bothX a b prior=(x,y,0)):Inv prior [a] [b] x y:=by
 obtain⟨h1,h2⟩:=T6 h;have hs:=Ow h1;cases he:bothEdit a b with
 |true=>
  obtain⟨q1,q2⟩:=Ry he h1;obtain⟨q3,q4⟩:=Ry (by rw[Et];exact he) h2;exact⟨by simp[q1,q3],by omega,λ_ _=>by cases prior<;>simp[q1,q3]⟩
 |false=>
  have ex:=Kc hs he h1;have ey:=Kc ⟨hs.2,hs.1⟩ (by rw[Et];exact he) h2;have lx:x.length=(rowO a b prior).length:=by rw[ex];simp
  have ly:y.length=(rowO b a (!prior)).length:=by rw[ey];simp
  have mx:mvs x=mvs (rowO a b prior):=by rw[ex,Aby]
  have my:mvs y=mvs (rowO b a (!prior)):=by rw[ey,Aby]
  have ba:=Nz a b prior;have bb:=Nz b a (!prior)
  by_cases c1:(rowO a b prior).length=2
  ·obtain⟨r0,rk⟩:=Nx c1;rw[r0] at ly my
   rcases rk with⟨k1,k2,k3⟩| ⟨k1,k2,k3,k4⟩
   ·have:mv1 b=1:=by unfold mv1;simp[k1]
    refine⟨by simp only[Aq8,Arc] at ly ⊢;omega,by simp only[A3,B9] at my ⊢;omega,λ_ hm=> ?_⟩;simp only[A3,B9] at my hm;omega
   ·have q1:mv1 b=1:=by unfold mv1;simp[k1]
    have q2:mv1 a=1:=by unfold mv1;simp[k2]
    refine⟨by simp only[Aq8,Arc] at ly ⊢;omega,by simp only[A3,B9] at my ⊢;omega,λ_ _=> ?_⟩;rw[k3];simp only[cond_true,Arc] at ly ⊢;omega
  ·have m1:=Afn c1
   by_cases c2:(rowO b a (!prior)).length=2
   ·obtain⟨r0,rk⟩:=Nx c2;rw[Att] at r0;rw[r0] at lx mx
    rcases rk with⟨k1,k2,k3⟩| ⟨k1,k2,k3,k4⟩
    ·have:mv1 a=1:=by unfold mv1;simp[k1]
     refine⟨by simp only[Aq8,Arc] at lx ⊢;omega,by simp only[A3,B9] at mx ⊢;omega,λ_ hm=> ?_⟩;simp only[A3,B9] at mx hm;omega
    ·have q1:mv1 a=1:=by unfold mv1;simp[k1]
     have q2:mv1 b=1:=by unfold mv1;simp[k2]
     have hp:prior=false:=by simpa using k3
     refine⟨by simp only[Aq8,Arc] at lx ⊢;omega,by simp only[A3,B9] at mx ⊢;omega,λ_ _=> ?_⟩;rw[hp];simp only[cond_false,Arc] at lx ⊢;omega
   ·have m2:=Afn c2;refine⟨by simp only[Aq8,Arc];omega,by simp only[A3,B9];omega,λ_ _=> ?_⟩;cases prior<;>simp only[cond_true,cond_false,Aq8,Arc]<;>omega
theorem Ck (prior:Bool): ∀(n:Nat) (xs ys x y:List OpT),bringF prior n xs ys=some (x,y,0)->Inv prior xs ys x y
 |0,_,_,_,_,h=>by cases h
 |n+1,xs,ys,x,y,h=>by
  rw[A0] at h;unfold bringS at h;cases hm:muchP xs ys with
  |true=>rw[hm] at h;simp at h
  |false=>
   rw[hm,cond_false] at h
   match xs,ys,h with
   | [],ys,h=>
    simp only[Option.some.injEq,Prod.mk.injEq] at h;obtain⟨rfl,rfl,_⟩:=h;exact⟨Ara _,Ara _,λ_ _=>Ara _⟩
   |a::xs,[],h=>
    simp only[Option.some.injEq,Prod.mk.injEq] at h;obtain⟨rfl,rfl,_⟩:=h;exact⟨Ara _,Ara _,λ_ _=>Ara _⟩
   | [a],[b],h=>
    simp only[Option.some.injEq] at h;exact Al7 h
   |a::a'::xs,b::ys,h=>
    simp only at h;cases h1:bringF prior n [a] (b::ys) with
    |none=>rw[h1] at h;cases h
    |some r=>
     obtain⟨x1,y1,e1⟩:=r;rw[h1] at h;simp only at h
     by_cases he:e1=0
     ·subst he;simp only[decide_true,Arm,cond_false] at h;cases h2:bringF prior n (a'::xs) y1 with
      |none=>rw[h2] at h;cases h
      |some r=>
       obtain⟨z,w,e2⟩:=r;rw[h2] at h;simp only at h
       by_cases he:e2=0
       ·subst he;simp only[decide_true,Arm,cond_false] at h;cases hmm:muchP (x1++z) w with
        |true=>rw[hmm] at h;simp at h
        |false=>
         rw[hmm] at h;simp only[cond_false,Option.some.injEq,Prod.mk.injEq,and_true] at h;obtain⟨rfl,rfl⟩:=h;have i1:=Ck prior n _ _ _ _ h1;have i2:=Ck prior n _ _ _ _ h2;have s1:=i1.s;have s2:=i2.s;have m1:=i1.m;have m2:=i2.m;simp only[A3,B9,Aq8,Arc] at s1 s2 m1 m2;refine⟨by simp only[Arb,Aq8];omega,by simp only[Li,A3];omega,λq1 q2=> ?_⟩;simp only[Arb,Aq8,Li,A3] at q1 q2;have t1:=i1.t (by simp only[Aq8,Arc];omega) (by simp only[A3,B9];omega);have t2:=i2.t (by simp only[Aq8];omega) (by simp only[A3];omega);cases prior<;>simp only[cond_true,cond_false,Aq8,Arc,Arb] at t1 t2 ⊢ <;>omega
       ·simp[he] at h
     ·simp[he] at h
   | [a],b::b'::ys,h=>
    simp only at h;cases h1:bringF prior n [a] [b] with
    |none=>rw[h1] at h;cases h
    |some r=>
     obtain⟨x1,y1,e1⟩:=r;rw[h1] at h;simp only at h
     by_cases he:e1=0
     ·subst he;simp only[decide_true,Arm,cond_false] at h;cases h2:bringF prior n x1 (b'::ys) with
      |none=>rw[h2] at h;cases h
      |some r=>
       obtain⟨z,w,e2⟩:=r;rw[h2] at h;simp only at h
       by_cases he:e2=0
       ·subst he;simp only[decide_true,Arm,cond_false] at h;cases hmm:muchP z (y1++w) with
        |true=>rw[hmm] at h;simp at h
        |false=>
         rw[hmm] at h;simp only[cond_false,Option.some.injEq,Prod.mk.injEq,and_true] at h;obtain⟨rfl,rfl⟩:=h;have i1:=Ck prior n _ _ _ _ h1;have i2:=Ck prior n _ _ _ _ h2;have s1:=i1.s;have s2:=i2.s;have m1:=i1.m;have m2:=i2.m;simp only[A3,B9,Aq8,Arc] at s1 s2 m1 m2;refine⟨by simp only[Arb,Aq8,Arc];omega,by simp only[Li,A3,B9];omega,λq1 q2=> ?_⟩;simp only[Arb,Aq8,Arc,Li,A3,B9] at q1 q2;have t1:=i1.t (by simp only[Aq8,Arc];omega) (by simp only[A3,B9];omega);have t2:=i2.t (by simp only[Aq8];omega) (by simp only[A3];omega);cases prior<;>simp only[cond_true,cond_false,Aq8,Arc,Arb] at t1 t2 ⊢ <;>omega
       ·simp[he] at h
     ·simp[he] at h
theorem Vm {prior:Bool}: ∀ {n:Nat} {xs ys x y:List OpT} {e:Int},bringF prior n xs ys=some (x,y,e)->e≠0->x=[]∧y=[]
 |0,_,_,_,_,_,h,_=>by cases h
 |n+1,xs,ys,x,y,e,h,he=>by
  rw[A0] at h;unfold bringS at h;cases hm:muchP xs ys with
  |true=>rw[hm] at h;simp at h;exact⟨h.1,h.2.1⟩
  |false=>
   rw[hm,cond_false] at h
   match xs,ys,h with
   | [],ys,h=>simp at h;exact absurd h.2.2.symm he
   |a::xs,[],h=>simp at h;exact absurd h.2.2.symm he
   | [a],[b],h=>
    simp only[Option.some.injEq] at h;unfold bothX at h;cases h1:decide ((behindX a b prior).2=0) with
    |false=>rw[h1] at h;simp at h;exact⟨h.1,h.2.1⟩
    |true=>cases h2:decide ((behindX b a (!prior)).2=0) with
     |false=>rw[h1,h2] at h;simp at h;exact⟨h.1,h.2.1⟩
     |true=>rw[h1,h2] at h;simp at h;exact absurd h.2.2.symm he
   |a::a'::xs,b::ys,h=>
    simp only at h;cases h1:bringF prior n [a] (b::ys) with
    |none=>rw[h1] at h;cases h
    |some r=>
     obtain⟨x1,y1,e1⟩:=r;rw[h1] at h;simp only at h;cases h3: !decide (e1=0) with
     |true=>rw[h3] at h;simp at h;exact⟨h.1,h.2.1⟩
     |false=>
      rw[h3,cond_false] at h;cases h2:bringF prior n (a'::xs) y1 with
      |none=>rw[h2] at h;cases h
      |some r=>
       obtain⟨z,w,e2⟩:=r;rw[h2] at h;simp only at h;cases h4: !decide (e2=0) with
       |true=>rw[h4] at h;simp at h;exact⟨h.1,h.2.1⟩
       |false=>
        rw[h4,cond_false] at h;cases hmm:muchP (x1++z) w with
        |true=>rw[hmm] at h;simp at h;exact⟨h.1,h.2.1⟩
        |false=>rw[hmm] at h;simp at h;exact absurd h.2.2.symm he
   | [a],b::b'::ys,h=>
    simp only at h;cases h1:bringF prior n [a] [b] with
    |none=>rw[h1] at h;cases h
    |some r=>
     obtain⟨x1,y1,e1⟩:=r;rw[h1] at h;simp only at h;cases h3: !decide (e1=0) with
     |true=>rw[h3] at h;simp at h;exact⟨h.1,h.2.1⟩
     |false=>
      rw[h3,cond_false] at h;cases h2:bringF prior n x1 (b'::ys) with
      |none=>rw[h2] at h;cases h
      |some r=>
       obtain⟨z,w,e2⟩:=r;rw[h2] at h;simp only at h;cases h4: !decide (e2=0) with
       |true=>rw[h4] at h;simp at h;exact⟨h.1,h.2.1⟩
       |false=>
        rw[h4,cond_false] at h;cases hmm:muchP z (y1++w) with
        |true=>rw[hmm] at h;simp at h;exact⟨h.1,h.2.1⟩
        |false=>rw[hmm] at h;simp at h;exact absurd h.2.2.symm he
theorem H4 (prior:Bool): ∀(n:Nat) (xs ys:List OpT) (r),bringF prior n xs ys=some r->bringF prior (n+1) xs ys=some r
 |0,_,_,_,h=>by cases h
 |n+1,xs,ys,r,h=>by
  rw[A0] at h ⊢;unfold bringS at h ⊢;cases hm:muchP xs ys with
  |true=>rw[hm] at h;exact h
  |false=>
   rw[hm,cond_false] at h;rw[cond_false]
   match xs,ys,h with
   | [],ys,h=>exact h
   |a::xs,[],h=>exact h
   | [a],[b],h=>exact h
   |a::a'::xs,b::ys,h=>
    simp only at h ⊢;cases h1:bringF prior n [a] (b::ys) with
    |none=>rw[h1] at h;cases h
    |some r1=>
     rw[h1] at h;rw[H4 prior n _ _ _ h1];obtain⟨x1,y1,e1⟩:=r1;simp only at h ⊢;cases he: !decide (e1=0) with
     |true=>rw[he] at h;exact h
     |false=>
      rw[he,cond_false] at h;rw[cond_false];cases h2:bringF prior n (a'::xs) y1 with
      |none=>rw[h2] at h;cases h
      |some r2=>rw[h2] at h;rw[H4 prior n _ _ _ h2];exact h
   | [a],b::b'::ys,h=>
    simp only at h ⊢;cases h1:bringF prior n [a] [b] with
    |none=>rw[h1] at h;cases h
    |some r1=>
     rw[h1] at h;rw[H4 prior n _ _ _ h1];obtain⟨x1,y1,e1⟩:=r1;simp only at h ⊢;cases he: !decide (e1=0) with
     |true=>rw[he] at h;exact h
     |false=>
      rw[he,cond_false] at h;rw[cond_false];cases h2:bringF prior n x1 (b'::ys) with
      |none=>rw[h2] at h;cases h
      |some r2=>rw[h2] at h;rw[H4 prior n _ _ _ h2];exact h
theorem Eb {prior:Bool}{n m:Nat}{xs ys:List OpT}{r}(h:bringF prior n xs ys=some r)(hn:n≤m):bringF prior m xs ys=some r:=by
 induction hn with
 |refl=>exact h
 |step _ ih=>exact H4 prior _ _ _ _ ih
theorem Agy {prior:Bool}{n m:Nat}{xs ys:List OpT}{r r'}(h:bringF prior n xs ys=some r)(h':bringF prior m xs ys=some r'):r=r':=by
 have h1:=Eb h (Au3 n m);rw[Eb h' (Auv n m)] at h1;injection h1 with h1
 exact h1.symm
theorem Ab1 (prior:Bool): ∀(s m t:Nat) (xs ys:List OpT),xs.length+ys.length=s->mvs xs+mvs ys=m->(bif prior then ys.length else xs.length)=t-> ∃n r,bringF prior n xs ys=some r:=by
 intro s
 induction s using Nat.strongRecOn with
 |_ s ihs=>
 intro m
 induction m using Nat.strongRecOn with
 |_ m ihm=>
 intro t
 induction t using Nat.strongRecOn with
 |_ t iht=>
 intro xs ys hs hm ht;have hrec: ∀(x y:List OpT),(x.length+y.length<s∨(x.length+y.length=s∧(mvs x+mvs y<m∨(mvs x+mvs y=m∧(bif prior then y.length else x.length)<t))))-> ∃n r,bringF prior n x y=some r:=by
  intro x y h
  rcases h with h| ⟨h1,h| ⟨h2,h3⟩⟩
  ·exact ihs _ h _ _ x y rfl rfl rfl
  ·exact ihm _ h _ x y h1 rfl rfl
  ·exact iht _ h3 x y h1 h2 rfl
 match xs,ys,hs,hm,ht with
 | [],ys,_,_,_=>exact⟨1,by rw[A0];unfold bringS;cases muchP [] ys<;>exact⟨_,rfl⟩⟩
 |a::xs,[],_,_,_=>exact⟨1,by rw[A0];unfold bringS;cases muchP (a::xs) []<;>exact⟨_,rfl⟩⟩
 | [a],[b],_,_,_=>exact⟨1,by rw[A0];unfold bringS;cases muchP [a] [b]<;>exact⟨_,rfl⟩⟩
 |a::a'::xs,b::ys,hs,hm,ht=>
  simp only[Aq8,A3] at hs hm ht;obtain⟨n1,⟨x1,y1,e1⟩,h1⟩:=hrec [a] (b::ys) (.inl (by simp only[Aq8,Arc];omega))
  by_cases he:e1=0
  ·subst he;have i1:=Ck prior n1 _ _ _ _ h1;have s1:=i1.s;have m1:=i1.m;have t1:=i1.t;simp only[A3,B9,Aq8,Arc] at s1 m1 t1;obtain⟨n2,⟨z,w,e2⟩,h2⟩:=hrec (a'::xs) y1 (by
    simp only[Aq8,A3]
    by_cases c1:xs.length+1+y1.length<s
    ·exact .inl c1
    ·refine .inr ⟨by omega,?_⟩
     by_cases c2:mv1 a'+mvs xs+mvs y1<m
     ·exact .inl c2
     ·refine .inr ⟨by omega,?_⟩;have:=t1 (by omega) (by omega);cases prior<;>simp only[cond_true,cond_false] at this ht ⊢ <;>omega)
   refine⟨max n1 n2+1,?_⟩;rw[A0];unfold bringS;cases muchP (a::a'::xs) (b::ys) with
   |true=>exact⟨_,rfl⟩
   |false=>
    rw[cond_false];simp only;rw[Eb h1 (Au3 _ _)];simp only[decide_true,Arm,cond_false];rw[Eb h2 (Auv _ _)];simp only;cases !decide (e2=0)<;>cases muchP (x1++z) w<;>exact⟨_,rfl⟩
  ·refine⟨n1+1,?_⟩;rw[A0];unfold bringS;cases muchP (a::a'::xs) (b::ys) with
   |true=>exact⟨_,rfl⟩
   |false=>
    rw[cond_false];simp only;rw[h1];simp only[decide_eq_false he,Ash,cond_true];exact⟨_,rfl⟩
 | [a],b::b'::ys,hs,hm,ht=>
  simp only[Aq8,Arc,A3,B9] at hs hm ht;obtain⟨n1,⟨x1,y1,e1⟩,h1⟩:=hrec [a] [b] (.inl (by simp only[Aq8,Arc];omega))
  by_cases he:e1=0
  ·subst he;have i1:=Ck prior n1 _ _ _ _ h1;have s1:=i1.s;have m1:=i1.m;have t1:=i1.t;simp only[A3,B9,Aq8,Arc] at s1 m1 t1;obtain⟨n2,⟨z,w,e2⟩,h2⟩:=hrec x1 (b'::ys) (by
    simp only[Aq8,A3]
    by_cases c1:x1.length+ (ys.length+1)<s
    ·exact .inl c1
    ·refine .inr ⟨by omega,?_⟩
     by_cases c2:mvs x1+ (mv1 b'+mvs ys)<m
     ·exact .inl c2
     ·refine .inr ⟨by omega,?_⟩;have:=t1 (by omega) (by omega);cases prior<;>simp only[cond_true,cond_false] at this ht ⊢ <;>omega)
   refine⟨max n1 n2+1,?_⟩;rw[A0];unfold bringS;cases muchP [a] (b::b'::ys) with
   |true=>exact⟨_,rfl⟩
   |false=>
    rw[cond_false];simp only;rw[Eb h1 (Au3 _ _)];simp only[decide_true,Arm,cond_false];rw[Eb h2 (Auv _ _)];simp only;cases !decide (e2=0)<;>cases muchP z (y1++w)<;>exact⟨_,rfl⟩
  ·refine⟨n1+1,?_⟩;rw[A0];unfold bringS;cases muchP [a] (b::b'::ys) with
   |true=>exact⟨_,rfl⟩
   |false=>
    rw[cond_false];simp only;rw[h1];simp only[decide_eq_false he,Ash,cond_true];exact⟨_,rfl⟩
theorem Vn (prior:Bool)(xs ys:List OpT): ∃n r,bringF prior n xs ys=some r:=Ab1 prior _ _ _ xs ys rfl rfl rfl
end Bow
namespace Bow
open Go Go.Proofs
def OkL (l:List OpT):Prop:= ∀o∈l,o.Ok∧o.to.length≤1000
theorem N6 {o:OpT}(h:formedB o=true):(bareO o).Ok∧(bareO o).to.length≤1000:=by
 have hp:=Ey (Bc h);have nil: ∀k:Int,(noOp k).Ok:=λk=>⟨⟨Aq4 _,Aq4 _,Aq4 _,Aq4 _,Aq4 _,Aq4 _⟩,Aq4 _⟩;unfold bareO;cases k1:o.kind==1 with
 |true=>
  have hk:o.kind=1:=eq_of_beq k1;have hl:o.label.length≤64:=by
   unfold formedB at h;rw[hk] at h;simp only[Aq6] at h;have:=h.2;simp at this;omega
  exact⟨⟨⟨by show o.path.length≤_;omega,Aq4 _,by show o.label.length≤_;omega,Aq4 _,Aq4 _,Aq4 _⟩,Aq4 _⟩,Aq4 _⟩
 |false=>cases k2:o.kind==2 with
  |true=>exact⟨⟨⟨by show o.path.length≤_;omega,Aq4 _,Aq4 _,Aq4 _,Aq4 _,Aq4 _⟩,Aq4 _⟩,Aq4 _⟩
  |false=>cases k3:o.kind==3 with
   |true=>
    have ht:=Ey (Iq h (eq_of_beq k3));exact⟨⟨⟨by show o.path.length≤_;omega,by show o.to.length≤_;omega,Aq4 _,Aq4 _,Aq4 _,Aq4 _⟩,Aq4 _⟩,by show o.to.length≤_;omega⟩
   |false=>cases k4:o.kind==4 with
    |true=>
     have hk:o.kind=4:=eq_of_beq k4;have hl:o.key.length≤64∧(o.gone=true∨o.value.length≤256):=by
      unfold formedB at h;rw[hk] at h;simp[keyOk] at h;exact⟨h.2.1.2,h.2.2.imp id (λh=>by omega)⟩
     refine⟨⟨⟨by show o.path.length≤_;omega,Aq4 _,Aq4 _,by show o.key.length≤_;omega,?_,Aq4 _⟩,Aq4 _⟩,Aq4 _⟩;show(bif o.gone then [] else o.value:List UInt8).length≤_
     rcases hl.2 with hg|hg
     ·rw[hg];exact Aq4 _
     ·cases o.gone with
      |true=>exact Aq4 _
      |false=>show o.value.length≤_;omega
    |false=>cases k5:o.kind==5 with
     |true=>
      have hk:o.kind=5:=eq_of_beq k5;have hl:o.label.length≤64:=by
       unfold formedB at h;rw[hk] at h;simp at h;omega
      exact⟨⟨⟨by show o.path.length≤_;omega,Aq4 _,by show o.label.length≤_;omega,Aq4 _,Aq4 _,Aq4 _⟩,Aq4 _⟩,Aq4 _⟩
     |false=>cases k6:o.kind==6 with
      |true=>
       have hr:=K8 h (eq_of_beq k6);have h1:=Ah9 hr;have h2:=(Jc hr).1;exact⟨⟨⟨by show o.path.length≤_;omega,Aq4 _,Aq4 _,Aq4 _,Aq4 _,by show o.pieces.length≤_;omega⟩,h1⟩,Aq4 _⟩
      |false=>exact⟨nil _,Aq4 _⟩
theorem Ad6 (b a:OpT)(p:Bool):OkL (behindX b a p).1:=by
 unfold behindX;cases bothEdit b a with
 |false=>
  simp only[cond_false];unfold behindO;cases !soundO a|| !soundO b with
  |true=>intro o ho;simp at ho
  |false=>
   cases hf:(rowO b a p).all formedB with
   |false=>intro o ho;simp at ho
   |true=>
    intro o ho;simp only[cond_true,cond_false] at ho;obtain⟨o',h1,rfl⟩:=Ato.1 ho;exact N6 (Ati.1 hf o' h1)
 |true=>
  simp only[cond_true];unfold behindE;cases !soundO a|| !soundO b with
  |true=>intro o ho;simp at ho
  |false=>
   cases hf:decide ((transP b.pieces a.pieces p).2.2=0)&&formedB (editO b a p) with
   |false=>intro o ho;simp at ho
   |true=>
    intro o ho;simp only[cond_true,cond_false,Ar5] at ho;subst ho;exact N6 (Bool.and_eq_true_iff.1 hf).2
theorem Bn:OkL []:=λo ho=>by cases ho
theorem OkL.app {x y:List OpT}(hx:OkL x)(hy:OkL y):OkL (x++y):=λo ho=>by
 rcases Asi.1 ho with h|h
 ·exact hx o h
 ·exact hy o h
theorem Alh (a b:OpT)(p:Bool):OkL (bothX a b p).1∧OkL (bothX a b p).2.1:=by
 unfold bothX;cases decide ((behindX a b p).2=0) with
 |false=>exact⟨Bn,Bn⟩
 |true=>
  cases decide ((behindX b a (!p)).2=0) with
  |false=>exact⟨Bn,Bn⟩
  |true=>exact⟨Ad6 _ _ _,Ad6 _ _ _⟩
theorem OkL.tail {a:OpT}{x:List OpT}(h:OkL (a::x)):OkL x:=λo ho=>h o (Are _ ho)
theorem OkL.head {a:OpT}{x:List OpT}(h:OkL (a::x)):OkL [a]:=λo ho=>by rw[Ar5] at ho;exact ho▸h a Ari
theorem Gg (prior:Bool): ∀(n:Nat) (xs ys:List OpT) (r),bringF prior n xs ys=some r->OkL xs->OkL ys->OkL r.1∧OkL r.2.1
 |0,_,_,_,h,_,_=>by cases h
 |n+1,xs,ys,r,h,ox,oy=>by
  rw[A0] at h;unfold bringS at h;cases hm:muchP xs ys with
  |true=>rw[hm] at h;simp at h;subst h;exact⟨Bn,Bn⟩
  |false=>
   rw[hm,cond_false] at h
   match xs,ys,h,ox,oy with
   | [],ys,h,_,oy=>simp at h;subst h;exact⟨Bn,oy⟩
   |a::xs,[],h,ox,_=>simp at h;subst h;exact⟨ox,Bn⟩
   | [a],[b],h,_,_=>simp at h;subst h;exact Alh _ _ _
   |a::a'::xs,b::ys,h,ox,oy=>
    simp only at h;cases h1:bringF prior n [a] (b::ys) with
    |none=>rw[h1] at h;cases h
    |some r1=>
     rw[h1] at h;obtain⟨x1,y1,e1⟩:=r1;obtain⟨o1,o2⟩:=Gg prior n _ _ _ h1 ox.head oy;simp only at h;cases he: !decide (e1=0) with
     |true=>rw[he] at h;simp at h;subst h;exact⟨Bn,Bn⟩
     |false=>
      rw[he,cond_false] at h;cases h2:bringF prior n (a'::xs) y1 with
      |none=>rw[h2] at h;cases h
      |some r2=>
       rw[h2] at h;obtain⟨z,w,e2⟩:=r2;obtain⟨o3,o4⟩:=Gg prior n _ _ _ h2 ox.tail o2;simp only at h;cases he: !decide (e2=0) with
       |true=>rw[he] at h;simp at h;subst h;exact⟨Bn,Bn⟩
       |false=>
        rw[he,cond_false] at h;cases hmm:muchP (x1++z) w with
        |true=>rw[hmm] at h;simp at h;subst h;exact⟨Bn,Bn⟩
        |false=>rw[hmm] at h;simp at h;subst h;exact⟨o1.app o3,o4⟩
   | [a],b::b'::ys,h,ox,oy=>
    simp only at h;cases h1:bringF prior n [a] [b] with
    |none=>rw[h1] at h;cases h
    |some r1=>
     rw[h1] at h;obtain⟨x1,y1,e1⟩:=r1;obtain⟨o1,o2⟩:=Gg prior n _ _ _ h1 ox oy.head;simp only at h;cases he: !decide (e1=0) with
     |true=>rw[he] at h;simp at h;subst h;exact⟨Bn,Bn⟩
     |false=>
      rw[he,cond_false] at h;cases h2:bringF prior n x1 (b'::ys) with
      |none=>rw[h2] at h;cases h
      |some r2=>
       rw[h2] at h;obtain⟨z,w,e2⟩:=r2;obtain⟨o3,o4⟩:=Gg prior n _ _ _ h2 o1 oy.tail;simp only at h;cases he: !decide (e2=0) with
       |true=>rw[he] at h;simp at h;subst h;exact⟨Bn,Bn⟩
       |false=>
        rw[he,cond_false] at h;cases hmm:muchP z (y1++w) with
        |true=>rw[hmm] at h;simp at h;subst h;exact⟨Bn,Bn⟩
        |false=>rw[hmm] at h;simp at h;subst h;exact⟨o3,o2.app o4⟩
theorem Aal (x z:List OpT)(h:x.length+z.length≤1000000):Pure Tryz.prog 153 [listsV [x,z]] (λv=>v=opsV (x++z)):=
 (Aia [x.map opV,z.map opV] (by simp;omega) (by simp)).mono λv hv=>by rw[hv];simp[opsV]
theorem Yh (x z:List OpT):Pure Tryz.prog 152 [listsV [x,z]] (λv=>v=.bool (muchP x z)):=
 (Aqn [x,z] (by simp)).mono λv hv=>by rw[hv];simp[muchP]
theorem bothZ' {e:Int}{R:List OpT×List OpT×Int}(h:R=([],[],e)): ∃y,Wk (.tup [.nilsl,.nilsl,.int .i64 e]) y∧y.pureB=true∧y=BothV R:=⟨BothV ([],[],e),Wk.tup ⟨Wk.nil 11,Wk.nil 11,.refl _,trivial⟩,rfl,by rw[h]⟩
theorem Lo {o:OpT}(h:o.Ok): ∀p∈o.pieces,p.put.length≤1000000000:=λp hp=>by
 have h1:=Aj6 p hp;have h2:=h.puts;omega
theorem Akc:Pure Tryz.prog 147 [pathV []] (λx=>x=.tup [pathV [],intV 0,.ff]):=by
 refine Aj (Ad 60 Tryz.func147 rfl rfl rfl λB=> ?_);refine⟨λ_=>go 60 ?_,λg1=>absurd rfl (Bg g1)⟩;exact⟨trivial,rfl,rfl,rfl,.tup [pathV [],intV 0,.ff],Wk.tup ⟨Wk.nil 1,.refl _,.refl _,trivial⟩,rfl,rfl⟩
theorem Akd (o:OpT)(ho:o.Ok):Pure Tryz.prog 109 [opV o] (λx=>x=.bool (idleO o)):=by
 have hpl:=Lo ho;have cf:=Ha o ho.lt hpl;have cn:=Aqa o.pieces ho.lt.pieces hpl;obtain⟨R,hR⟩: ∃R,idleO o=R:=⟨_,rfl⟩;rw[hR];unfold idleO at hR;obtain⟨fb,hfb⟩: ∃fb,formedB o=fb:=⟨_,rfl⟩;rw[hfb] at cf;refine Aj (Ad 60 Tryz.func109 rfl rfl rfl λB=> ?_);show CallThen _ _ _ _ _ _;refine Aa cf rfl ?_;rintro x rfl;refine⟨λg1=>go 60 ?_,λg1=>go 60 ?_⟩
 ·have g1:fb=false:=by simpa using g1
  exact⟨trivial,rfl,rfl,rfl,Ar (by rw[←hR,hfb,g1];rfl)⟩
 have g1:fb=true:=by simpa using g1
 rw[hfb,g1] at hR;have hfo:formedB o=true:=hfb.trans g1;refine⟨λg2=>go 60 ?_,λg2=>go 60 ?_⟩
 ·rw[g2] at hR;show CallThen _ _ _ _ _ _;refine Aa cn rfl ?_;rintro x rfl;exact⟨trivial,rfl,rfl,rfl,B8 (by rw[←hR];simp)⟩
 rw[g2] at hR;refine⟨λg3=>go 60 ?_,λg3=>go 60 ?_⟩
 rotate_left
 ·exact⟨trivial,rfl,rfl,rfl,Ar (by rw[←hR,g3];rfl)⟩
 rw[g3] at hR
 by_cases hne:o.path=[]
 ·rw[hne] at hR;have cp:=Akc;rw[←hne] at cp;show CallThen _ _ _ _ _ _;refine Aa cp rfl ?_;rintro x rfl;exact⟨trivial,rfl,rfl,rfl,Ar (by rw[←hR];rfl)⟩
 have cp:=Pq o.path (by have:=ho.lt.path;omega) hne;have cs:=Cg o.path.dropLast o.to (by rw[List.length_dropLast];have:=ho.lt.path;omega);have hlast:0≤o.path.getLast hne∧o.path.getLast hne≤1048576:=El (Bc hfo) _ (Avd hne);have hemp:o.path.isEmpty=false:=by simpa using hne
 rw[hemp,←Dc hne] at hR;generalize o.path.getLast hne=i at cp hlast hR;obtain⟨sb,hsb⟩: ∃sb,decide (o.path.dropLast=o.to)=sb:=⟨_,rfl⟩;rw[hsb] at cs hR;show CallThen _ _ _ _ _ _;refine Aa cp rfl ?_;rintro x rfl;show CallThen _ _ _ _ _ _;refine Aa cs rfl ?_;rintro x rfl;refine⟨λg4=>go 60 ?_,λg4=>go 60 ?_⟩
 rotate_left
 ·have g4:sb=false:=g4;exact⟨trivial,rfl,rfl,rfl,Ar (by rw[←hR,g4];rfl)⟩
 have g4:sb=true:=g4;rw[g4] at hR;refine⟨λg5=>go 60 ?_,λg5=>go 60 ?_⟩
 ·exact⟨trivial,rfl,rfl,rfl,Cu (by rw[←hR,g5];rfl)⟩
 refine⟨by constructor<;>omega,?_⟩;exact⟨trivial,rfl,rfl,rfl,B8 (by rw[←hR,g5];simp)⟩
theorem Ake (o:OpT)(ho:o.Ok):Pure Tryz.prog 149 [opV o] (λx=>x=.bool (busyO o)):=by
 have cf:=Ha o ho.lt (Lo ho);have ci:=Akd o ho;unfold busyO;generalize formedB o=fb at cf;generalize idleO o=ib at ci;refine Aj (Ad 60 Tryz.func149 rfl rfl rfl λB=> ?_);show CallThen _ _ _ _ _ _;refine Aa cf rfl ?_;rintro x rfl;refine⟨λg1=>go 60 ?_,λg1=>go 60 ?_⟩
 ·show CallThen _ _ _ _ _ _;refine Aa ci rfl ?_;rintro x rfl;have g1:fb=true:=g1;exact⟨trivial,rfl,rfl,rfl,B8 (by rw[g1];rfl)⟩
 ·have g1:fb=false:=g1;exact⟨trivial,rfl,rfl,rfl,Ar (by rw[g1];rfl)⟩
theorem Aoy (p:List Int)(i:Int)(hp:p.length≤1000000):Pure Tryz.prog 150 [pathV p,intV i] (λx=>x=pathV (p++ [i])):=by
 refine Aj (Ad 60 Tryz.func150 rfl rfl rfl λB=> ?_);show CallThen _ _ _ _ _ _;refine Ag [] (Jk (p.map intV) (by rw[Arf];exact hp)) rfl rfl trivial rfl rfl rfl ?_;rintro x T1 (⟨e,rfl,rfl⟩| ⟨rfl,rfl⟩)
 ·have hp:p=[]:=by simpa using e
  subst hp;refine⟨rfl,?_⟩;refine⟨⟨rfl,trivial⟩,rfl,rfl,Co (by simp) (by decide),?_⟩;exact⟨trivial,rfl,rfl,rfl,rfl,rfl,_,.refl _,rfl,rfl⟩
 ·refine⟨rfl,?_⟩;refine⟨⟨rfl,trivial⟩,rfl,rfl,rfl,rfl,Ark (Arg _ (show _≤1000001 by simp only[Arf,Aq8,Arc];omega)) (by decide),?_⟩;refine⟨trivial,rfl,rfl,rfl,by simp,rfl,pathV (p++ [i]),?_,rfl,rfl⟩;exact Wk.of_eq (congrArg (V.sl 1) (by simp[intV]))
def pairV (r:Option (Option OpT)):V:=
 match r with
 |none=>.tup [opsV [],.ff]
 |some none=>.tup [opsV [],.tt]
 |some (some z)=>.tup [opsV [z],.tt]
theorem C7 {R:Option (Option OpT)}(h:R=none): ∃y,Wk (.tup [.nilsl,.ff]) y∧y.pureB=true∧y=pairV R:=⟨pairV none,Wk.tup ⟨Wk.nil 11,.refl _,trivial⟩,rfl,by rw[h]⟩
theorem Pn {R:Option (Option OpT)}(h:R=some none): ∃y,Wk (.tup [.nilsl,.tt]) y∧y.pureB=true∧y=pairV R:=⟨pairV (some none),Wk.tup ⟨Wk.nil 11,.refl _,trivial⟩,rfl,by rw[h]⟩
theorem Fp {R:Option (Option OpT)}{z:OpT}(h:R=some (some z)): ∃y,Wk (.tup [.sl 11 [opV z],.tt]) y∧y.pureB=true∧y=pairV R:=⟨pairV (some (some z)),.refl _,rfl,by rw[h]⟩
theorem Tb {a b:List PieceT}:(composeP a b).1.length≤1000000∧putsLen (composeP a b).1≤1048576:=by
 obtain⟨⟨l,e⟩,h⟩: ∃r,composeP a b=r:=⟨_,rfl⟩;rw[h];simp only
 by_cases he:e=0
 ·subst he;obtain⟨h1,_,h2⟩:=Kx (La h);exact⟨by omega,h2⟩
 ·have:l=[]:=by
   unfold composeP at h;cases hr: !rightP a|| !rightP b with
   |true=>rw[hr] at h;simp at h;exact h.1
   |false=>
    rw[hr] at h;simp only[cond_false] at h;generalize cpGo _ _=s at h;cases hl:rightP s.x.l with
    |false=>rw[hl] at h;simp at h;exact h.1
    |true=>rw[hl] at h;simp at h;exact absurd h.2.symm he
  subst this;exact⟨by simp,by simp[putsLen]⟩
theorem Aqb (a b:OpT)(ha:a.Ok)(hb:b.Ok):Pure Tryz.prog 110 [opV a,opV b] (λx=>x=pairV (pairO a b)):=by
 have ca:=Ake a ha;have cb:=Ake b hb;have cc:=Aoy a.path a.at_ (by have:=ha.lt.path;omega);have cs1:busyO a=true->Pure Tryz.prog 148 [pathV (a.path++ [a.at_]),pathV b.path] (λx=>x=.bool (decide (a.path++ [a.at_]=b.path))):=λh=>Cg (a.path++ [a.at_]) b.path (by
  unfold busyO at h;simp only[Aq6] at h;have hm:=Bc h.1;unfold mayP at hm;simp only[Aq6,decide_eq_true_eq] at hm;rw[Arb];simp;omega)
 have cs2:=Cg a.path b.path (by have:=ha.lt.path;omega);have ck:=Akb a.pieces b.pieces ha.lt.pieces hb.lt.pieces (Lo ha) (Lo hb);have cr1:=Hb {a with label:=b.label} ⟨ha.lt.path,ha.lt.to,hb.lt.label,ha.lt.key,ha.lt.value,ha.lt.pieces⟩;have cr2:=Hb b hb.lt;have cr3:=Hb {b with pieces:=(composeP a.pieces b.pieces).1} ⟨hb.lt.path,hb.lt.to,hb.lt.label,hb.lt.key,hb.lt.value,Tb.1⟩;obtain⟨R,hR⟩: ∃R,pairO a b=R:=⟨_,rfl⟩;rw[hR];unfold pairO at hR;generalize busyO a=ba at ca hR cs1;generalize busyO b=bb at cb hR;generalize composeP a.pieces b.pieces=cr at ck cr3 hR;obtain⟨l,e⟩:=cr;simp only at cr3 hR;obtain⟨s1,hs1⟩: ∃s1,decide (a.path++ [a.at_]=b.path)=s1:=⟨_,rfl⟩;rw[hs1] at cs1 hR;obtain⟨s2,hs2⟩: ∃s2,decide (a.path=b.path)=s2:=⟨_,rfl⟩;rw[hs2] at cs2 hR;clear hs1 hs2;refine Aj (Ad 60 Tryz.func110 rfl rfl rfl λB=> ?_);show CallThen _ _ _ _ _ _;refine Aa ca rfl ?_;rintro x rfl;refine⟨λg1=>go 60 ?_,λg1=>go 60 ?_⟩
 ·have g1:ba=false:=by simpa using g1
  exact⟨trivial,rfl,rfl,rfl,C7 (by rw[←hR,g1];rfl)⟩
 have g1:ba=true:=by simpa using g1
 show CallThen _ _ _ _ _ _;refine Aa cb rfl ?_;rintro x rfl;refine⟨λg2=>go 60 ?_,λg2=>go 60 ?_⟩
 ·have g2:bb=false:=by simpa using g2
  exact⟨trivial,rfl,rfl,rfl,C7 (by rw[←hR,g1,g2];rfl)⟩
 have g2:bb=true:=by simpa using g2
 rw[g1,g2] at hR;have cs1:=cs1 g1;obtain⟨tail,htail⟩: ∃tail:Option (Option OpT),(bif !decide (a.kind=b.kind)|| !s2 then none
 else bif decide (a.kind=5) then some (some (bareO b))
 else bif decide (a.kind=4) then(bif decide (a.key=b.key) then some (some (bareO b)) else none)
 else bif decide (a.kind=6) then(bif !decide (e=0) then none else bif decide (l.length=0) then some none else some (some (bareO {b with pieces:=l})))
 else none)=tail:=⟨_,rfl⟩
 rw[htail] at hR;show Goes _ _ _ _;refine Ac [] 60 ?_;refine⟨λq1=> ?_,λq1=> ?_⟩
 ·refine⟨_,cc,rfl,_,cs1,rfl,?_⟩;refine⟨by kernel_rfl,?_⟩;rw[q1] at hR;refine⟨λq2=>go 60 ?_,λq2=>go 60 ?_⟩
  ·have q2:s1=true:=q2;rw[q2] at hR;refine⟨λq3=>go 60 ?_,λq3=>go 60 ?_⟩
   ·exact⟨trivial,rfl,rfl,rfl,Pn (by rw[←hR,q3];rfl)⟩
   rw[q3] at hR;refine⟨λq4=>go 60 ?_,λq4=>go 60 ?_⟩
   ·show CallThen _ _ _ _ _ _;refine Aa cr1 rfl ?_;rintro x rfl;refine⟨⟨rfl,trivial⟩,?_⟩;exact⟨trivial,rfl,rfl,rfl,rfl,rfl,Fp (by rw[←hR,q4];rfl)⟩
   rw[q4] at hR;have ht:tail=R:=hR;rw[←htail] at ht;refine⟨λq5=>go 60 ?_,λq5=>go 60 ?_⟩
   ·exact⟨trivial,rfl,rfl,rfl,C7 (by rw[←ht,q5];rfl)⟩
   rw[q5] at ht;show CallThen _ _ _ _ _ _;refine Aa cs2 rfl ?_;rintro x rfl;refine⟨λq6=>go 60 ?_,λq6=>go 60 ?_⟩
   ·exact⟨trivial,rfl,rfl,rfl,C7 (by rw[←ht,q6];rfl)⟩
   rw[q6] at ht;refine⟨λq7=>go 60 ?_,λq7=>go 60 ?_⟩
   ·rw[q7] at ht;show CallThen _ _ _ _ _ _;refine Aa cr2 rfl ?_;rintro x rfl;refine⟨⟨rfl,trivial⟩,?_⟩;exact⟨trivial,rfl,rfl,rfl,rfl,rfl,Fp ht.symm⟩
   rw[q7] at ht;refine⟨λq8=>go 60 ?_,λq8=>go 60 ?_⟩
   ·rw[q8] at ht;refine⟨λq9=>go 60 ?_,λq9=>go 60 ?_⟩
    ·have q9:decide (a.key=b.key)=false:=by simpa using q9
     exact⟨trivial,rfl,rfl,rfl,C7 (by rw[←ht,q9];rfl)⟩
    have q9:decide (a.key=b.key)=true:=by simpa using q9
    rw[q9] at ht;show CallThen _ _ _ _ _ _;refine Aa cr2 rfl ?_;rintro x rfl;refine⟨⟨rfl,trivial⟩,?_⟩;exact⟨trivial,rfl,rfl,rfl,rfl,rfl,Fp ht.symm⟩
   rw[q8] at ht;refine⟨λq9=>go 60 ?_,λq9=>go 60 ?_⟩
   rotate_left
   ·exact⟨trivial,rfl,rfl,rfl,C7 (by rw[←ht,q9];rfl)⟩
   rw[q9] at ht;show CallThen _ _ _ _ _ _;refine Aa ck rfl ?_;rintro x rfl;refine⟨λq10=>go 60 ?_,λq10=>go 60 ?_⟩
   ·have q10:decide (e=0)=false:=by simpa using q10
    exact⟨trivial,rfl,rfl,rfl,C7 (by rw[←ht,q10];rfl)⟩
   have q10:decide (e=0)=true:=by simpa using q10
   rw[q10] at ht;refine⟨λq11=>go 60 ?_,λq11=>go 60 ?_⟩
   ·have q11:decide (l.length=0)=true:=by simpa using q11
    exact⟨trivial,rfl,rfl,rfl,Pn (by rw[←ht,q11];rfl)⟩
   have q11:decide (l.length=0)=false:=by simpa using q11
   rw[q11] at ht;show CallThen _ _ _ _ _ _;refine Aa cr3 rfl ?_;rintro x rfl;refine⟨⟨rfl,trivial⟩,?_⟩;exact⟨trivial,rfl,rfl,rfl,rfl,rfl,Fp ht.symm⟩
  ·have q2:s1=false:=q2;rw[q2] at hR;have ht:tail=R:=hR;rw[←htail] at ht;refine⟨λq5=>go 60 ?_,λq5=>go 60 ?_⟩
   ·exact⟨trivial,rfl,rfl,rfl,C7 (by rw[←ht,q5];rfl)⟩
   rw[q5] at ht;show CallThen _ _ _ _ _ _;refine Aa cs2 rfl ?_;rintro x rfl;refine⟨λq6=>go 60 ?_,λq6=>go 60 ?_⟩
   ·exact⟨trivial,rfl,rfl,rfl,C7 (by rw[←ht,q6];rfl)⟩
   rw[q6] at ht;refine⟨λq7=>go 60 ?_,λq7=>go 60 ?_⟩
   ·rw[q7] at ht;show CallThen _ _ _ _ _ _;refine Aa cr2 rfl ?_;rintro x rfl;refine⟨⟨rfl,trivial⟩,?_⟩;exact⟨trivial,rfl,rfl,rfl,rfl,rfl,Fp ht.symm⟩
   rw[q7] at ht;refine⟨λq8=>go 60 ?_,λq8=>go 60 ?_⟩
   ·rw[q8] at ht;refine⟨λq9=>go 60 ?_,λq9=>go 60 ?_⟩
    ·have q9:decide (a.key=b.key)=false:=by simpa using q9
     exact⟨trivial,rfl,rfl,rfl,C7 (by rw[←ht,q9];rfl)⟩
    have q9:decide (a.key=b.key)=true:=by simpa using q9
    rw[q9] at ht;show CallThen _ _ _ _ _ _;refine Aa cr2 rfl ?_;rintro x rfl;refine⟨⟨rfl,trivial⟩,?_⟩;exact⟨trivial,rfl,rfl,rfl,rfl,rfl,Fp ht.symm⟩
   rw[q8] at ht;refine⟨λq9=>go 60 ?_,λq9=>go 60 ?_⟩
   rotate_left
   ·exact⟨trivial,rfl,rfl,rfl,C7 (by rw[←ht,q9];rfl)⟩
   rw[q9] at ht;show CallThen _ _ _ _ _ _;refine Aa ck rfl ?_;rintro x rfl;refine⟨λq10=>go 60 ?_,λq10=>go 60 ?_⟩
   ·have q10:decide (e=0)=false:=by simpa using q10
    exact⟨trivial,rfl,rfl,rfl,C7 (by rw[←ht,q10];rfl)⟩
   have q10:decide (e=0)=true:=by simpa using q10
   rw[q10] at ht;refine⟨λq11=>go 60 ?_,λq11=>go 60 ?_⟩
   ·have q11:decide (l.length=0)=true:=by simpa using q11
    exact⟨trivial,rfl,rfl,rfl,Pn (by rw[←ht,q11];rfl)⟩
   have q11:decide (l.length=0)=false:=by simpa using q11
   rw[q11] at ht;show CallThen _ _ _ _ _ _;refine Aa cr3 rfl ?_;rintro x rfl;refine⟨⟨rfl,trivial⟩,?_⟩;exact⟨trivial,rfl,rfl,rfl,rfl,rfl,Fp ht.symm⟩
 ·refine⟨by kernel_rfl,?_⟩;rw[q1] at hR;have ht:tail=R:=hR;rw[←htail] at ht;refine⟨λq5=>go 60 ?_,λq5=>go 60 ?_⟩
  ·exact⟨trivial,rfl,rfl,rfl,C7 (by rw[←ht,q5];rfl)⟩
  rw[q5] at ht;show CallThen _ _ _ _ _ _;refine Aa cs2 rfl ?_;rintro x rfl;refine⟨λq6=>go 60 ?_,λq6=>go 60 ?_⟩
  ·exact⟨trivial,rfl,rfl,rfl,C7 (by rw[←ht,q6];rfl)⟩
  rw[q6] at ht;refine⟨λq7=>go 60 ?_,λq7=>go 60 ?_⟩
  ·rw[q7] at ht;show CallThen _ _ _ _ _ _;refine Aa cr2 rfl ?_;rintro x rfl;refine⟨⟨rfl,trivial⟩,?_⟩;exact⟨trivial,rfl,rfl,rfl,rfl,rfl,Fp ht.symm⟩
  rw[q7] at ht;refine⟨λq8=>go 60 ?_,λq8=>go 60 ?_⟩
  ·rw[q8] at ht;refine⟨λq9=>go 60 ?_,λq9=>go 60 ?_⟩
   ·have q9:decide (a.key=b.key)=false:=by simpa using q9
    exact⟨trivial,rfl,rfl,rfl,C7 (by rw[←ht,q9];rfl)⟩
   have q9:decide (a.key=b.key)=true:=by simpa using q9
   rw[q9] at ht;show CallThen _ _ _ _ _ _;refine Aa cr2 rfl ?_;rintro x rfl;refine⟨⟨rfl,trivial⟩,?_⟩;exact⟨trivial,rfl,rfl,rfl,rfl,rfl,Fp ht.symm⟩
  rw[q8] at ht;refine⟨λq9=>go 60 ?_,λq9=>go 60 ?_⟩
  rotate_left
  ·exact⟨trivial,rfl,rfl,rfl,C7 (by rw[←ht,q9];rfl)⟩
  rw[q9] at ht;show CallThen _ _ _ _ _ _;refine Aa ck rfl ?_;rintro x rfl;refine⟨λq10=>go 60 ?_,λq10=>go 60 ?_⟩
  ·have q10:decide (e=0)=false:=by simpa using q10
   exact⟨trivial,rfl,rfl,rfl,C7 (by rw[←ht,q10];rfl)⟩
  have q10:decide (e=0)=true:=by simpa using q10
  rw[q10] at ht;refine⟨λq11=>go 60 ?_,λq11=>go 60 ?_⟩
  ·have q11:decide (l.length=0)=true:=by simpa using q11
   exact⟨trivial,rfl,rfl,rfl,Pn (by rw[←ht,q11];rfl)⟩
  have q11:decide (l.length=0)=false:=by simpa using q11
  rw[q11] at ht;show CallThen _ _ _ _ _ _;refine Aa cr3 rfl ?_;rintro x rfl;refine⟨⟨rfl,trivial⟩,?_⟩;exact⟨trivial,rfl,rfl,rfl,rfl,rfl,Fp ht.symm⟩
end Bow
namespace Bow
open Go
theorem bareK1 {o:OpT}(h:o.kind=1):bareO o= {noOp 1 with path:=o.path,at_:=o.at_,id:=o.id,leaf:=o.leaf,label:=o.label}:=by unfold bareO;rw[h];rfl
theorem bareK2 {o:OpT}(h:o.kind=2):bareO o= {noOp 2 with path:=o.path}:=by unfold bareO;rw[h];rfl
theorem bareK3 {o:OpT}(h:o.kind=3):bareO o= {noOp 3 with path:=o.path,at_:=o.at_,to:=o.to}:=by unfold bareO;rw[h];rfl
theorem bareK4 {o:OpT}(h:o.kind=4):bareO o= {noOp 4 with path:=o.path,key:=o.key,gone:=o.gone,value:=bif o.gone then [] else o.value}:=by unfold bareO;rw[h];rfl
theorem bareK5 {o:OpT}(h:o.kind=5):bareO o= {noOp 5 with path:=o.path,label:=o.label}:=by unfold bareO;rw[h];rfl
theorem bareK6 {o:OpT}(h:o.kind=6):bareO o= {noOp 6 with path:=o.path,pieces:=o.pieces}:=by unfold bareO;rw[h];rfl
theorem bareX {o:OpT}(h1:o.kind≠1)(h2:o.kind≠2)(h3:o.kind≠3)(h4:o.kind≠4)(h5:o.kind≠5)(h6:o.kind≠6):bareO o=noOp o.kind:=by
 unfold bareO;have e: ∀ {n:Int},o.kind≠n->(o.kind==n)=false:=λh=>by simpa using h
 rw[e h1,e h2,e h3,e h4,e h5,e h6];rfl
theorem Lj (o:OpT):o.kind=1∨o.kind=2∨o.kind=3∨o.kind=4∨o.kind=5∨o.kind=6∨(o.kind≠1∧o.kind≠2∧o.kind≠3∧o.kind≠4∧o.kind≠5∧o.kind≠6):=by omega
theorem Lk {o:OpT}(h:o.kind≠1∧o.kind≠2∧o.kind≠3∧o.kind≠4∧o.kind≠5∧o.kind≠6):formedB o=false:=by
 unfold formedB;obtain⟨h1,h2,h3,h4,h5,h6⟩:=h;have e: ∀ {n:Int},o.kind≠n->(o.kind==n)=false:=λh=>by simpa using h
 rw[e h1,e h2,e h3,e h4,e h5,e h6];simp
theorem Y6 (o:OpT):bareO (bareO o)=bareO o:=by
 rcases Lj o with h|h|h|h|h|h| ⟨h1,h2,h3,h4,h5,h6⟩
 ·rw[bareK1 h];rfl
 ·rw[bareK2 h];rfl
 ·rw[bareK3 h];rfl
 ·rw[bareK4 h];unfold bareO;cases o.gone<;>rfl
 ·rw[bareK5 h];rfl
 ·rw[bareK6 h];rfl
 ·have e:(bareO o).kind=o.kind:=Dt o;rw[bareX (o:=bareO o) (by rw[e];exact h1) (by rw[e];exact h2) (by rw[e];exact h3) (by rw[e];exact h4) (by rw[e];exact h5) (by rw[e];exact h6),e,bareX h1 h2 h3 h4 h5 h6]
theorem H5 (o:OpT):formedB (bareO o)=formedB o:=by
 rcases Lj o with h|h|h|h|h|h|hx
 ·rw[bareK1 h];unfold formedB;rw[h];rfl
 ·rw[bareK2 h];unfold formedB;rw[h];rfl
 ·rw[bareK3 h];unfold formedB;rw[h];rfl
 ·rw[bareK4 h];unfold formedB;rw[h];cases o.gone<;>rfl
 ·rw[bareK5 h];unfold formedB;rw[h];rfl
 ·rw[bareK6 h];unfold formedB;rw[h];rfl
 ·rw[Lk hx];have e:(bareO o).kind=o.kind:=Dt o;exact Lk (by rw[e];exact hx)
theorem Hk (o:OpT):soundO (bareO o)=soundO o:=by
 unfold soundO;rw[H5]
 rcases Lj o with h|h|h|h|h|h|hx
 ·rw[bareK1 h,h];rfl
 ·rw[bareK2 h,h];rfl
 ·rw[bareK3 h,h];rfl
 ·rw[bareK4 h,h];rfl
 ·rw[bareK5 h,h];rfl
 ·rw[bareK6 h,h];rfl
 ·rw[Lk hx];rfl
theorem Jb {o:OpT}(h:soundO o=true):o.kind=1∨o.kind=2∨o.kind=3∨o.kind=4∨o.kind=5∨o.kind=6:=by
 rcases Lj o with k|k|k|k|k|k|k
 ·exact .inl k
 ·exact .inr (.inl k)
 ·exact .inr (.inr (.inl k))
 ·exact .inr (.inr (.inr (.inl k)))
 ·exact .inr (.inr (.inr (.inr (.inl k))))
 ·exact .inr (.inr (.inr (.inr (.inr k))))
 ·exfalso;unfold soundO at h;rw[Lk k] at h;cases h
theorem D6 {o:OpT}(h:soundO o=true):(bareO o).path=o.path:=by
 rcases Jb h with k|k|k|k|k|k
 ·rw[bareK1 k]
 ·rw[bareK2 k]
 ·rw[bareK3 k]
 ·rw[bareK4 k]
 ·rw[bareK5 k]
 ·rw[bareK6 k]
theorem Ox {o:OpT}(h:soundO o=true):movesO (bareO o)=movesO o:=by
 unfold movesO;rw[H5]
 rcases Jb h with k|k|k|k|k|k
 ·rw[bareK1 k,k];rfl
 ·rw[bareK2 k,k];rfl
 ·rw[bareK3 k,k];rfl
 ·rw[bareK4 k,k];rfl
 ·rw[bareK5 k,k];rfl
 ·rw[bareK6 k,k];rfl
theorem Aaz {c d:Chg}(h1:c.puts=false)(h2:d.puts=false)(h3:c.takes=d.takes)(h4:c.frm=d.frm)(h5:c.at_=d.at_)(p:List Int)(k:Int):c.number p k=d.number p k:=by
 unfold Chg.number;rw[h1,h2,h3,h4,h5];rfl
theorem Sq {c d:Chg}(h1:c.puts=false)(h2:d.puts=false)(h3:c.takes=d.takes)(h4:c.frm=d.frm)(h5:c.at_=d.at_): ∀(p q:List Int),c.nums q p=d.nums q p
 | [],_=>rfl
 |k::p,q=>by rw[Chg.nums,Chg.nums,Aaz h1 h2 h3 h4 h5,Sq h1 h2 h3 h4 h5 p]
theorem Ir {a:OpT}(h:soundO a=true)(q:List Int):nodeP (bareO a) q=nodeP a q:=by
 have hm:=Ox h;have hp:=D6 h;unfold nodeP;rw[hm,hp]
 rcases Jb h with k|k|k|k|k|k
 ·have e:chgO (bareO a)=chgO a:=by rw[bareK1 k];unfold chgO;rw[k];rfl
  have e2:(chgO a).takes=false:=by unfold chgO;simp[k]
  rw[e,e2];rfl
 ·have p1:(chgO (bareO a)).puts=false:=by rw[bareK2 k];rfl
  have p2:(chgO a).puts=false:=by unfold chgO;simp[k]
  have t1:(chgO (bareO a)).takes=(chgO a).takes:=by rw[bareK2 k];unfold chgO;rw[k];rfl
  have f1:(chgO (bareO a)).frm=(chgO a).frm:=by rw[bareK2 k];unfold chgO;rw[k];rfl
  have a1:(chgO (bareO a)).at_=(chgO a).at_:=by rw[bareK2 k];unfold chgO;rw[k];rfl
  rw[p1,p2,t1];simp only[Sq p1 p2 t1 f1 a1];cases !movesO a<;>cases(chgO a).takes&&within a.path q<;>rfl
 ·have e:chgO (bareO a)=chgO a:=by rw[bareK3 k];unfold chgO;rw[k];rfl
  have e2:(bareO a).to=a.to:=by rw[bareK3 k]
  rw[e,e2]
 ·have:movesO a=false:=by unfold movesO;simp[k]
  rw[this];rfl
 ·have:movesO a=false:=by unfold movesO;simp[k]
  rw[this];rfl
 ·have:movesO a=false:=by unfold movesO;simp[k]
  rw[this];rfl
theorem Ab2 {a:OpT}(h:soundO a=true)(q:List Int)(n:Int)(f:Bool):gapP (bareO a) q n f=gapP a q n f:=by
 have hm:=Ox h;unfold gapP;rw[Ir h];cases nodeP a q with
 |none=>rfl
 |some r=>
  simp only;rw[hm];cases hmv:movesO a with
  |false=>rfl
  |true=>
   rcases Jb h with k|k|k|k|k|k
   ·have e:chgO (bareO a)=chgO a:=by rw[bareK1 k];unfold chgO;rw[k];rfl
    rw[e]
   ·have p1:(chgO (bareO a)).puts=false:=by rw[bareK2 k];rfl
    have p2:(chgO a).puts=false:=by unfold chgO;simp[k]
    have t1:(chgO (bareO a)).takes=(chgO a).takes:=by rw[bareK2 k];unfold chgO;rw[k];rfl
    have f1:(chgO (bareO a)).frm=(chgO a).frm:=by rw[bareK2 k];unfold chgO;rw[k];rfl
    have a1:(chgO (bareO a)).at_=(chgO a).at_:=by rw[bareK2 k];unfold chgO;rw[k];rfl
    rw[p1,p2,t1,f1,a1];rfl
   ·have e:chgO (bareO a)=chgO a:=by rw[bareK3 k];unfold chgO;rw[k];rfl
    rw[e]
   ·unfold movesO at hmv;simp[k] at hmv
   ·unfold movesO at hmv;simp[k] at hmv
   ·unfold movesO at hmv;simp[k] at hmv
theorem Ai0 {a:OpT}(h:soundO a=true):undoO (bareO a)=undoO a:=by
 unfold undoO;rw[Ox h,Dt]
 by_cases k:a.kind=3
 ·have e:chgO (bareO a)=chgO a:=by rw[bareK3 k];unfold chgO;rw[k];rfl
  rw[D6 h,Ir h,Ir h,e]
 ·rw[decide_eq_false k];rfl
theorem Al8 {a b:OpT}(ha:soundO a=true)(hb:soundO b=true):wonO (bareO b) (bareO a)=wonO b a:=by
 unfold wonO;rw[Dt,Dt,D6 ha,D6 hb]
 by_cases k:a.kind=b.kind
 ·by_cases k4:b.kind=4
  ·have e1:(bareO b).key=b.key:=by rw[bareK4 k4]
   have e2:(bareO a).key=a.key:=by rw[bareK4 (by rw[k];exact k4)]
   rw[e1,e2]
  ·rw[decide_eq_false k4];simp
 ·rw[decide_eq_false k];simp
theorem Ab3 {a b:OpT}(ha:soundO a=true)(hb:soundO b=true)(p:Bool):bareO (shiftedO (bareO b) (bareO a) p)=bareO (shiftedO b a p):=by
 unfold shiftedO;rw[Dt,D6 hb,Ir ha]
 rcases Jb hb with k|k|k|k|k|k
 ·simp only[Ab2 ha];rw[bareK1 k,k];rfl
 ·rw[bareK2 k,k];rfl
 ·simp only[Ab2 ha];rw[bareK3 k,k];rfl
 ·rw[bareK4 k,k];unfold bareO;cases b.gone<;>rfl
 ·rw[bareK5 k,k];rfl
 ·rw[bareK6 k,k];rfl
theorem Xw {o:OpT}(k:o.kind=3):(bareO o).to=o.to:=by rw[bareK3 k]
theorem Al9 {a b:OpT}(ha:soundO a=true)(hb:soundO b=true)(p:Bool):(rowO (bareO b) (bareO a) p).map bareO=(rowO b a p).map bareO:=by
 have hs:=Ab3 ha hb p;unfold rowO;rw[Dt a,Dt b,D6 ha,D6 hb,Al8 ha hb,Ir ha,Ir ha,Ai0 ha]
 by_cases k1:a.kind=2
 ·rw[decide_eq_true k1];cases within a.path b.path with
  |true=>rfl
  |false=>
   by_cases k3:b.kind=3
   ·rw[decide_eq_true k3,Xw k3];cases within a.path b.to with
    |true=>rfl
    |false=>simp only[Atu,cond_false,cond_true,Asa,Ate,hs]
   ·rw[decide_eq_false k3];simp only[Asy,cond_false,cond_true,Asa,Ate,hs]
 ·rw[decide_eq_false k1];cases wonO b a with
  |true=>cases p with
   |true=>simp only[cond_false,cond_true,Asa,Ate,hs]
   |false=>rfl
  |false=>
   by_cases k3:a.kind=3
   ·rw[decide_eq_true k3,Xw k3]
    by_cases k4:b.kind=2
    ·rw[decide_eq_true k4];cases within b.path a.path&& (!decide (b.path=a.path)&& !within b.path a.to) with
     |true=>rfl
     |false=>simp only[Arm,cond_false,cond_true,Asa,Ate,hs]
    ·rw[decide_eq_false k4]
     by_cases k5:b.kind=3
     ·rw[decide_eq_true k5,Xw k5];cases within b.path a.to&&within a.path b.to with
      |true=>cases p with
       |true=>simp only[Arm,Ast,cond_false,cond_true,Asa,Ate,Y6]
       |false=>rfl
      |false=>simp only[Arm,Atu,cond_false,Asa,Ate,hs]
     ·rw[decide_eq_false k5];simp only[Arm,Asy,cond_false,Asa,Ate,hs]
   ·rw[decide_eq_false k3];simp only[Ash,cond_false,cond_true,Asa,Ate,hs]
theorem Ab4 (l:List OpT):(l.map bareO).all formedB=l.all formedB:=by
 induction l with
 |nil=>rfl
 |cons o l ih=>rw[Asa,Avb,Avb,ih,H5]
theorem Ab5 {a b:OpT}(h:(!soundO a|| !soundO b)=true)(p:Bool):behindX b a p=([],80):=by
 unfold behindX behindE behindO;rw[h];cases bothEdit b a<;>rfl
theorem Y7 (b a:OpT)(p:Bool):behindX (bareO b) (bareO a) p=behindX b a p:=by
 cases h: !soundO a|| !soundO b with
 |true=>rw[Ab5 h,Ab5 (by rw[Hk,Hk];exact h)]
 |false=>
  have h':=h;rw[Asw] at h';have ha:soundO a=true:=by simpa using h'.1
  have hb:soundO b=true:=by simpa using h'.2
  have he:bothEdit (bareO b) (bareO a)=bothEdit b a:=by
   unfold bothEdit;rw[Dt,Dt,D6 ha,D6 hb]
  unfold behindX;rw[he];cases heb:bothEdit b a with
  |true=>
   have hk:a.kind=6∧b.kind=6:=by
    unfold bothEdit at heb;simp only[Aq6,decide_eq_true_eq] at heb;exact⟨heb.1,heb.2.1⟩
   have pa:(bareO a).pieces=a.pieces:=by rw[bareK6 hk.1]
   have pb:(bareO b).pieces=b.pieces:=by rw[bareK6 hk.2]
   have e:bareO (editO (bareO b) (bareO a) p)=bareO (editO b a p):=by
    unfold editO;rw[pa,pb,bareK6 hk.2,bareK6 (o:= {b with pieces:=(transP b.pieces a.pieces p).1}) hk.2];rfl
   have ef:formedB (editO (bareO b) (bareO a) p)=formedB (editO b a p):=by rw[←H5,e,H5]
   unfold behindE;rw[Hk,Hk,pa,pb,ef,e];rfl
  |false=>
   have e:=Al9 ha hb p;unfold behindO;rw[Hk,Hk,←Ab4,e,Ab4];rfl
theorem Vo (a b:OpT)(p:Bool):bothX (bareO a) (bareO b) p=bothX a b p:=by
 unfold bothX;rw[Y7,Y7]
def SameR (r r':List OpT×List OpT×Int):Prop:=r.1.map bareO=r'.1.map bareO∧r.2.1.map bareO=r'.2.1.map bareO∧r.2.2=r'.2.2
theorem Afo {xs xs':List OpT}(h:xs.map bareO=xs'.map bareO):xs.length=xs'.length:=by simpa using congrArg List.length h
theorem Oy {xs xs' ys ys':List OpT}(h1:xs.map bareO=xs'.map bareO)(h2:ys.map bareO=ys'.map bareO):muchP xs ys=muchP xs' ys':=by
 unfold muchP;rw[Afo h1,Afo h2]
theorem Oz {a a' b b':OpT}(h1:bareO a=bareO a')(h2:bareO b=bareO b')(p:Bool):bothX a b p=bothX a' b' p:=by
 rw[←Vo a b,←Vo a' b',h1,h2]
theorem H6 (prior:Bool): ∀(n:Nat) (xs ys xs' ys':List OpT) (r),xs.map bareO=xs'.map bareO->ys.map bareO=ys'.map bareO->bringF prior n xs ys=some r-> ∃r',bringF prior n xs' ys'=some r'∧SameR r r'
 |0,_,_,_,_,_,_,_,h=>by cases h
 |n+1,xs,ys,xs',ys',r,hx,hy,h=>by
  rw[A0] at h ⊢;unfold bringS at h ⊢;rw[←Oy hx hy];have same0: ∀e:Int,SameR ([],[],e) ([],[],e):=λe=>⟨rfl,rfl,rfl⟩;cases hm:muchP xs ys with
  |true=>rw[hm] at h;simp at h;subst h;exact⟨_,rfl,same0 3⟩
  |false=>
   rw[hm,cond_false] at h;rw[cond_false]
   match xs,xs',hx,ys,ys',hy,h with
   | [],[],_,ys,ys',hy,h=>simp at h;subst h;exact⟨_,rfl,rfl,hy,rfl⟩
   | [],_::_,hx,_,_,_,_=>simp at hx
   |_::_,[],hx,_,_,_,_=>simp at hx
   |a::xs,c::xs',hx,[],[],_,h=>simp at h;subst h;exact⟨_,rfl,hx,rfl,rfl⟩
   |_::_,_::_,_,[],_::_,hy,_=>simp at hy
   |_::_,_::_,_,_::_,[],hy,_=>simp at hy
   | [a],[c],hx,[b],[d],hy,h=>
    simp only[Asa,Ate,List.cons.injEq,and_true] at hx hy;simp only[Option.some.injEq] at h;subst h;exact⟨_,rfl,by rw[Oz hx hy],by rw[Oz hx hy],by rw[Oz hx hy]⟩
   | [_],_::_::_,hx,_,_,_,_=>simp at hx
   |_::_::_,[_],hx,_,_,_,_=>simp at hx
   | [_],[_],_,[_],_::_::_,hy,_=>simp at hy
   | [_],[_],_,_::_::_,[_],hy,_=>simp at hy
   |a::a'::xs,c::c'::xs',hx,b::ys,d::ys',hy,h=>
    simp only[Asa,List.cons.injEq] at hx;simp only at h ⊢;cases h1:bringF prior n [a] (b::ys) with
    |none=>rw[h1] at h;cases h
    |some r1=>
     rw[h1] at h;obtain⟨x1,y1,e1⟩:=r1;obtain⟨⟨x2,y2,e2⟩,q1,q2,q3,q4⟩:=H6 prior n [a] (b::ys) [c] (d::ys') _ (by simp[hx.1]) hy h1;simp only at q2 q3 q4;subst q4;rw[q1];simp only at h ⊢;cases he: !decide (e1=0) with
     |true=>rw[he] at h;simp at h;subst h;exact⟨_,rfl,same0 _⟩
     |false=>
      rw[he,cond_false] at h;rw[cond_false];cases h2:bringF prior n (a'::xs) y1 with
      |none=>rw[h2] at h;cases h
      |some r2=>
       rw[h2] at h;obtain⟨z,w,e2⟩:=r2;obtain⟨⟨z2,w2,e3⟩,s1,s2,s3,s4⟩:=H6 prior n (a'::xs) y1 (c'::xs') y2 _ (by simp[hx.2]) q3 h2;simp only at s2 s3 s4;subst s4;rw[s1];simp only at h ⊢;cases he: !decide (e2=0) with
       |true=>rw[he] at h;simp at h;subst h;exact⟨_,rfl,same0 _⟩
       |false=>
        rw[he,cond_false] at h;rw[cond_false];have e4:(x1++z).map bareO=(x2++z2).map bareO:=by rw[Asr,Asr,q2,s2]
        rw[←Oy e4 s3];cases hmm:muchP (x1++z) w with
        |true=>rw[hmm] at h;simp at h;subst h;exact⟨_,rfl,same0 _⟩
        |false=>rw[hmm] at h;simp at h;subst h;exact⟨_,rfl,e4,s3,rfl⟩
   | [a],[c],hx,b::b'::ys,d::d'::ys',hy,h=>
    simp only[Asa,List.cons.injEq] at hy;simp only at h ⊢;cases h1:bringF prior n [a] [b] with
    |none=>rw[h1] at h;cases h
    |some r1=>
     rw[h1] at h;obtain⟨x1,y1,e1⟩:=r1;obtain⟨⟨x2,y2,e2⟩,q1,q2,q3,q4⟩:=H6 prior n [a] [b] [c] [d] _ hx (by simp[hy.1]) h1;simp only at q2 q3 q4;subst q4;rw[q1];simp only at h ⊢;cases he: !decide (e1=0) with
     |true=>rw[he] at h;simp at h;subst h;exact⟨_,rfl,same0 _⟩
     |false=>
      rw[he,cond_false] at h;rw[cond_false];cases h2:bringF prior n x1 (b'::ys) with
      |none=>rw[h2] at h;cases h
      |some r2=>
       rw[h2] at h;obtain⟨z,w,e2⟩:=r2;obtain⟨⟨z2,w2,e3⟩,s1,s2,s3,s4⟩:=H6 prior n x1 (b'::ys) x2 (d'::ys') _ q2 (by simp[hy.2]) h2;simp only at s2 s3 s4;subst s4;rw[s1];simp only at h ⊢;cases he: !decide (e2=0) with
       |true=>rw[he] at h;simp at h;subst h;exact⟨_,rfl,same0 _⟩
       |false=>
        rw[he,cond_false] at h;rw[cond_false];have e4:(y1++w).map bareO=(y2++w2).map bareO:=by rw[Asr,Asr,q3,s3]
        rw[←Oy s2 e4];cases hmm:muchP z (y1++w) with
        |true=>rw[hmm] at h;simp at h;subst h;exact⟨_,rfl,same0 _⟩
        |false=>rw[hmm] at h;simp at h;subst h;exact⟨_,rfl,s2,e4,rfl⟩
def Br (prior:Bool)(xs ys x y:List OpT):Prop:= ∃n,bringF prior n xs ys=some (x,y,0)
section
variable {prior:Bool}
theorem Br.much {xs ys x y:List OpT}(h:Br prior xs ys x y):muchP xs ys=false:=by
 obtain⟨n,h⟩:=h;cases n with
 |zero=>cases h
 |succ n=>
  rw[A0] at h;unfold bringS at h;cases hm:muchP xs ys with
  |false=>rfl
  |true=>rw[hm] at h;simp at h
theorem Br.nil_inv {ys x y:List OpT}(h:Br prior [] ys x y):x=[]∧y=ys:=by
 have hm:=h.much;obtain⟨n,h⟩:=h;cases n with
 |zero=>cases h
 |succ n=>
  rw[A0] at h;unfold bringS at h;rw[hm] at h;simp at h;exact⟨h.1.symm▸rfl,h.2.symm⟩
theorem Br.nil2_inv {xs x y:List OpT}(h:Br prior xs [] x y):x=xs∧y=[]:=by
 have hm:=h.much;obtain⟨n,h⟩:=h;cases n with
 |zero=>cases h
 |succ n=>
  rw[A0] at h;unfold bringS at h;rw[hm] at h;cases xs with
  |nil=>simp at h;exact⟨h.1.symm▸rfl,h.2.symm▸rfl⟩
  |cons a xs=>simp at h;exact⟨h.1.symm,h.2.symm▸rfl⟩
theorem Br.nil {ys:List OpT}(h:muchP [] ys=false):Br prior [] ys [] ys:=⟨1,by rw[A0];unfold bringS;rw[h];rfl⟩
theorem Br.nil2 {xs:List OpT}(h:muchP xs []=false):Br prior xs [] xs []:=⟨1,by
 rw[A0];unfold bringS;rw[h];cases xs<;>rfl⟩
theorem H7 {n:Nat}{a a' b:OpT}{xs ys X W:List OpT}(h:bringF prior (n+1) (a::a'::xs) (b::ys)=some (X,W,0)):
  ∃x1 y1 z,bringF prior n [a] (b::ys)=some (x1,y1,0)∧bringF prior n (a'::xs) y1=some (z,W,0)∧X=x1++z∧muchP X W=false:=by
 rw[A0] at h;unfold bringS at h;cases hm:muchP (a::a'::xs) (b::ys) with
 |true=>rw[hm] at h;simp at h
 |false=>
  rw[hm,cond_false] at h;simp only at h;cases h1:bringF prior n [a] (b::ys) with
  |none=>rw[h1] at h;cases h
  |some r=>
   obtain⟨x1,y1,e1⟩:=r;rw[h1] at h;simp only at h
   by_cases he:e1=0
   ·subst he;simp only[decide_true,Arm,cond_false] at h;cases h2:bringF prior n (a'::xs) y1 with
    |none=>rw[h2] at h;cases h
    |some r=>
     obtain⟨z,w,e2⟩:=r;rw[h2] at h;simp only at h
     by_cases he:e2=0
     ·subst he;simp only[decide_true,Arm,cond_false] at h;cases hmm:muchP (x1++z) w with
      |true=>rw[hmm] at h;simp at h
      |false=>
       rw[hmm] at h;simp only[cond_false,Option.some.injEq,Prod.mk.injEq,and_true] at h;obtain⟨rfl,rfl⟩:=h;exact⟨x1,y1,z,rfl,h2,rfl,hmm⟩
     ·simp[he] at h
   ·simp[he] at h
theorem Md {n:Nat}{a b b':OpT}{ys Z W:List OpT}(h:bringF prior (n+1) [a] (b::b'::ys)=some (Z,W,0)):
  ∃x y w,bringF prior n [a] [b]=some (x,y,0)∧bringF prior n x (b'::ys)=some (Z,w,0)∧W=y++w∧muchP Z W=false:=by
 rw[A0] at h;unfold bringS at h;cases hm:muchP [a] (b::b'::ys) with
 |true=>rw[hm] at h;simp at h
 |false=>
  rw[hm,cond_false] at h;simp only at h;cases h1:bringF prior n [a] [b] with
  |none=>rw[h1] at h;cases h
  |some r=>
   obtain⟨x1,y1,e1⟩:=r;rw[h1] at h;simp only at h
   by_cases he:e1=0
   ·subst he;simp only[decide_true,Arm,cond_false] at h;cases h2:bringF prior n x1 (b'::ys) with
    |none=>rw[h2] at h;cases h
    |some r=>
     obtain⟨z,w,e2⟩:=r;rw[h2] at h;simp only at h
     by_cases he:e2=0
     ·subst he;simp only[decide_true,Arm,cond_false] at h;cases hmm:muchP z (y1++w) with
      |true=>rw[hmm] at h;simp at h
      |false=>
       rw[hmm] at h;simp only[cond_false,Option.some.injEq,Prod.mk.injEq,and_true] at h;obtain⟨rfl,rfl⟩:=h;exact⟨x1,y1,w,rfl,h2,rfl,hmm⟩
     ·simp[he] at h
   ·simp[he] at h
theorem Br.cons {a a' b:OpT}{xs ys x1 y1 z W:List OpT}(h1:Br prior [a] (b::ys) x1 y1)(h2:Br prior (a'::xs) y1 z W)(m1:muchP (a::a'::xs) (b::ys)=false)(m2:muchP (x1++z) W=false):Br prior (a::a'::xs) (b::ys) (x1++z) W:=by
 obtain⟨n1,h1⟩:=h1;obtain⟨n2,h2⟩:=h2;refine⟨max n1 n2+1,?_⟩;rw[A0];unfold bringS;rw[m1,cond_false];simp only;rw[Eb h1 (Au3 _ _)];simp only[decide_true,Arm,cond_false];rw[Eb h2 (Auv _ _)];simp only[decide_true,Arm,cond_false];rw[m2];rfl
theorem Cs {x y:List OpT}:muchP x y=false↔x.length≤4096∧y.length≤4096:=by
 unfold muchP;simp only[Asw,decide_eq_false_iff_not,Nat.not_lt]
theorem Br.res {xs ys x y:List OpT}(h:Br prior xs ys x y):muchP x y=false:=by
 have hm:=h.much;obtain⟨n,h⟩:=h;cases n with
 |zero=>cases h
 |succ n=>
  match xs,ys,h,hm with
  | [],ys,h,hm=>
   obtain⟨rfl,rfl⟩:=Br.nil_inv ⟨_,h⟩;exact hm
  |a::xs,[],h,hm=>
   obtain⟨rfl,rfl⟩:=Br.nil2_inv ⟨_,h⟩;exact hm
  | [a],[b],h,_=>
   have:=(Ck prior _ _ _ _ _ h).s;simp only[Aq8,Arc] at this;exact Cs.2 ⟨by omega,by omega⟩
  |a::a'::xs,b::ys,h,_=>
   obtain⟨x1,y1,z,_,_,rfl,hmm⟩:=H7 h;exact hmm
  | [a],b::b'::ys,h,_=>
   obtain⟨x1,y1,w,_,_,rfl,hmm⟩:=Md h;exact hmm
theorem Br.split {x2:List OpT}: ∀ {x1 bs Y Q:List OpT},Br prior (x1++x2) bs Y Q-> ∃y1 b1 y2,Br prior x1 bs y1 b1∧Br prior x2 b1 y2 Q∧Y=y1++y2
 | [],bs,Y,Q,h=>by
  have hm:=Cs.1 h.much;exact⟨[],bs,Y,Br.nil (Cs.2 ⟨Aq4 _,hm.2⟩),h,rfl⟩
 |a::x1,[],Y,Q,h=>by
  have hm:=Cs.1 h.much;simp only[Arb] at hm;obtain⟨rfl,rfl⟩:=h.nil2_inv;exact⟨a::x1,[],x2,Br.nil2 (Cs.2 ⟨by omega,Aq4 _⟩),Br.nil2 (Cs.2 ⟨by omega,Aq4 _⟩),rfl⟩
 | [a],b::bs,Y,Q,h=>by
  cases x2 with
  |nil=>
   have hm:=Cs.1 h.res;exact⟨Y,Q,[],h,Br.nil (Cs.2 ⟨Aq4 _,hm.2⟩),(Asc Y).symm⟩
  |cons a' x2=>
   obtain⟨n,h⟩:=h;cases n with
   |zero=>cases h
   |succ n=>
    obtain⟨x,y,z,h1,h2,rfl,_⟩:=H7 h;exact⟨x,y,z,⟨_,h1⟩,⟨_,h2⟩,rfl⟩
 |a::a1::x1,b::bs,Y,Q,h=>by
  have hm:=Cs.1 h.much;have hr:=Cs.1 h.res;obtain⟨n,h⟩:=h;cases n with
  |zero=>cases h
  |succ n=>
   obtain⟨u,v,s,h1,h2,rfl,_⟩:=H7 h;obtain⟨s1,t,s2,q1,q2,rfl⟩:=Br.split (x1:=a1::x1) (bs:=v) ⟨_,h2⟩;simp only[Arb,Aq8] at hm hr;have ht:=Cs.1 q2.much;exact⟨u++s1,t,s2,Br.cons ⟨_,h1⟩ q1 (Cs.2 ⟨by simp only[Aq8];omega,by simp only[Aq8];omega⟩) (Cs.2 ⟨by simp only[Arb];omega,ht.2⟩),q2,(Arz _ _ _).symm⟩
end
noncomputable def bringX (prior:Bool)(xs ys:List OpT):List OpT×List OpT×Int:=
 Classical.choose (show ∃r n,bringF prior n xs ys=some r from let⟨n,r,h⟩:=Vn prior xs ys;⟨r,n,h⟩)
theorem B4 (prior:Bool)(xs ys:List OpT): ∃n,bringF prior n xs ys=some (bringX prior xs ys):=
 Classical.choose_spec (show ∃r n,bringF prior n xs ys=some r from let⟨n,r,h⟩:=Vn prior xs ys;⟨r,n,h⟩)
theorem Qm {prior:Bool}{n:Nat}{xs ys:List OpT}{r}(h:bringF prior n xs ys=some r):bringX prior xs ys=r:=by
 obtain⟨m,hm⟩:=B4 prior xs ys;exact Agy hm h
noncomputable def listsX (prior:Bool)(xs ys:List OpT):List OpT×List OpT×Int:=(bareL (bringX prior xs ys).1,bareL (bringX prior xs ys).2.1,(bringX prior xs ys).2.2)
theorem Vs (l:List OpT):l.map bareO=(bareL l).map bareO:=by
 unfold bareL;rw[Avf];exact Atj λo _=>(Y6 o).symm
end Bow
namespace Bow
open Go Go.Proofs
theorem Ans {x y:List OpT}(h:muchP x y=false):x.length≤4096∧y.length≤4096:=by
 unfold muchP at h;simp only[Asw,decide_eq_false_iff_not] at h;omega
theorem cut1 (o:OpT)(l:List OpT):V.sl 11 ((((o::l).map opV).drop (1:Int).toNat).take (((((o::l).map opV).length:Nat):Int).toNat- (1:Int).toNat))=opsV l:=by
 show V.sl 11 ((l.map opV).take (((((o::l).map opV).length:Nat):Int).toNat- (1:Int).toNat))=V.sl 11 (l.map opV);rw[Ars];simp
theorem L0 (prior:Bool): ∀(n:Nat) (xs ys:List OpT) (R),bringF prior n xs ys=some R->OkL xs->OkL ys->Pure Tryz.prog 111 [opsV xs,opsV ys,.bool prior] (λx=>x=BothV R)
 |0,_,_,_,h,_,_=>by cases h
 |n+1,xs,ys,R,h,ox,oy=>by
  have cm:=Yh xs ys;rw[A0] at h;unfold bringS at h;refine Aj (Ad 300 Tryz.func111 rfl rfl rfl λB=> ?_);refine⟨⟨rfl,rfl,trivial⟩,?_⟩;show CallThen _ _ _ _ _ _;refine C0 ?_;refine⟨rfl,rfl,_,cm,rfl,?_⟩;rintro x rfl;refine⟨λg1=>go 300 ?_,λg1=>go 300 ?_⟩
  ·rw[g1] at h;simp only[cond_true,Option.some.injEq] at h;exact⟨trivial,rfl,rfl,rfl,bothZ' h.symm⟩
  rw[g1,cond_false] at h;have hlen:=Ans g1
  match xs,ys,h,ox,oy,hlen with
  | [],ys,h,_,_,_=>
   simp only[Option.some.injEq] at h;refine⟨λg2=>go 300 ?_,λg2=>absurd rfl (Bg g2)⟩;exact⟨trivial,rfl,rfl,rfl,BothV ([],ys,0),Wk.refl _,rfl,by rw[h]⟩
  |a::xs,[],h,_,_,_=>
   simp only[Option.some.injEq] at h;refine⟨λg2=>absurd (Aw g2) (by simp;omega),λg2=>go 300 ?_⟩;refine⟨λg3=>go 300 ?_,λg3=>absurd rfl (Bg g3)⟩;exact⟨trivial,rfl,rfl,rfl,BothV (a::xs,[],0),Wk.refl _,rfl,by rw[h]⟩
  | [a],[b],h,ox,oy,_=>
   simp only[Option.some.injEq] at h;have cb:=Apn a b prior (ox a Ari).1 (oy b Ari).1 ⟨(ox a Ari).2,(oy b Ari).2⟩;rw[h] at cb;refine⟨λg2=>absurd (Aw g2) (by simp),λg2=>go 300 ?_⟩;refine⟨λg3=>absurd (Aw g3) (by simp),λg3=>go 300 ?_⟩;refine⟨λg4=>absurd (Au g4) (by simp),λg4=>go 300 ?_⟩;refine⟨λg5=>absurd (Au g5) (by simp),λg5=>go 300 ?_⟩;show Goes _ _ _ _;refine Ac [] 300 ⟨by decide,_,rfl,by decide,_,rfl,_,cb,rfl,?_⟩;refine⟨by kernel_rfl,?_⟩;exact⟨trivial,rfl,rfl,rfl,BothV R,Wk.refl _,rfl,rfl⟩
  |a::a'::xs,b::ys,h,ox,oy,hlen=>
   simp only at h;obtain⟨r1,h1⟩: ∃r1,bringF prior n [a] (b::ys)=r1:=⟨_,rfl⟩;rw[h1] at h
   match r1,h1,h with
   |none,_,h=>cases h
   |some (x1,y1,e1),h1,h=>
   simp only at h;have c1:=L0 prior n _ _ _ h1 ox.head oy;obtain⟨o1,o2⟩:=Gg prior n _ _ _ h1 ox.head oy;refine⟨λg2=>absurd (Aw g2) (by simp;omega),λg2=>go 300 ?_⟩;refine⟨λg3=>absurd (Aw g3) (by simp;omega),λg3=>go 300 ?_⟩;refine⟨λg4=>go 300 ?_,λg4=>absurd (Ah g4) (by simp;omega)⟩;refine⟨by decide,by decide,by simp;omega,?_⟩;show CallThen _ _ _ _ _ _;refine Aa c1 rfl ?_;rintro x rfl;refine⟨λg5=>go 300 ?_,λg5=>go 300 ?_⟩
   ·have g5:=A7 g5;rw[decide_eq_false g5] at h;simp only[Ash,cond_true,Option.some.injEq] at h;exact⟨trivial,rfl,rfl,rfl,bothZ' h.symm⟩
   have g5:=Bk g5;subst g5;simp only[decide_true,Arm,cond_false] at h;obtain⟨r2,h2⟩: ∃r2,bringF prior n (a'::xs) y1=r2:=⟨_,rfl⟩;rw[h2] at h
   match r2,h2,h with
   |none,_,h=>cases h
   |some (z,w,e2),h2,h=>
   simp only at h;have c2:=L0 prior n _ _ _ h2 ox.tail o2;refine⟨by decide,by simp only[Arf,Aq8];omega,Arr _,?_⟩;show CallThen _ _ _ _ _ _;refine Aa (Fx c2 ⟨Wk.of_eq (cut1 a (a'::xs)),.refl _,.refl _,trivial⟩ rfl rfl) rfl ?_;rintro x rfl;refine⟨λg6=>go 300 ?_,λg6=>go 300 ?_⟩
   ·have g6:=A7 g6;rw[decide_eq_false g6] at h;simp only[Ash,cond_true,Option.some.injEq] at h;exact⟨trivial,rfl,rfl,rfl,bothZ' h.symm⟩
   have g6:=Bk g6;subst g6;simp only[decide_true,Arm,cond_false] at h;have i1:=(Ck prior n _ _ _ _ h1).s;have i2:=(Ck prior n _ _ _ _ h2).s;simp only[Aq8,Arc] at i1 i2 hlen;refine⟨⟨rfl,rfl,trivial⟩,?_⟩;show CallThen _ _ _ _ _ _;refine C0 ?_;refine⟨rfl,rfl,_,Aal x1 z (by omega),rfl,?_⟩;rintro x rfl;refine⟨⟨rfl,rfl,trivial⟩,?_⟩;show CallThen _ _ _ _ _ _;refine C0 ?_;refine⟨rfl,rfl,_,Yh (x1++z) w,rfl,?_⟩;rintro x rfl;refine⟨λg7=>go 300 ?_,λg7=>go 300 ?_⟩
   ·have g7:muchP (x1++z) w=false:=by simpa using g7
    rw[g7] at h;simp only[cond_false,Option.some.injEq] at h;exact⟨trivial,rfl,rfl,rfl,BothV (x1++z,w,0),Wk.refl _,rfl,by rw[h]⟩
   ·have g7:muchP (x1++z) w=true:=by simpa using g7
    rw[g7] at h;simp only[cond_true,Option.some.injEq] at h;exact⟨trivial,rfl,rfl,rfl,bothZ' h.symm⟩
  | [a],b::b'::ys,h,ox,oy,hlen=>
   simp only at h;obtain⟨r1,h1⟩: ∃r1,bringF prior n [a] [b]=r1:=⟨_,rfl⟩;rw[h1] at h
   match r1,h1,h with
   |none,_,h=>cases h
   |some (x1,y1,e1),h1,h=>
   simp only at h;have c1:=L0 prior n _ _ _ h1 ox oy.head;obtain⟨o1,o2⟩:=Gg prior n _ _ _ h1 ox oy.head;refine⟨λg2=>absurd (Aw g2) (by simp),λg2=>go 300 ?_⟩;refine⟨λg3=>absurd (Aw g3) (by simp;omega),λg3=>go 300 ?_⟩;refine⟨λg4=>absurd (Au g4) (by simp),λg4=>go 300 ?_⟩;refine⟨λg4=>go 300 ?_,λg4=>absurd (Ah g4) (by simp;omega)⟩;refine⟨by decide,by decide,by simp;omega,?_⟩;show CallThen _ _ _ _ _ _;refine Aa c1 rfl ?_;rintro x rfl;refine⟨λg5=>go 300 ?_,λg5=>go 300 ?_⟩
   ·have g5:=A7 g5;rw[decide_eq_false g5] at h;simp only[Ash,cond_true,Option.some.injEq] at h;exact⟨trivial,rfl,rfl,rfl,bothZ' h.symm⟩
   have g5:=Bk g5;subst g5;simp only[decide_true,Arm,cond_false] at h;obtain⟨r2,h2⟩: ∃r2,bringF prior n x1 (b'::ys)=r2:=⟨_,rfl⟩;rw[h2] at h
   match r2,h2,h with
   |none,_,h=>cases h
   |some (z,w,e2),h2,h=>
   simp only at h;have c2:=L0 prior n _ _ _ h2 o1 oy.tail;refine⟨by decide,by simp only[Arf,Aq8];omega,Arr _,?_⟩;show CallThen _ _ _ _ _ _;refine Aa (Fx c2 ⟨.refl _,Wk.of_eq (cut1 b (b'::ys)),.refl _,trivial⟩ rfl rfl) rfl ?_;rintro x rfl;refine⟨λg6=>go 300 ?_,λg6=>go 300 ?_⟩
   ·have g6:=A7 g6;rw[decide_eq_false g6] at h;simp only[Ash,cond_true,Option.some.injEq] at h;exact⟨trivial,rfl,rfl,rfl,bothZ' h.symm⟩
   have g6:=Bk g6;subst g6;simp only[decide_true,Arm,cond_false] at h;have i1:=(Ck prior n _ _ _ _ h1).s;have i2:=(Ck prior n _ _ _ _ h2).s;simp only[Aq8,Arc] at i1 i2 hlen;refine⟨⟨rfl,rfl,trivial⟩,?_⟩;show CallThen _ _ _ _ _ _;refine C0 ?_;refine⟨rfl,rfl,_,Aal y1 w (by omega),rfl,?_⟩;rintro x rfl;refine⟨⟨rfl,rfl,trivial⟩,?_⟩;show CallThen _ _ _ _ _ _;refine C0 ?_;refine⟨rfl,rfl,_,Yh z (y1++w),rfl,?_⟩;rintro x rfl;refine⟨λg7=>go 300 ?_,λg7=>go 300 ?_⟩
   ·have g7:muchP z (y1++w)=false:=by simpa using g7
    rw[g7] at h;simp only[cond_false,Option.some.injEq] at h;exact⟨trivial,rfl,rfl,rfl,BothV (z,y1++w,0),Wk.refl _,rfl,by rw[h]⟩
   ·have g7:muchP z (y1++w)=true:=by simpa using g7
    rw[g7] at h;simp only[cond_true,Option.some.injEq] at h;exact⟨trivial,rfl,rfl,rfl,bothZ' h.symm⟩
theorem Gh (prior:Bool)(xs ys:List OpT):(bringX prior xs ys).1.length+ (bringX prior xs ys).2.1.length≤xs.length+ys.length:=by
 obtain⟨n,h⟩:=B4 prior xs ys;obtain⟨⟨x,y,e⟩,hr⟩: ∃r,bringX prior xs ys=r:=⟨_,rfl⟩;rw[hr] at h ⊢
 by_cases he:e=0
 ·subst he;exact(Ck prior n _ _ _ _ h).s
 ·obtain⟨q1,q2⟩:=Vm h he;simp only[q1,q2,Arc];omega
theorem Fg {prior:Bool}{xs ys:List OpT}(ox:OkL xs)(oy:OkL ys):OkL (bringX prior xs ys).1∧OkL (bringX prior xs ys).2.1:=by
 obtain⟨n,h⟩:=B4 prior xs ys;exact Gg prior n _ _ _ h ox oy
theorem Bj (l:List OpT):(bareL l).length=l.length:=by simp[bareL]
theorem By {l:List OpT}(h:OkL l):OkL (bareL l):=λo ho=>by
 obtain⟨o',h1,rfl⟩:=Ato.1 ho;refine⟨Hr (h o' h1).1,?_⟩;have:=(h o' h1).2;unfold bareO;cases o'.kind==1<;>cases o'.kind==2<;>cases o'.kind==3<;>cases o'.kind==4<;>cases o'.kind==5<;>cases o'.kind==6<;>simp[noOp]<;>omega
theorem Ae8 (xs ys:List OpT)(prior:Bool)(ox:OkL xs)(oy:OkL ys)(hl:xs.length+ys.length≤1000000):Pure Tryz.prog 77 [opsV xs,opsV ys,.bool prior] (λx=>x=BothV (listsX prior xs ys)):=by
 obtain⟨n,h⟩:=B4 prior xs ys;have cb:=L0 prior n xs ys _ h ox oy;have hi:=Gh prior xs ys;obtain⟨o1,o2⟩:=Fg (prior:=prior) ox oy;refine Ad 300 Tryz.func77 rfl rfl rfl λB=> ?_;show CallThen _ _ _ _ _ _;refine Aa cb rfl ?_;rintro x rfl;show CallThen _ _ _ _ _ _;refine Aa (Yg _ (by omega) (λo ho=>(o1 o ho).1.lt)) rfl ?_;rintro x rfl;show CallThen _ _ _ _ _ _;refine Aa (Yg _ (by omega) (λo ho=>(o2 o ho).1.lt)) rfl ?_;rintro x rfl;exact⟨trivial,rfl,rfl,rfl,rfl⟩
end Bow
namespace Bow
open Go Go.Proofs
end Bow
namespace Bow
open Go Go.Proofs
def sameL:List OpT->List OpT->Bool
 | [],[]=>true
 |a::x,b::y=>sameO a b&&sameL x y
 |_,_=>false
theorem Aam: ∀ {x y:List OpT},x.length≠y.length->sameL x y=false
 | [],[],h=>absurd rfl h
 | [],_::_,_=>rfl
 |_::_,[],_=>rfl
 |a::x,b::y,h=>by
  rw[sameL,Aam (x:=x) (y:=y) (λe=>h (by simp[e])),Atu]
theorem Aib {x y:List OpT}{i:Nat}(h:i<x.length)(h':i<y.length):sameL (x.drop i) (y.drop i)=(sameO x[i] y[i]&&sameL (x.drop (i+1)) (y.drop (i+1))):=by
 rw[Aru h,Aru h',sameL]
theorem An3 {l:List OpT}{i:Nat}(h:i<l.length):(l.map opV)[i]?=some (opV l[i]):=by simp[h]
theorem Ae9 (x y:List OpT)(hl:x.length≤1000000)(hx: ∀o∈x,o.Lt 1000000)(hy: ∀o∈y,o.Lt 1000000):Pure Tryz.prog 22 [opsV x,opsV y] (λv=>v=.bool (sameL x y)):=by
 refine Aj (Ad 300 Tryz.func22 rfl rfl rfl λB=> ?_);refine⟨λg=>go 300 ?_,λg=>go 300 ?_⟩
 ·have:=A7 g;exact⟨trivial,rfl,rfl,rfl,Ar (Aam λe=>this (by simp[e]))⟩
 have hlen:x.length=y.length:=by have:=Bk g;simp at this;omega
 show Goes _ _ _ _;refine Ak (ι:=Nat) (λi=>i≤x.length∧sameL x y=sameL (x.drop i) (y.drop i)) (λi=>x.length-i) (λi=>[(5,.int .i64 i),(0,opsV x),(1,opsV y)]) (λ_=>[]) 0 300 (λ_=>rfl) (λ_=>rfl) ⟨⟨Aq4 _,rfl⟩,Zq3,trivial⟩ ?_;rintro i ⟨k1,k2⟩ next;refine⟨λhlt=>go 300 ?_,λhge=>go 300 ?_⟩
 ·have hi:i<x.length:=by have:=Au hlt;simp at this;omega
  have hi':i<y.length:=by omega
  show Goes _ _ _ _;refine Ac [] 300 ⟨Aq5 i,_,An3 hi,Aq5 i,_,An3 hi',_,Ah3 x[i] y[i] (hx _ (Arq hi)) (hy _ (Arq hi')),rfl,?_⟩;rw[Aib hi hi'] at k2;refine⟨by kernel_rfl,?_⟩;refine⟨λg1=>go 300 ?_,λg1=>go 300 ?_⟩
  ·have g1:sameO x[i] y[i]=false:=by simpa using g1
   exact⟨trivial,rfl,rfl,rfl,Ar (by rw[k2,g1];rfl)⟩
  have g1:sameO x[i] y[i]=true:=by simpa using g1
  refine⟨by constructor<;>omega,?_⟩;show Goes _ _ _ _;refine next (i+1) _ _ ⟨⟨hi,by rw[k2,g1,Asb]⟩,by omega,Zq3,trivial⟩
 ·have hi:i=x.length:=by have:=Ah hge;simp at this;omega
  refine⟨trivial,rfl,rfl,rfl,Cu ?_⟩;rw[k2,At9 (by omega),At9 (by omega)];rfl
theorem Aic (o:OpT):sameO o o=true:=by
 unfold sameO eqO;simp
theorem Xe: ∀l:List OpT,sameL l l=true
 | []=>rfl
 |o::l=>by rw[sameL,Aic,Xe l];rfl
theorem Age {o:OpT}{a b:Nat}(h:o.Lt a)(hab:a≤b):o.Lt b:=⟨Ark h.path hab,Ark h.to hab,Ark h.label hab,Ark h.key hab,Ark h.value hab,Ark h.pieces hab⟩
theorem Ali {l:List OpT}{c:Nat}(h:LightL l c 60):OkL l:=λo ho=>by
 obtain⟨h1,h2⟩:=h.ops o ho;have:=h1.to;exact⟨⟨Age h1 (by decide),by omega⟩,by omega⟩
theorem Uh {a b z:OpT}(ha:a.Ok)(hb:b.Ok)(h:pairO a b=some (some z)):z.Ok:=by
 unfold pairO at h;cases h1: !busyO a|| !busyO b with
 |true=>rw[h1] at h;cases h
 |false=>
 rw[h1,cond_false] at h;cases h2:decide (a.kind=1)&&decide (a.path++ [a.at_]=b.path)&&decide (b.kind=2) with
 |true=>rw[h2] at h;simp at h
 |false=>
 rw[h2,cond_false] at h;cases h3:decide (a.kind=1)&&decide (a.path++ [a.at_]=b.path)&&decide (b.kind=5) with
 |true=>
  rw[h3,cond_true] at h;injection h with h
  injection h with h
  rw[←h];exact Hr ⟨⟨ha.lt.path,ha.lt.to,hb.lt.label,ha.lt.key,ha.lt.value,ha.lt.pieces⟩,ha.puts⟩
 |false=>
 rw[h3,cond_false] at h;cases h4: !decide (a.kind=b.kind)|| !decide (a.path=b.path) with
 |true=>rw[h4] at h;cases h
 |false=>
 rw[h4,cond_false] at h;cases h5:decide (a.kind=5) with
 |true=>
  rw[h5,cond_true] at h;injection h with h
  injection h with h
  rw[←h];exact Hr hb
 |false=>
 rw[h5,cond_false] at h;cases h6:decide (a.kind=4) with
 |true=>
  rw[h6,cond_true] at h;cases h7:decide (a.key=b.key) with
  |false=>rw[h7] at h;cases h
  |true=>
   rw[h7,cond_true] at h;injection h with h
   injection h with h
   rw[←h];exact Hr hb
 |false=>
 rw[h6,cond_false] at h;cases h7:decide (a.kind=6) with
 |false=>rw[h7] at h;cases h
 |true=>
 rw[h7,cond_true] at h;obtain⟨q1,q2⟩:=Tb (a:=a.pieces) (b:=b.pieces);cases h8: !decide ((composeP a.pieces b.pieces).2=0) with
 |true=>rw[h8] at h;cases h
 |false=>
 rw[h8,cond_false] at h;cases h9:decide ((composeP a.pieces b.pieces).1.length=0) with
 |true=>rw[h9] at h;simp at h
 |false=>
 rw[h9,cond_false] at h;injection h with h
 injection h with h
 rw[←h];exact Hr ⟨⟨hb.lt.path,hb.lt.to,hb.lt.label,hb.lt.key,hb.lt.value,q1⟩,q2⟩
def OkS (l:List OpT):Prop:= ∀o∈l,o.Ok
theorem OkS.cons {o:OpT}{l:List OpT}(h:o.Ok)(k:OkS l):OkS (o::l):=λz hz=>by
 rcases Arl.1 hz with rfl|hz
 ·exact h
 ·exact k z hz
theorem Aqc (l:List OpT)(hl:l.length≤1000000)(hok:OkS l):Fun Tryz.prog 76 [] [opsV l] (λx T'=> ∃g0,x=.osl (.loc 0) g0 0 ((listS l).map opV).length∧T'=[some (.vec g0 11 ((listS l).map opV))]):=by
 refine A9 1 rfl (Ay 60 Tryz.func76 rfl rfl rfl λimps B hi=> ?_);have:imps=[]:=Ard.1 hi;subst this;show Goes _ _ _ _;refine Dx 3 11 rfl ?_;refine Ak (ι:=Nat×Nat×List OpT) (λi=>i.1≤l.length∧listR (l.drop i.1) i.2.2=listR l []∧OkS i.2.2∧i.2.2.length≤i.1) (λi=>l.length-i.1)
  (λi=>[(11,.int .i64 i.1),(10,.int .i64 (l.map opV).length),(9,opsV l),(3,.osl (.loc 0) i.2.1 0 (i.2.2.reverse.map opV).length)]) (λi=>[some (.vec i.2.1 11 (i.2.2.reverse.map opV))]) (0,0,[]) 60 (λ_=>rfl) (λ_=>rfl)
  ⟨⟨Aq4 _,rfl,(λz hz=>by cases hz),Aq4 _⟩,Zq4,Zq1⟩ ?_
 rintro⟨i,g,s⟩ ⟨k1,k2,k3,k4⟩ next;simp only at k1 k2 k3 k4;refine⟨λhlt=>go 60 ?_,λhge=>go 60 ?_⟩
 rotate_left
 ·have hi:i=l.length:=by have:l.length≤i:=(by simpa using hge);omega
  subst hi;rw[At9 (Ara _),listR] at k2;have e:listS l=s.reverse:=by unfold listS;rw[←k2]
  rw[e];exact⟨trivial,rfl,rfl,[some (.vec g 11 (s.reverse.map opV))],rfl,rfl,Zq1,g,rfl,rfl⟩
 have hi:i<l.length:=by simpa using hlt
 have hx:(l.map opV)[i]?=some (opV l[i]):=by simp[hi]
 have hd:l.drop i=l[i]::l.drop (i+1):=Aru hi;have ho:=hok _ (Arq hi);rw[hd,listR] at k2;generalize l[i]=o at hx ho k2;have ci:=Akd o ho;have cb:=Hb o ho.lt;obtain⟨ib,hib⟩: ∃ib,idleO o=ib:=⟨_,rfl⟩;rw[hib] at ci k2;refine⟨Aq5 i,_,hx,?_⟩;show CallThen _ _ _ _ _ _;refine Aa ci rfl ?_;rintro x rfl;refine⟨λg1=>go 60 ?_,λg1=>go 60 ?_⟩
 ·have g1:ib=true:=g1;rw[g1,cond_true] at k2;refine⟨by constructor<;>omega,?_⟩;show Goes _ _ _ _;exact next (i+1,g,s) _ _ ⟨⟨hi,k2,k3,by simp only;omega⟩,by simp only;omega,Zq4,Zq1⟩
 have g1:ib=false:=g1;rw[g1,cond_false] at k2;show CallThen _ _ _ _ _ _;refine Aa cb rfl ?_;rintro x rfl;refine⟨⟨rfl,trivial⟩,rfl,rfl,rfl,rfl,Ark (Arg _ (show _≤1000001 by simp only[Arf,Au1,Aq8,Arc];omega)) (by decide),?_⟩;show Goes _ _ _ _;refine Ak (ι:=Nat×List OpT) (λj=>sqz j.2=pushO s (bareO o)∧OkS j.2∧j.2.length≤i+1) (λj=>j.2.length)
  (λj=>[(11,.int .i64 i),(10,.int .i64 (l.map opV).length),(9,opsV l),(3,.osl (.loc 0) j.1 0 (j.2.reverse.map opV).length)]) (λj=>[some (.vec j.1 11 (j.2.reverse.map opV))]) (bump g,bareO o::s) 60 (λ_=>rfl) (λ_=>rfl)
  ⟨⟨rfl,k3.cons (Hr ho),by simp only[Aq8];omega⟩,⟨⟨rfl,rfl⟩,⟨rfl,rfl⟩,⟨rfl,rfl⟩,⟨?_,rfl⟩,trivial⟩,⟨⟨?_,rfl⟩,trivial⟩⟩ ?_
 ·exact congrArg (V.osl (.loc 0) (bump g) 0) (by simp)
 ·exact congrArg (λz=>some (HObj.vec (bump g) 11 z)) (by simp;rfl)
 rintro⟨g2,r⟩ ⟨j1,j2,j3⟩ next2;simp only at j1 j2 j3;have done:sqz r=r-> ∀E T,envIs 1 E [(11,.int .i64 ((i+1:Nat):Int)),(10,.int .i64 (l.map opV).length),(9,opsV l),(3,.osl (.loc 0) g2 0 (r.reverse.map opV).length)]->heapIs 1 T [some (.vec g2 11 (r.reverse.map opV))]->Goes _ _ E T:=λe E T hE hT=>by
  have e2:pushO s (bareO o)=r:=j1.symm.trans e;rw[e2] at k2;exact next (i+1,g2,r) E T ⟨⟨hi,k2,j2,j3⟩,by simp only;omega,hE,hT⟩
 clear next
 match r,j1,j2,j3,next2,done with
 | [],j1,j2,j3,next2,done=>
  refine⟨rfl,?_⟩;refine⟨λq=>absurd (Au q) (by simp),λ_=>go 60 ?_⟩;refine⟨by constructor<;>omega,?_⟩;show Goes _ _ _ _;exact done rfl _ _ Zq4 Zq1
 | [x],j1,j2,j3,next2,done=>
  refine⟨rfl,?_⟩;refine⟨λq=>absurd (Au q) (by simp),λ_=>go 60 ?_⟩;refine⟨by constructor<;>omega,?_⟩;show Goes _ _ _ _;exact done rfl _ _ Zq4 Zq1
 |b::a::rest,j1,j2,j3,next2,done=>
  rw[Aop] at j1 done;have ha:=j2 a (by simp);have hb:=j2 b (by simp);have cp:=Aqb a b ha hb;have hz: ∀z,pairO a b=some (some z)->z.Ok:=λz=>Uh ha hb;have hrest:OkS rest:=λz hz=>j2 z (by simp[hz]);have hlen:(((b::a::rest).reverse.map opV).length:Int)=rest.length+2:=by simp
  have h0:((b::a::rest).reverse.map opV)[0+ ((((b::a::rest).reverse.map opV).length:Int)-2).toNat]?=some (opV a):=by
   rw[hlen];simp
  have h1:((b::a::rest).reverse.map opV)[0+ ((((b::a::rest).reverse.map opV).length:Int)-2+1).toNat]?=some (opV b):=by
   rw[hlen,show((rest.length:Int)+2-2+1).toNat=rest.length+1 by omega];simp
  generalize pairO a b=pr at cp j1 done hz;have hrl:rest.length+2≤i+1:=by simpa using j3
  have hcut:((b::a::rest).reverse.map opV).take rest.length=rest.reverse.map opV:=by
   simp
  have hcutl:rest.length=(((b::a::rest).reverse.map opV).take rest.length).length:=by rw[hcut];simp
  rcases pr with _|_|z
  all_goals
   refine⟨rfl,?_⟩;refine⟨λ_=>go 60 ?_,λq=>absurd (Ah q) (by rw[hlen];omega)⟩;refine⟨rfl,?_⟩;refine⟨by constructor<;>(rw[hlen];omega),?_⟩;show Goes _ _ _ _;refine Ac [] 60 ?_;refine⟨rfl,by rw[hlen];omega,by rw[hlen];omega,rfl,opV a,h0,?_⟩;refine⟨by constructor<;>(rw[hlen];omega),?_⟩;refine⟨rfl,by rw[hlen];omega,by rw[hlen];omega,rfl,opV b,h1,?_⟩;refine⟨_,cp,rfl,?_⟩;refine⟨by kernel_rfl,?_⟩
  ·refine⟨by constructor<;>omega,?_⟩;show Goes _ _ _ _;exact done rfl _ _ Zq4 Zq1
  ·show Goes _ _ _ _;refine L6 (h:=rest.length) 60 rfl rfl rfl rfl (congrArg (V.int .i64) (show(((b::a::rest).reverse.map opV).length:Int)-2=((rest.length:Nat):Int) by rw[hlen];omega)) rfl rfl rfl (by simp) ?_;refine⟨rfl,hcutl,Ark (Arg _ (show _≤1000001 by rw[hcut];simp only[Arf,Au1,Arc];omega)) (by decide),?_⟩;show Goes _ _ _ _;refine next2 (bump (bump g2),rest) _ _ ⟨⟨j1,hrest,by simp only;omega⟩,by simp only[Aq8];omega,⟨⟨rfl,rfl⟩,⟨rfl,rfl⟩,⟨rfl,rfl⟩,⟨?_,rfl⟩,trivial⟩,⟨⟨?_,rfl⟩,trivial⟩⟩
   ·exact congrArg (V.osl (.loc 0) (bump (bump g2)) 0) (by rw[hcut];simp)
   ·exact congrArg (λz=>some (HObj.vec (bump (bump g2)) 11 z)) (by rw[hcut];simp)
  ·show Goes _ _ _ _;refine L6 (h:=rest.length) 60 rfl rfl rfl rfl (congrArg (V.int .i64) (show(((b::a::rest).reverse.map opV).length:Int)-2=((rest.length:Nat):Int) by rw[hlen];omega)) rfl rfl rfl (by simp) ?_;refine⟨rfl,hcutl,Ark (Arg _ (show _≤1000001 by rw[hcut];simp only[Arf,Au1,Aq8,Arc];omega)) (by decide),?_⟩;show Goes _ _ _ _;refine next2 (bump (bump g2),z::rest) _ _ ⟨⟨j1,hrest.cons (hz z rfl),by simp only[Aq8];omega⟩,by simp only[Aq8];omega,⟨⟨rfl,rfl⟩,⟨rfl,rfl⟩,⟨rfl,rfl⟩,⟨?_,rfl⟩,trivial⟩,⟨⟨?_,rfl⟩,trivial⟩⟩
   ·exact congrArg (V.osl (.loc 0) (bump (bump g2)) 0) (by rw[hcut];simp)
   ·exact congrArg (λz=>some (HObj.vec (bump (bump g2)) 11 z)) (by rw[hcut];simp)
end Bow
namespace Bow
open Go Go.Proofs
open Go Go.Proofs
open Go Go.Proofs
end Bow
namespace Bow
open Go
theorem Ll (c:Chg): ∀(p q:List Int) (k:Int),c.nums q (p++ [k])=c.nums q p++ [c.number (q++p) k]
 | [],q,k=>by simp[Chg.nums]
 |j::p,q,k=>by
  rw[Arx,Chg.nums,Chg.nums,Ll c p (q++ [j]) k];simp
theorem Nd (p q:List Int)(k:Int):within p (q++ [k])=(within p q||decide (p=q++ [k])):=by
 unfold within
 by_cases h1:p.length≤q.length
 ·rw[As9 h1];have:p≠q++ [k]:=λe=>by rw[e] at h1;simp at h1;omega
  rw[decide_eq_false this,Avt]
 ·have hq:q.take p.length=q:=Ars (by omega);have h2:(q++ [k]).take p.length=q++ [k]:=Ars (by simp;omega);have:p≠q:=λe=>by rw[e] at h1;omega
  rw[hq,h2,decide_eq_false this,Aux]
theorem Nf {o:OpT}(h:movesO o=true):o.kind=1∨(o.kind=2∧o.path≠[])∨(o.kind=3∧o.path≠[]∧within o.path o.to=false):=by
 unfold movesO at h;rw[Aq6] at h;have h:=h.2
 by_cases h1:o.kind=1
 ·exact .inl h1
 ·rw[decide_eq_false h1,cond_false] at h
  by_cases h2:o.kind=2
  ·rw[decide_eq_true h2,cond_true] at h;exact .inr (.inl ⟨h2,λe=>by rw[e] at h;cases h⟩)
  ·rw[decide_eq_false h2,cond_false] at h
   by_cases h3:o.kind=3
   ·rw[decide_eq_true h3,cond_true,Aq6] at h;exact .inr (.inr ⟨h3,(λe=>(by rw[e] at h;cases h.1)),(by simpa using h.2)⟩)
   ·rw[decide_eq_false h3,cond_false] at h;cases h
def childR (o:OpT)(p:List Int)(k:Int):Option Int:=
 bif decide (o.kind=1) then some (bif decide (p=o.path)&&decide (o.at_≤k) then k+1 else k)
 else bif decide (p=o.path.dropLast)&&decide (k=lastP o.path) then none
 else some ((bif decide (p=o.path.dropLast)&&decide (lastP o.path<k) then k-1 else k)+ (bif decide (o.kind=3)&& (decide (p=o.to)&&decide (o.at_≤k)) then 1 else 0))
theorem G5 {p:List Int}(h:p≠[]):p.dropLast++ [lastP p]=p:=by
 rw[←Dc h];exact Atg h
theorem T7 {p q:List Int}(k:Int)(h:p≠[]):p=q++ [k] ↔q=p.dropLast∧k=lastP p:=by
 constructor
 ·intro e;subst e;simp[lastP]
 ·rintro⟨rfl,rfl⟩;exact(G5 h).symm
def nodeR (a:Option (List Int))(b:Option Int):Option (List Int):=
 match a,b with
 |some r,some n=>some (r++ [n])
 |_,_=>none
theorem Ai4 {o:OpT}(hm:movesO o=true)(q:List Int)(k:Int)(hne: ¬ (o.kind=3∧o.path=q++ [k])):nodeP o (q++ [k])=nodeR (nodeP o q) (childR o q k):=by
 unfold nodeP;rw[hm,Arm,cond_false,cond_false]
 rcases Nf hm with h1| ⟨h2,hn⟩| ⟨h3,hn,hw⟩
 ·have ht:(chgO o).takes=false:=by unfold chgO;simp[h1]
  have hc:childR o q k=some ((chgO o).number q k):=by
   unfold childR Chg.number chgO;rw[h1];simp only[decide_true,cond_true,Arm,Asy,cond_false,Asb,show decide ((1:Int)=2)=false from rfl,Ash]
   by_cases e1:q=o.path<;>by_cases e2:o.at_≤k<;>simp[e1,e2]
  rw[ht,Asy,Asy,cond_false,cond_false,Ll,hc,Ar9];rfl
 ·have ht:(chgO o).takes=true:=by unfold chgO;simp[h2]
  have hp:(chgO o).puts=false:=by unfold chgO;simp[h2]
  rw[ht,hp,Asb,Asb,Nd];cases hwq:within o.path q with
  |true=>rfl
  |false=>
   simp only[Aux,cond_false]
   by_cases e:o.path=q++ [k]
   ·rw[decide_eq_true e];obtain⟨e1,e2⟩:=(T7 k hn).1 e;have hc:childR o q k=none:=by
     unfold childR;rw[h2,decide_eq_true e1,decide_eq_true e2];rfl
    rw[hc];rfl
   ·rw[decide_eq_false e,cond_false,Ll,Ar9];have hnot: ¬ (q=o.path.dropLast∧k=lastP o.path):=λg=>e ((T7 k hn).2 g);have hc:childR o q k=some ((chgO o).number q k):=by
     unfold childR Chg.number chgO;rw[h2]
     by_cases e1:q=o.path.dropLast<;>by_cases e2:k=lastP o.path
     ·exact absurd ⟨e1,e2⟩ hnot
     ·by_cases e3:lastP o.path<k<;>simp[e1,e2,e3]
     ·simp[e1,e2]
     ·simp[e1,e2]
    rw[hc];rfl
 ·have ht:(chgO o).takes=true:=by unfold chgO;simp[h3]
  have hp:(chgO o).puts=true:=by unfold chgO;simp[h3]
  have e:o.path≠q++ [k]:=λe=>hne ⟨h3,e⟩;have hnot: ¬ (q=o.path.dropLast∧k=lastP o.path):=λg=>e ((T7 k hn).2 g);rw[ht,hp,Asb,Asb,Nd,decide_eq_false e,Avt];cases hwq:within o.path q with
  |true=>
   simp only[Arm,cond_false,cond_true];have hl:=Hm hwq;have e1:q≠o.path.dropLast:=λg=>by
    have:o.path.length≤o.path.dropLast.length:=g▸hl;have h0:=Arw.2 hn;simp at this;omega
   have e2:q≠o.to:=λg=>by rw[g,hw] at hwq;cases hwq
   have hc:childR o q k=some k:=by
    unfold childR;simp[h3,e1,e2]
   rw[hc,Atm hl];simp[nodeR]
  |false=>
   simp only[cond_false];rw[Ll,Ar9];have hc:childR o q k=some ((chgO o).number q k):=by
    unfold childR Chg.number chgO;rw[h3]
    by_cases e1:q=o.path.dropLast<;>by_cases e2:k=lastP o.path
    ·exact absurd ⟨e1,e2⟩ hnot
    all_goals by_cases e3:lastP o.path<k<;>by_cases e4:q=o.to<;>by_cases e5:o.at_≤k<;>simp_all
   rw[hc];rfl
theorem Agz {o:OpT}(hm:movesO o=true)(hk:o.kind=3):nodeP o o.path=some ((nodeP o o.to).getD []++ [bif decide (o.path.dropLast=o.to)&&decide (lastP o.path<o.at_) then o.at_-1 else o.at_]):=by
 rcases Nf hm with h1| ⟨h2,hn⟩| ⟨h3,hn,hw⟩
 ·omega
 ·omega
 ·have ht:(chgO o).takes=true:=by unfold chgO;simp[h3]
  have hp:(chgO o).puts=true:=by unfold chgO;simp[h3]
  have hpp:within o.path o.path=true:=by unfold within;simp
  unfold nodeP;rw[hm,ht,hp,hpp,hw];simp only[Arm,cond_false,Ast,cond_true,Atu,Aui,Asc,Ath,Option.some.injEq,Avu,List.cons.injEq,and_true];unfold Chg.land chgO;rw[h3]
  by_cases e1:o.path.dropLast=o.to<;>by_cases e2:lastP o.path<o.at_<;>simp[e1,e2]
theorem Vr {o:OpT}(p:List Int)(h:movesO o=false):nodeP o p=some p:=by
 unfold nodeP;rw[h];rfl
theorem Ai5 {o:OpT}:nodeP o []=some []:=by
 unfold nodeP;cases hm:movesO o with
 |false=>rfl
 |true=>
  simp only[Arm,cond_false];have:((chgO o).takes&&within o.path [])=false:=by
   rcases Nf hm with h1| ⟨h2,hn⟩| ⟨h3,hn,hw⟩
   ·unfold chgO;simp[h1]
   all_goals
    cases hp:o.path with
    |nil=>exact absurd hp hn
    |cons a l=>rw[Mz,Atu]
  rw[this];rfl
end Bow
namespace Bow
open Go Go.Proofs
end Bow
namespace Bow
open Go
def Later (l:List PieceT):Prop:= ∀p∈l,0<p.keep∧0≤p.drop
def RN:List PieceT->Prop
 | []=>True
 |p::l=>0≤p.keep∧0≤p.drop∧Later l
structure Mk.Rn (m:Mk):Prop where
 k:0≤m.keep
 l:RN m.l
theorem Ab6 {l:List PieceT}{p:PieceT}(h:Later l)(hp:0<p.keep∧0≤p.drop):Later (l++ [p]):=by
 intro q hq
 rcases Asi.1 hq with hq|hq
 ·exact h q hq
 ·rw[Ar5] at hq;exact hq▸hp
theorem Ai1 {l:List PieceT}{p:PieceT}(h:RN l)(hp:0<p.keep∧0≤p.drop):RN (l++ [p]):=by
 cases l with
 |nil=>exact⟨by omega,hp.2,by intro q hq;cases hq⟩
 |cons q l=>exact⟨h.1,h.2.1,Ab6 h.2.2 hp⟩
theorem Mk.last_rn {m:Mk}(h:m.Rn):m.last.Rn:=by
 unfold Mk.last;cases hk:decide (0<m.keep) with
 |true=>exact⟨Arr 0,Ai1 h.l ⟨of_decide_eq_true hk,Arr _⟩⟩
 |false=>
  cases hl:m.l with
  |nil=>exact⟨Arr 0,⟨h.k,Arr _,by intro q hq;cases hq⟩⟩
  |cons p l=>exact h
theorem Vp {f:PieceT->PieceT}(hf: ∀p,(f p).keep=p.keep)(hd: ∀p,0≤p.drop->0≤(f p).drop): ∀ {l:List PieceT},Later l->Later (modL f l)
 | [],h=>h
 | [p],h=>by
  intro q hq;rw[modL,Ar5] at hq;have:=h p Ari;rw[hq,hf];exact⟨this.1,hd _ this.2⟩
 |p::q::r,h=>by
  intro z hz;rw[modL] at hz
  rcases Arl.1 hz with rfl|hz
  ·exact h _ Ari
  ·exact Vp hf hd (λy hy=>h y (Are _ hy)) z hz
theorem Afp {f:PieceT->PieceT}(hf: ∀p,(f p).keep=p.keep)(hd: ∀p,0≤p.drop->0≤(f p).drop): ∀ {l:List PieceT},RN l->RN (modL f l)
 | [],h=>h
 | [p],h=>by
  rw[modL];exact⟨by rw[hf];exact h.1,hd _ h.2.1,h.2.2⟩
 |p::q::r,h=>⟨h.1,h.2.1,Vp hf hd h.2.2⟩
theorem Mk.put_rn {m:Mk}(s:List UInt8)(h:m.Rn):(m.put s).Rn:=by
 unfold Mk.put;cases s.isEmpty with
 |true=>exact h
 |false=>exact⟨(Mk.last_rn h).k,Afp (f:=λp=> {p with put:=p.put++s}) (λ_=>rfl) (λ_ h=>h) (Mk.last_rn h).l⟩
theorem Mk.drop_rn {m:Mk}(n:Int)(h:m.Rn):(m.drop n).Rn:=by
 unfold Mk.drop;cases hn:decide (0<n) with
 |false=>exact h
 |true=>exact⟨(Mk.last_rn h).k,Afp (f:=λp=> {p with drop:=p.drop+n}) (λ_=>rfl) (λp h=>by have:=of_decide_eq_true hn;show 0≤p.drop+n;omega) (Mk.last_rn h).l⟩
theorem Mk.piece_rn {m:Mk}{p:PieceT}(h:m.Rn)(hp:p.Nn):(m.piece p).Rn:=
 Mk.drop_rn _ (Mk.put_rn _ ⟨by have:=h.k;have:=hp.k;show 0≤m.keep+p.keep;omega,h.l⟩)
theorem Ab7: ∀ {l:List PieceT} {m:Mk},m.Rn->(∀p∈l,p.Nn)->(l.foldl Mk.piece m).Rn
 | [],_,h,_=>h
 |p::l,m,h,hl=>Ab7 (l:=l) (m:=m.piece p) (Mk.piece_rn h (hl p Ari)) (λq hq=>hl q (Are _ hq))
theorem Hl {l:List PieceT}(h:rightP l=true):RN (normP l):=(Ab7 (m:=⟨[],0⟩) ⟨Arr 0,trivial⟩ (Ch h).1).l
def Run (n:Int)(d s:Bool)(r:List PieceT):Prop:=
 (s=false∧d=false∧n=0∧r=[])∨(s=true∧0<n∧ ∃p l,r=p::l∧0≤p.drop∧Later l∧((d=false∧n=p.keep)∨(d=true∧p.keep=0∧p.put=[]∧n=p.drop)))
def Clean:List PieceT->Prop
 | []=>True
 |p::_=>p.keep≤0->p.put=[]
theorem Mr {r:List PieceT}(h:RN r):RN (rowPut r).2∧Clean (rowPut r).2∧extN (rowPut r).2=extN r:=by
 cases r with
 |nil=>exact⟨trivial,trivial,rfl⟩
 |cons p l=>
  rw[rowPut];cases hk:decide (0<p.keep) with
  |true=>exact⟨h,λg=>absurd (of_decide_eq_true hk) (by omega),rfl⟩
  |false=>
   cases hp:p.put.isEmpty with
   |true=>exact⟨h,λ_=>Auw.1 hp,rfl⟩
   |false=>exact⟨h,λ_=>rfl,rfl⟩
theorem Qi {r:List PieceT}(h:RN r)(hc:Clean r):Run (rowRun r).1.1 (rowRun r).1.2.1 (rowRun r).1.2.2 (rowRun r).2∧extN (rowRun r).2=extN r:=by
 cases r with
 |nil=>exact⟨.inl ⟨rfl,rfl,rfl,rfl⟩,rfl⟩
 |cons p l=>
  obtain⟨h1,h2,h3⟩:=h;rw[rowRun];cases hk:decide (0<p.keep) with
  |true=>exact⟨.inr ⟨rfl,of_decide_eq_true hk,p,l,rfl,h2,h3,.inl ⟨rfl,rfl⟩⟩,rfl⟩
  |false=>
   have hk:=of_decide_eq_false hk;cases hd:decide (0<p.drop) with
   |true=>exact⟨.inr ⟨rfl,of_decide_eq_true hd,p,l,rfl,h2,h3,.inr ⟨rfl,by omega,hc (by omega),rfl⟩⟩,rfl⟩
   |false=>
    have hd:=of_decide_eq_false hd;rw[cond_false,cond_false];have e:extN (p::l)=extN l:=by rw[extN];omega
    rw[e];cases l with
    |nil=>exact⟨.inl ⟨rfl,rfl,rfl,rfl⟩,rfl⟩
    |cons q m=>
     have hq:=h3 q Ari;rw[rowRun,decide_eq_true hq.1];exact⟨.inr ⟨rfl,hq.1,q,m,rfl,hq.2,λz hz=>h3 z (Are _ hz),.inl ⟨rfl,rfl⟩⟩,rfl⟩
theorem Run.put {n:Int}{d s:Bool}{r:List PieceT}(h:Run n d s r):rowPut r=([],r):=by
 rcases h with⟨_,_,_,rfl⟩| ⟨_,hn,p,l,rfl,_,_,⟨_,rfl⟩| ⟨_,hk,hp,_⟩⟩
 ·rfl
 ·rw[rowPut,decide_eq_true hn];rfl
 ·rw[rowPut,hp];simp
theorem Run.run {n:Int}{d s:Bool}{r:List PieceT}(h:Run n d s r):rowRun r=((n,d,s),r):=by
 rcases h with⟨rfl,rfl,rfl,rfl⟩| ⟨rfl,hn,p,l,rfl,_,_,⟨rfl,rfl⟩| ⟨rfl,hk,hp,rfl⟩⟩
 ·rfl
 ·rw[rowRun,decide_eq_true hn];rfl
 ·rw[rowRun,decide_eq_false (by omega: ¬0<p.keep),decide_eq_true hn];rfl
theorem Run.take {n j:Int}{d s:Bool}{r:List PieceT}(h:Run n d s r)(_:0≤j)(hs:s=true->j<n):Run (bif s then n-j else 0) d s (rowTake j r):=by
 rcases h with⟨rfl,rfl,rfl,rfl⟩| ⟨rfl,hn,p,l,rfl,hd,hl,⟨rfl,rfl⟩| ⟨rfl,hk,hp,rfl⟩⟩
 ·exact .inl ⟨rfl,rfl,rfl,rfl⟩
 ·have:=hs rfl;rw[rowTake,decide_eq_true hn];exact .inr ⟨rfl,by rw[cond_true];omega,_,l,rfl,hd,hl,.inl ⟨rfl,rfl⟩⟩
 ·have:=hs rfl;rw[rowTake,decide_eq_false (by omega: ¬0<p.keep)];exact .inr ⟨rfl,by rw[cond_true];omega,_,l,rfl,by show 0≤p.drop-j;omega,hl,.inr ⟨rfl,hk,hp,rfl⟩⟩
theorem Run.take_take {n j:Int}{d s:Bool}{r:List PieceT}(h:Run n d s r)(_:0≤j)(hs:s=true->j<n):rowTake 1 (rowTake j r)=rowTake (j+1) r:=by
 rcases h with⟨rfl,rfl,rfl,rfl⟩| ⟨rfl,hn,p,l,rfl,hd,hl,⟨rfl,rfl⟩| ⟨rfl,hk,hp,rfl⟩⟩
 ·rfl
 ·have:=hs rfl;rw[rowTake,decide_eq_true hn,cond_true,rowTake,decide_eq_true (by show 0<p.keep-j;omega),cond_true,rowTake,decide_eq_true hn,cond_true,show p.keep-j-1=p.keep- (j+1) by omega]
 ·have:=hs rfl;have e:decide (0<p.keep)=false:=decide_eq_false (by omega);rw[rowTake,e,cond_false,rowTake,e,cond_false,rowTake,e,cond_false,show p.drop-j-1=p.drop- (j+1) by omega]
theorem Run.rn {n j:Int}{d s:Bool}{r:List PieceT}(h:Run n d s r)(hj:0≤j)(hs:s=true->j≤n):RN (rowTake j r)∧extN (rowTake j r)=extN r- (bif s then j.toNat else 0)∧(s=true->n.toNat≤extN r)∧(s=false->extN r=0):=by
 rcases h with⟨rfl,rfl,rfl,rfl⟩| ⟨rfl,hn,p,l,rfl,hd,hl,⟨rfl,rfl⟩| ⟨rfl,hk,hp,rfl⟩⟩
 ·exact⟨trivial,rfl,(λg=>(by cases g)),(λ_=>rfl)⟩
 ·have:=hs rfl;rw[rowTake,decide_eq_true hn];refine⟨⟨by show 0≤p.keep-j;omega,hd,hl⟩,?_,(λ_=> ?_),(λg=>(by cases g))⟩
  ·simp only[cond_true,extN];omega
  ·simp only[extN];omega
 ·have:=hs rfl;rw[rowTake,decide_eq_false (by omega: ¬0<p.keep)];refine⟨⟨by show 0≤p.keep;omega,by show 0≤p.drop-j;omega,hl⟩,?_,(λ_=> ?_),(λg=>(by cases g))⟩
  ·simp only[cond_false,cond_true,extN];omega
  ·simp only[extN];omega
def dX (m:Mk)(n:Int)(mine other:Bool):Mk:=bif other then m else bif mine then m.drop n else m.kept n
theorem Ny (s:Tr)(n:Int)(d g:Bool):s.does n d g=⟨s.p,s.q,dX s.x n d g,dX s.y n g d⟩:=by
 cases d<;>cases g<;>rfl
theorem Qj (f g:PieceT->PieceT): ∀l:List PieceT,modL f (modL g l)=modL (λp=>f (g p)) l
 | []=>rfl
 | [p]=>rfl
 | [p,q]=>rfl
 |p::q::r::l=>by
  have ih:=Qj f g (q::r::l);simp only[modL] at ih ⊢;rw[ih]
theorem Mk.last_done (m:Mk): ¬0<m.last.keep∧m.last.l≠[]:=by
 refine⟨?_,m.last_ne⟩;unfold Mk.last;cases h:decide (0<m.keep)||m.l.isEmpty with
 |true=>simp
 |false=>
  rw[Asw] at h;exact of_decide_eq_false h.1
theorem Mk.last_of {m:Mk}(h1: ¬0<m.keep)(h2:m.l≠[]):m.last=m:=by
 unfold Mk.last;rw[decide_eq_false h1];cases h:m.l with
 |nil=>exact absurd h h2
 |cons p l=>rfl
theorem drop_drop (m:Mk){j:Int}(hj:0<j):(m.drop j).drop 1=m.drop (j+1):=by
 obtain⟨h1,h2⟩:=m.last_done;unfold Mk.drop;rw[decide_eq_true hj,decide_eq_true (by omega:(0:Int)<j+1),cond_true,cond_true];rw[Mk.last_of (m:=⟨modL (λp=> {p with drop:=p.drop+j}) m.last.l,m.last.keep⟩) h1 (Afl h2)];simp only[Qj];simp only[show(decide ((0:Int)<1))=true from rfl,cond_true,Int.add_assoc]
theorem Anv (m:Mk){j:Int}(hj:0<j)(d g:Bool):dX (dX m j d g) 1 d g=dX m (j+1) d g:=by
 cases g with
 |true=>rfl
 |false=>
  cases d with
  |true=>exact drop_drop m hj
  |false=>
   unfold dX Mk.kept;simp only[cond_false,Int.add_assoc]
theorem Lv (m:Mk):m.put []=m:=rfl
theorem Ku (m:Mk):m.kept 0=m:=by
 unfold Mk.kept;rw[At1]
def Tr.one (prior:Bool)(s:Tr):Tr:=
 match s.puts prior with
 | ⟨p,q,x,y⟩=>Tr.does ⟨rowTake 1 (rowRun p).2,rowTake 1 (rowRun q).2,x,y⟩ 1 (rowRun p).1.2.1 (rowRun q).1.2.1
def Tr.bytes (prior:Bool):Nat->Tr->Tr
 |0,s=>s
 |k+1,s=>Tr.bytes prior k (s.one prior)
theorem Qk (prior:Bool): ∀(j k:Nat) (s:Tr),Tr.bytes prior (j+k) s=Tr.bytes prior k (Tr.bytes prior j s)
 |0,k,s=>by rw[Ary];rfl
 |j+1,k,s=>by rw[Nat.succ_add];exact Qk prior j k (s.one prior)
theorem Ab8 {prior:Bool}{p q:List PieceT}{x y:Mk}(hp:rowPut p=([],p))(hq:rowPut q=([],q)):Tr.puts prior ⟨p,q,x,y⟩=⟨p,q,x,y⟩:=by
 unfold Tr.puts;simp only[hp,hq];cases prior<;>simp[Lv,Ku]
theorem Y8 {prior:Bool}{s:Tr}{p q p' q':List PieceT}{x y:Mk}{na nb:Int}{d g sa sb:Bool}(h1:s.puts prior=⟨p,q,x,y⟩)(h2:rowRun p=((na,d,sa),p'))(h3:rowRun q=((nb,g,sb),q'))(h4:Run na d sa p')(h5:Run nb g sb q'):
  ∀j:Nat,(sa=true->(j:Int)+1≤na)->(sb=true->(j:Int)+1≤nb)->Tr.bytes prior (j+1) s=Tr.does ⟨rowTake (j+1:Nat) p',rowTake (j+1:Nat) q',x,y⟩ (j+1:Nat) d g
 |0,_,_=>by
  show s.one prior=_;unfold Tr.one;rw[h1];simp only[h2,h3];rfl
 |j+1,ha,hb=>by
  rw[Qk prior (j+1) 1,Y8 h1 h2 h3 h4 h5 j (λe=>by have:=ha e;omega) (λe=>by have:=hb e;omega)];have ja:sa=true->((j+1:Nat):Int)<na:=λe=>by have:=ha e;omega
  have jb:sb=true->((j+1:Nat):Int)<nb:=λe=>by have:=hb e;omega
  have ka:=h4.take (Aq5 (j+1)) ja;have kb:=h5.take (Aq5 (j+1)) jb;rw[Ny];show Tr.one prior _=_;unfold Tr.one;rw[Ab8 ka.put kb.put];simp only[ka.run,kb.run];rw[Ny,Ny,h4.take_take (Aq5 (j+1)) ja,h5.take_take (Aq5 (j+1)) jb];simp only;rw[Anv x (by omega),Anv y (by omega)];rfl
theorem Y9 {prior:Bool}: ∀(k:Nat) (x y:Mk),(Tr.bytes prior k ⟨[],[],x,y⟩).x.l=x.l∧(Tr.bytes prior k ⟨[],[],x,y⟩).y.l=y.l
 |0,_,_=>⟨rfl,rfl⟩
 |k+1,x,y=>by
  have e:Tr.one prior ⟨[],[],x,y⟩=⟨[],[],x.kept 1,y.kept 1⟩:=by
   unfold Tr.one;rw[Ab8 rfl rfl];rfl
  show(Tr.bytes prior k (Tr.one prior ⟨[],[],x,y⟩)).x.l=_∧(Tr.bytes prior k (Tr.one prior ⟨[],[],x,y⟩)).y.l=_;rw[e];exact Y9 k _ _
theorem Ai2 (prior:Bool)(s:Tr):(s.puts prior).p=(rowPut s.p).2∧(s.puts prior).q=(rowPut s.q).2:=by
 unfold Tr.puts;cases prior<;>exact⟨rfl,rfl⟩
theorem Ab9 (prior:Bool): ∀(f:Nat) (s:Tr) (k:Nat),RN s.p->RN s.q->extN s.p+extN s.q<f->extN s.p<k->extN s.q<k->
  (Tr.go prior f s).x.l=(Tr.bytes prior k s).x.l∧(Tr.go prior f s).y.l=(Tr.bytes prior k s).y.l
 |0,_,_,_,_,h,_,_=>absurd h (by omega)
 |f+1,s,k,hp,hq,hf,hk,hk'=>by
  obtain⟨p1,p2,p3⟩:=Mr hp;obtain⟨q1,q2,q3⟩:=Mr hq;obtain⟨e1,e2⟩:=Ai2 prior s;rw[Tr.go];cases hs:s.puts prior with
  |mk p q x y=>
   rw[hs] at e1 e2;simp only at e1 e2;subst e1 e2;obtain⟨r1,r2⟩:=Qi p1 p2;obtain⟨t1,t2⟩:=Qi q1 q2;cases ha:rowRun (rowPut s.p).2 with
   |mk a p'=>
    obtain⟨na,d,sa⟩:=a;cases hb:rowRun (rowPut s.q).2 with
    |mk b q'=>
     obtain⟨nb,g,sb⟩:=b;rw[ha] at r1 r2;rw[hb] at t1 t2;simp only at r1 r2 t1 t2 ⊢;rw[T5 ha hb];cases hsab: !sa&& !sb with
     |true=>
      have hsa:sa=false:=by cases sa<;>simp_all
      have hsb:sb=false:=by cases sb<;>simp_all
      subst hsa hsb
      rcases r1 with⟨_,rfl,rfl,rfl⟩| ⟨g,_⟩
      ·rcases t1 with⟨_,rfl,rfl,rfl⟩| ⟨g,_⟩
       ·simp only[cond_true,cond_false];cases k with
        |zero=>omega
        |succ k=>
         have e:Tr.one prior s=⟨[],[],x.kept 1,y.kept 1⟩:=by
          unfold Tr.one;rw[hs];simp only[ha,hb];rfl
         show _=(Tr.bytes prior k (Tr.one prior s)).x.l∧_=(Tr.bytes prior k (Tr.one prior s)).y.l;rw[e];obtain⟨z1,z2⟩:=Y9 (prior:=prior) k (x.kept 1) (y.kept 1);exact⟨z1.symm,z2.symm⟩
       ·cases g
      ·cases g
     |false=>
      have hn: ∃n:Int,(bif !sa then nb else bif sb then min na nb else na)=n∧0<n∧(sa=true->n≤na)∧(sb=true->n≤nb):=by
       refine⟨_,rfl,?_⟩;have ra:sa=true->0<na:=λe=>by rcases r1 with⟨h,_⟩| ⟨_,h,_⟩;(· rw[e] at h;cases h);exact h
       have rb:sb=true->0<nb:=λe=>by rcases t1 with⟨h,_⟩| ⟨_,h,_⟩;(· rw[e] at h;cases h);exact h
       cases sa<;>cases sb<;>simp_all<;>omega
      obtain⟨n,hn,h0,h1,h2⟩:=hn;simp only[cond_false];rw[hn];simp only[cond_true];obtain⟨m,rfl⟩: ∃m:Nat,n=((m+1:Nat):Int):=⟨n.toNat-1,by omega⟩;obtain⟨u1,u2,u3,u4⟩:=r1.rn (j:=((m+1:Nat):Int)) (by omega) h1;obtain⟨v1,v2,v3,v4⟩:=t1.rn (j:=((m+1:Nat):Int)) (by omega) h2;have hb:=Y8 hs ha hb r1 t1 m (λe=>by have:=h1 e;omega) (λe=>by have:=h2 e;omega);have hmk:m+1<k:=by
       cases sa with
       |true=>have:=u3 rfl;have:=h1 rfl;omega
       |false=>
        cases sb with
        |true=>have:=v3 rfl;have:=h2 rfl;omega
        |false=>cases hsab
      obtain⟨k',rfl⟩: ∃k',k=(m+1)+k':=⟨k- (m+1),by omega⟩;rw[Qk,hb];refine Ab9 prior f _ k' ?_ ?_ ?_ ?_ ?_
      all_goals rw[Ny]
      ·exact u1
      ·exact v1
      all_goals simp only
      ·rw[u2,v2];cases sa with
       |true=>have:=u3 rfl;have:=h1 rfl;simp only[cond_true];cases sb<;>simp only[cond_true,cond_false]<;>omega
       |false=>
        cases sb with
        |true=>have:=v3 rfl;have:=h2 rfl;simp only[cond_true,cond_false];omega
        |false=>cases hsab
      ·rw[u2];cases sa with
       |true=>simp only[cond_true];omega
       |false=>have:=u4 rfl;simp only[cond_false];omega
      ·rw[v2];cases sb with
       |true=>simp only[cond_true];omega
       |false=>have:=v4 rfl;simp only[cond_false];omega
def putAt:List PieceT->Nat->List UInt8
 | [],_=>[]
 |p::l,i=>bif decide (i<p.keep.toNat) then [] else bif decide (i=p.keep.toNat) then p.put else bif decide (i<p.keep.toNat+p.drop.toNat) then [] else putAt l (i- (p.keep.toNat+p.drop.toNat))
def dropAt:List PieceT->Nat->Bool
 | [],_=>false
 |p::l,i=>bif decide (i<p.keep.toNat) then false else bif decide (i<p.keep.toNat+p.drop.toNat) then true else dropAt l (i- (p.keep.toNat+p.drop.toNat))
theorem O0 {l:List PieceT}(h:Later l):putAt l 0=[]:=by
 cases l with
 |nil=>rfl
 |cons p l=>
  have:=(h p Ari).1;rw[putAt,decide_eq_true (by omega)];rfl
def rowNext (r:List PieceT):List PieceT:=rowTake 1 (rowRun (rowPut r).2).2
theorem O1 {p:PieceT}{l:List PieceT}(h:0<p.keep)(i:Nat):putAt ({p with keep:=p.keep-1}::l) i=putAt (p::l) (i+1):=by
 rw[putAt,putAt];simp only;have e1:decide (i< (p.keep-1).toNat)=decide (i+1<p.keep.toNat):=by simp only[decide_eq_decide];omega
 have e2:decide (i=(p.keep-1).toNat)=decide (i+1=p.keep.toNat):=by simp only[decide_eq_decide];omega
 have e3:decide (i< (p.keep-1).toNat+p.drop.toNat)=decide (i+1<p.keep.toNat+p.drop.toNat):=by simp only[decide_eq_decide];omega
 have e4:i- ((p.keep-1).toNat+p.drop.toNat)=i+1- (p.keep.toNat+p.drop.toNat):=by omega
 rw[e1,e2,e3,e4]
theorem Nc {p:PieceT}{l:List PieceT}(h:0<p.keep)(i:Nat):dropAt ({p with keep:=p.keep-1}::l) i=dropAt (p::l) (i+1):=by
 rw[dropAt,dropAt];simp only;have e1:decide (i< (p.keep-1).toNat)=decide (i+1<p.keep.toNat):=by simp only[decide_eq_decide];omega
 have e3:decide (i< (p.keep-1).toNat+p.drop.toNat)=decide (i+1<p.keep.toNat+p.drop.toNat):=by simp only[decide_eq_decide];omega
 have e4:i- ((p.keep-1).toNat+p.drop.toNat)=i+1- (p.keep.toNat+p.drop.toNat):=by omega
 rw[e1,e3,e4]
theorem Ms {r:List PieceT}(h:RN r):(rowPut r).1=putAt r 0∧(rowRun (rowPut r).2).1.2.1=dropAt r 0∧RN (rowNext r)∧(∀i,putAt (rowNext r) i=putAt r (i+1))∧(∀i,dropAt (rowNext r) i=dropAt r (i+1)):=by
 cases r with
 |nil=>exact⟨rfl,rfl,trivial,λ_=>rfl,λ_=>rfl⟩
 |cons p l=>
  obtain⟨h1,h2,h3⟩:=h;unfold rowNext;rw[rowPut]
  by_cases hk:0<p.keep
  ·rw[decide_eq_true hk,Bool.true_or,cond_true];simp only;rw[rowRun,decide_eq_true hk,cond_true,rowTake,decide_eq_true hk,cond_true];refine⟨?_,?_,⟨by show 0≤p.keep-1;omega,h2,h3⟩,O1 hk,Nc hk⟩
   ·rw[putAt,decide_eq_true (by omega)];rfl
   ·rw[dropAt,decide_eq_true (by omega)];rfl
  ·have e:p.keep.toNat=0:=by omega
   have hc: ∃p',(bif decide (0<p.keep)||p.put.isEmpty then(([]:List UInt8),p::l) else(p.put, {p with put:=[]}::l))=(p.put,p'::l)∧p'.keep=p.keep∧p'.drop=p.drop∧p'.put=[]:=by
    rw[decide_eq_false hk,Aux];cases hp:p.put.isEmpty with
    |true=>
     have:=Auw.1 hp;exact⟨p,by rw[this];rfl,rfl,rfl,this⟩
    |false=>exact⟨{p with put:=[]},rfl,rfl,rfl,rfl⟩
   obtain⟨p',hc,c1,c2,c3⟩:=hc;rw[hc];simp only;have p0:p.put=putAt (p::l) 0:=by rw[putAt,e];rfl
   rw[rowRun,decide_eq_false (by rw[c1];exact hk),cond_false,c2]
   by_cases hd:0<p.drop
   ·rw[decide_eq_true hd,cond_true,rowTake,decide_eq_false (by rw[c1];exact hk),cond_false];refine⟨p0,?_,⟨by show 0≤p'.keep;omega,by show 0≤p'.drop-1;omega,h3⟩,λi=> ?_,λi=> ?_⟩
    ·rw[dropAt,e,decide_eq_false (by omega),decide_eq_true (by omega)];rfl
    ·rw[putAt,putAt];simp only[c1,c2,e];rw[decide_eq_false (by omega: ¬i<0),decide_eq_false (by omega: ¬i+1<0),cond_false,cond_false,decide_eq_false (by omega: ¬i+1=0),cond_false];have e3:decide (i<0+ (p.drop-1).toNat)=decide (i+1<0+p.drop.toNat):=by simp only[decide_eq_decide];omega
     have e4:i- (0+ (p.drop-1).toNat)=i+1- (0+p.drop.toNat):=by omega
     rw[e3,e4]
     by_cases hi:i=0
     ·subst hi;rw[decide_eq_true rfl,cond_true,c3]
      by_cases h5:p.drop=1
      ·rw[h5];exact(O0 h3).symm
      ·rw[decide_eq_true (by omega),cond_true]
     ·rw[decide_eq_false hi,cond_false]
    ·rw[dropAt,dropAt];simp only[c1,c2,e];rw[decide_eq_false (by omega: ¬i<0),decide_eq_false (by omega: ¬i+1<0),cond_false,cond_false];have e3:decide (i<0+ (p.drop-1).toNat)=decide (i+1<0+p.drop.toNat):=by simp only[decide_eq_decide];omega
     have e4:i- (0+ (p.drop-1).toNat)=i+1- (0+p.drop.toNat):=by omega
     rw[e3,e4]
   ·rw[decide_eq_false hd,cond_false];have f:p.drop.toNat=0:=by omega
    have up: ∀i,putAt (p::l) (i+1)=putAt l (i+1):=λi=>by
     rw[putAt,e,f,decide_eq_false (by omega: ¬i+1<0),decide_eq_false (by omega: ¬i+1=0)];rfl
    have ud: ∀i,dropAt (p::l) i=dropAt l i:=λi=>by
     rw[dropAt,e,f,decide_eq_false (by omega: ¬i<0)];rfl
    cases l with
    |nil=>exact⟨p0,by rw[ud];rfl,trivial,λi=>by rw[up];rfl,λi=>by rw[ud];rfl⟩
    |cons q m=>
     have hq:=h3 q Ari;rw[rowRun,decide_eq_true hq.1,cond_true,rowTake,decide_eq_true hq.1,cond_true];refine⟨p0,?_,⟨by show 0≤q.keep-1;omega,hq.2,λz hz=>h3 z (Are _ hz)⟩,λi=> ?_,λi=> ?_⟩
     ·rw[ud,dropAt,decide_eq_true (by omega)];rfl
     ·rw[up,O1 hq.1]
     ·rw[ud,Nc hq.1]
abbrev Pl:=List UInt8×Bool
def placeX (first:Bool)(a b:Pl)(m:Mk):Mk:=dX (bif first then(m.put a.1).kept b.1.length else(m.kept b.1.length).put a.1) 1 a.2 b.2
def placeP (first:Bool)(a b:Pl):List PieceT:=
 (bif first then [⟨0,0,a.1⟩,⟨b.1.length,0,[]⟩] else [⟨b.1.length,0,[]⟩,⟨0,0,a.1⟩])++ (bif b.2 then [] else bif a.2 then [⟨0,1,[]⟩] else [⟨1,0,[]⟩])
theorem Vq (first:Bool)(a b:Pl)(m:Mk):(placeP first a b).foldl Mk.piece m=placeX first a b m:=by
 have h1: ∀(m:Mk) (s:List UInt8),m.piece ⟨0,0,s⟩=m.put s:=λm s=>by
  unfold Mk.piece;rw[Ku];rfl
 have h2: ∀(m:Mk) (n:Int),m.piece ⟨n,0,[]⟩=m.kept n:=λm n=>rfl;have h3: ∀(m:Mk),m.piece ⟨0,1,[]⟩=m.drop 1:=λm=>by
  unfold Mk.piece;rw[Ku];rfl
 unfold placeP placeX;cases first<;>cases b.2<;>cases a.2<;>simp[h1,h2,h3,dX]
def placesP (first:Bool):List Pl->List Pl->List PieceT
 |a::va,b::vb=>placeP first a b++placesP first va vb
 |_,_=>[]
def viewP (l:List PieceT)(n:Nat):List Pl:=(List.range' 0 (n+1)).map λi=>(putAt l i,dropAt l i)
theorem Za {prior:Bool}{s:Tr}(hp:RN s.p)(hq:RN s.q):s.one prior=⟨rowNext s.p,rowNext s.q,placeX prior (putAt s.p 0,dropAt s.p 0) (putAt s.q 0,dropAt s.q 0) s.x,placeX (!prior) (putAt s.q 0,dropAt s.q 0) (putAt s.p 0,dropAt s.p 0) s.y⟩:=by
 obtain⟨a1,a2,a3,a4,a5⟩:=Ms hp;obtain⟨b1,b2,b3,b4,b5⟩:=Ms hq;unfold Tr.one Tr.puts;rw[←a1,←b1,←a2,←b2];cases prior<;>simp only[cond_true,cond_false,Ny]<;>rfl
theorem Ql {prior:Bool}: ∀(k:Nat) (s:Tr) (p q:List PieceT) (j:Nat),RN s.p->RN s.q->(∀i,putAt s.p i=putAt p (j+i))->(∀i,dropAt s.p i=dropAt p (j+i))->(∀i,putAt s.q i=putAt q (j+i))->(∀i,dropAt s.q i=dropAt q (j+i))->
  (Tr.bytes prior k s).x=(placesP prior ((List.range' j k).map λi=>(putAt p i,dropAt p i)) ((List.range' j k).map λi=>(putAt q i,dropAt q i))).foldl Mk.piece s.x∧
  (Tr.bytes prior k s).y=(placesP (!prior) ((List.range' j k).map λi=>(putAt q i,dropAt q i)) ((List.range' j k).map λi=>(putAt p i,dropAt p i))).foldl Mk.piece s.y
 |0,_,_,_,_,_,_,_,_,_,_=>⟨rfl,rfl⟩
 |k+1,s,p,q,j,hp,hq,h1,h2,h3,h4=>by
  obtain⟨a1,a2,a3,a4,a5⟩:=Ms hp;obtain⟨b1,b2,b3,b4,b5⟩:=Ms hq;have ih:=Ql (prior:=prior) k (s.one prior) p q (j+1);rw[Za hp hq] at ih;simp only at ih;have ih:=ih a3 b3 (λi=>by rw[a4,h1];congr 1;omega) (λi=>by rw[a5,h2];congr 1;omega) (λi=>by rw[b4,h3];congr 1;omega) (λi=>by rw[b5,h4];congr 1;omega);rw[Av4,Asa,Asa,placesP,placesP,Ava,Ava,Vq,Vq];show(Tr.bytes prior k (s.one prior)).x=_∧(Tr.bytes prior k (s.one prior)).y=_;rw[Za hp hq];have e1:=h1 0;have e2:=h2 0;have e3:=h3 0;have e4:=h4 0;simp only[As1] at e1 e2 e3 e4;rw[e1,e2,e3,e4] at ih ⊢;exact ih
def transR (a b:List PieceT)(prior:Bool):List PieceT×List PieceT×Int:=
 bif !rightP a|| !rightP b then([],[],2)
 else match max (extN (normP a)) (extN (normP b)) with
  |n=>match normP (placesP prior (viewP (normP a) n) (viewP (normP b) n)),normP (placesP (!prior) (viewP (normP b) n) (viewP (normP a) n)) with
   |x,y=>bif !rightP x|| !rightP y then([],[],3) else(x,y,0)
theorem Ai3 (a b:List PieceT)(prior:Bool):transR a b prior=transP a b prior:=by
 unfold transR transP;cases h: !rightP a|| !rightP b with
 |true=>rfl
 |false=>
  rw[Asw] at h;have ra:rightP a=true:=by simpa using h.1
  have rb:rightP b=true:=by simpa using h.2
  simp only[cond_false];have g:=Ab9 prior (extN (normP a)+extN (normP b)+1) ⟨normP a,normP b,Mk.nil,Mk.nil⟩ (max (extN (normP a)) (extN (normP b))+1) (Hl ra) (Hl rb) (by simp only;omega) (by simp only;omega) (by simp only;omega);have p:=Ql (prior:=prior) (max (extN (normP a)) (extN (normP b))+1) ⟨normP a,normP b,Mk.nil,Mk.nil⟩ (normP a) (normP b) 0 (Hl ra) (Hl rb) (λi=>by rw[Ary]) (λi=>by rw[Ary]) (λi=>by rw[Ary]) (λi=>by rw[Ary]);cases hg:Tr.go prior (extN (normP a)+extN (normP b)+1) ⟨normP a,normP b,Mk.nil,Mk.nil⟩ with
  |mk p' q' x y=>
   rw[hg] at g;simp only at g ⊢;have e1:normP (placesP prior (viewP (normP a) (max (extN (normP a)) (extN (normP b)))) (viewP (normP b) (max (extN (normP a)) (extN (normP b)))))=x.l:=by
    rw[g.1,p.1];rfl
   have e2:normP (placesP (!prior) (viewP (normP b) (max (extN (normP a)) (extN (normP b)))) (viewP (normP a) (max (extN (normP a)) (extN (normP b)))))=y.l:=by
    rw[g.2,p.2];rfl
   rw[e1,e2]
theorem Mt (f:PieceT->PieceT): ∀(l:List PieceT) (x:PieceT),modL f (l++ [x])=l++ [f x]
 | [],_=>rfl
 | [_],_=>rfl
 |p::q::r,x=>by
  have ih:=Mt f (q::r) x;rw[Arx,Arx,modL,←Arx,ih];rfl
theorem Aca {f g:PieceT->PieceT}(h: ∀p,f p=g p)(l:List PieceT):modL f l=modL g l:=by
 rw[show f=g from funext h]
def addP (p q:PieceT):PieceT:= {q with put:=q.put++p.put,drop:=q.drop+p.drop}
theorem Vt {m:Mk}{p:PieceT}(hd:0≤p.drop)(h0: ¬ (p.put=[]∧p.drop=0)):m.piece p=⟨modL (addP p) (m.kept p.keep).last.l,(m.kept p.keep).last.keep⟩:=by
 unfold Mk.piece;generalize m.kept p.keep=K;obtain⟨d1,d2⟩:=K.last_done
 by_cases hp:p.put=[]
 ·have h1:0<p.drop:=by
   rcases Int.lt_or_eq_of_le hd with h|h
   ·exact h
   ·exact absurd ⟨hp,h.symm⟩ h0
  rw[hp,Lv];unfold Mk.drop;rw[decide_eq_true h1,cond_true]
  congr 1
  exact Aca (λq=>by unfold addP;rw[hp,Asc]) _
 ·have e:K.put p.put=⟨modL (λq=> {q with put:=q.put++p.put}) K.last.l,K.last.keep⟩:=by
   unfold Mk.put;cases hq:p.put with
   |nil=>exact absurd hq hp
   |cons a s=>rfl
  rw[e]
  by_cases h1:0<p.drop
  ·unfold Mk.drop;rw[decide_eq_true h1,cond_true];rw[Mk.last_of (m:=⟨modL (λq=> {q with put:=q.put++p.put}) K.last.l,K.last.keep⟩) d1 (Afl d2)];simp only[Qj];rfl
  ·have h2:p.drop=0:=by omega
   unfold Mk.drop;rw[decide_eq_false h1,cond_false]
   congr 1
   exact Aca (λq=>by unfold addP;rw[h2,At1]) _
theorem Vu {m:Mk}{p:PieceT}(h1:p.put=[])(h2:p.drop=0):m.piece p=⟨m.l,m.keep+p.keep⟩:=by
 unfold Mk.piece;rw[h1,Lv];unfold Mk.drop;rw[h2];rfl
theorem Ss {m:Mk}{p:PieceT}(hd:0≤p.drop)(h0: ¬ (p.put=[]∧p.drop=0))(hk:m.keep+p.keep=0)(hl:m.l≠[]):m.piece p=⟨modL (addP p) m.l,0⟩:=by
 rw[Vt hd h0];have e:(m.kept p.keep).last=m.kept p.keep:=Mk.last_of (by show ¬0<m.keep+p.keep;omega) hl;rw[e];show(⟨modL (addP p) m.l,m.keep+p.keep⟩:Mk)=_;rw[hk]
theorem Zb {m:Mk}{p:PieceT}(hd:0≤p.drop)(h0: ¬ (p.put=[]∧p.drop=0))(hk:0<m.keep+p.keep∨m.l=[]):m.piece p=⟨m.l++ [⟨m.keep+p.keep,p.drop,p.put⟩],0⟩:=by
 rw[Vt hd h0];have e:(m.kept p.keep).last=⟨m.l++ [⟨m.keep+p.keep,0,[]⟩],0⟩:=by
  unfold Mk.last Mk.kept;have:(decide (0<m.keep+p.keep)||m.l.isEmpty)=true:=by
   rcases hk with h|h
   ·simp[h]
   ·simp[h]
  simp only[this,cond_true]
 rw[e];simp only[Mt,addP,Ar9,Auu]
theorem Mu: ∀(l:List PieceT) (j:Nat),extN l≤j->dropAt l j=false
 | [],_,_=>rfl
 |p::l,j,h=>by
  rw[extN] at h;rw[dropAt,decide_eq_false (by omega: ¬j<p.keep.toNat),decide_eq_false (by omega: ¬j<p.keep.toNat+p.drop.toNat)];exact Mu l _ (by omega)
theorem Anw {l:List PieceT}(h:RN l): ∀p∈l,p.Nn:=by
 cases l with
 |nil=>intro p hp;cases hp
 |cons q l=>
  intro p hp
  rcases Arl.1 hp with rfl|hp
  ·exact⟨h.1,h.2.1⟩
  ·have:=h.2.2 p hp;exact⟨by omega,this.2⟩
theorem Ama (first:Bool)(a b:Pl):(∀p∈placeP first a b,p.Nn)∧(placeP first a b).length≤3∧sumW (placeP first a b)≤a.1.length+b.1.length+4:=by
 unfold placeP;cases first<;>cases b.2<;>cases a.2<;>refine⟨?_,by simp,by simp[sumW,PieceT.w];omega⟩<;>intro p hp<;>simp at hp<;>rcases hp with rfl|rfl|rfl<;>exact⟨by simp,by simp⟩
def sumL:List Pl->Nat
 | []=>0
 |a::l=>a.1.length+sumL l
theorem Qn (first:Bool): ∀(va vb:List Pl),(∀p∈placesP first va vb,p.Nn)∧(placesP first va vb).length≤3*va.length∧sumW (placesP first va vb)≤sumL va+sumL vb+4*va.length
 | [],vb=>by
  refine⟨(λp hp=>(by cases hp)),Aq4 _,?_⟩;show(0:Int)≤_;omega
 |_::_,[]=>by
  refine⟨(λp hp=>(by cases hp)),Aq4 _,?_⟩;show(0:Int)≤_;omega
 |a::va,b::vb=>by
  obtain⟨h1,h2,h3⟩:=Qn first va vb;obtain⟨g1,g2,g3⟩:=Ama first a b;refine⟨λp hp=> ?_,?_,?_⟩
  ·rw[placesP] at hp
   rcases Asi.1 hp with hp|hp
   ·exact g1 p hp
   ·exact h1 p hp
  ·rw[placesP,Arb,Aq8];omega
  ·rw[placesP,Nb,sumL,sumL,Aq8];omega
theorem Qo (l:List PieceT)(n:Nat):(viewP l n).length=n+1:=by simp[viewP]
end Bow
namespace Bow
open Go Go.Proofs
open Go Go.Proofs
open Go Go.Proofs
open Go Go.Proofs
end Bow
namespace Bow
open Go
noncomputable def thrG (prior:Bool):List OpT->List (List OpT)->List (List OpT)->List OpT×List (List OpT)×Int
 |bs,out,[]=>(bs,out,0)
 |bs,out,r::rows=>bif !decide ((listsX prior bs r).2.2=0) then([],[],(listsX prior bs r).2.2) else thrG prior (listsX prior bs r).1 (out++ [(listsX prior bs r).2.1]) rows
theorem Ai6 {prior:Bool}{bs:List OpT}{out rows:List (List OpT)}{i:Nat}(h:i<rows.length):thrG prior bs out (rows.drop i)=bif !decide ((listsX prior bs rows[i]).2.2=0) then([],[],(listsX prior bs rows[i]).2.2) else thrG prior (listsX prior bs rows[i]).1 (out++ [(listsX prior bs rows[i]).2.1]) (rows.drop (i+1)):=by
 rw[Aru h,thrG]
end Bow
namespace Bow
open Go Go.Proofs
end Bow
namespace Bow
open Go
section
variable {prior:Bool}
theorem Br.cons2 {a b b':OpT}{ys x1 y1 Z w:List OpT}(h1:Br prior [a] [b] x1 y1)(h2:Br prior x1 (b'::ys) Z w)(m1:muchP [a] (b::b'::ys)=false)(m2:muchP Z (y1++w)=false):Br prior [a] (b::b'::ys) Z (y1++w):=by
 obtain⟨n1,h1⟩:=h1;obtain⟨n2,h2⟩:=h2;refine⟨max n1 n2+1,?_⟩;rw[A0];unfold bringS;rw[m1,cond_false];simp only;rw[Eb h1 (Au3 _ _)];simp only[decide_true,Arm,cond_false];rw[Eb h2 (Auv _ _)];simp only[decide_true,Arm,cond_false];rw[m2];rfl
theorem Br.sum {xs ys x y:List OpT}(h:Br prior xs ys x y):x.length+y.length≤xs.length+ys.length:=by
 obtain⟨n,h⟩:=h;exact(Ck prior n _ _ _ _ h).s
theorem Em {x y:List OpT}(h:x.length+y.length≤4096):muchP x y=false:=Cs.2 ⟨by omega,by omega⟩
theorem Br.join: ∀(n:Nat) {cs us vs x p y q:List OpT},cs.length+us.length+vs.length≤4096->bringF prior n cs us=some (x,p,0)->Br prior x vs y q->Br prior cs (us++vs) y (p++q)
 |0,_,_,_,_,_,_,_,_,h,_=>by cases h
 |n+1,[],us,vs,x,p,y,q,hl,h1,h2=>by
  obtain⟨rfl,rfl⟩:=Br.nil_inv ⟨_,h1⟩;obtain⟨rfl,rfl⟩:=h2.nil_inv;exact Br.nil (Em (by simp at hl ⊢;omega))
 |n+1,c::cs,[],vs,x,p,y,q,hl,h1,h2=>by
  obtain⟨rfl,rfl⟩:=Br.nil2_inv ⟨_,h1⟩;exact h2
 |n+1,c::c'::cs,u::us,vs,x,p,y,q,hl,h1,h2=>by
  obtain⟨x1,y1,x2,k1,k2,rfl,_⟩:=H7 h1;obtain⟨s,b1,t,q1,q2,rfl⟩:=h2.split;have l1:=Br.sum ⟨n,k1⟩;have l2:=q1.sum;have l3:=Br.sum ⟨n,k2⟩;have l4:=q2.sum;simp only[Aq8,Arc] at hl l1 l2 l3 l4;have j1:=Br.join n (cs:=[c]) (us:=u::us) (vs:=vs) (by simp only[Aq8,Arc];omega) k1 q1;have j2:=Br.join n (cs:=c'::cs) (us:=y1) (vs:=b1) (by simp only[Aq8];omega) k2 q2;exact Br.cons j1 j2 (Em (x:=c::c'::cs) (y:=u::(us++vs)) (by simp only[Aq8,Arb];omega)) (Em (by simp only[Arb];omega))
 |n+1,[c],[u],[],x,p,y,q,hl,h1,h2=>by
  obtain⟨rfl,rfl⟩:=h2.nil2_inv;rw[Asc,Asc];exact⟨_,h1⟩
 |n+1,[c],[u],v::vs,x,p,y,q,hl,h1,h2=>by
  have l1:=Br.sum ⟨_,h1⟩;have l2:=h2.sum;simp only[Aq8,Arc] at hl l1 l2;exact Br.cons2 ⟨_,h1⟩ h2 (Em (by simp only[Aq8,Arc];omega)) (Em (by simp only[Arb];omega))
 |n+1,[c],u::u'::us,vs,x,p,y,q,hl,h1,h2=>by
  obtain⟨x1,y1,w,g1,g2,rfl,_⟩:=Md h1;have l1:=Br.sum ⟨_,g1⟩;have l2:=Br.sum ⟨_,g2⟩;have l3:=h2.sum;simp only[Aq8,Arc] at hl l1 l2 l3;have j:=Br.join n (cs:=x1) (us:=u'::us) (vs:=vs) (by simp only[Aq8];omega) g2 h2;have:=Br.cons2 ⟨_,g1⟩ j (Em (x:=[c]) (y:=u::u'::(us++vs)) (by simp only[Aq8,Arc,Arb];omega)) (Em (by simp only[Arb];omega));rw[Arz];exact this
theorem Ag0 (a b:OpT)(prior:Bool):bothX b a (!prior)=((bothX a b prior).2.1,(bothX a b prior).1,(bothX b a (!prior)).2.2)∧(decide ((bothX a b prior).2.2=0)=decide ((bothX b a (!prior)).2.2=0)):=by
 unfold bothX;rw[Att]
 by_cases h1:(behindX a b prior).2=0<;>by_cases h2:(behindX b a (!prior)).2=0<;>simp[h1,h2]
theorem Br.one_turn {a b:OpT}{x y:List OpT}(h:Br prior [a] [b] x y):Br (!prior) [b] [a] y x:=by
 obtain⟨n,h⟩:=h;cases n with
 |zero=>cases h
 |succ n=>
  have e:bringF prior (n+1) [a] [b]=some (bothX a b prior):=rfl;rw[e] at h;injection h with h
  refine⟨1,?_⟩;have e':bringF (!prior) 1 [b] [a]=some (bothX b a (!prior)):=rfl;rw[e'];obtain⟨t1,t2⟩:=Ag0 a b prior;rw[t1];rw[h] at t2 ⊢;simp only[decide_true] at t2;have:=of_decide_eq_true t2.symm;rw[this]
theorem Br.turn: ∀(n:Nat) {xs ys x y:List OpT},xs.length+ys.length≤4096->bringF prior n xs ys=some (x,y,0)->Br (!prior) ys xs y x
 |0,_,_,_,_,_,h=>by cases h
 |n+1,[],ys,x,y,hl,h=>by
  obtain⟨rfl,rfl⟩:=Br.nil_inv ⟨_,h⟩;exact Br.nil2 (Em (by simp at hl ⊢;omega))
 |n+1,a::xs,[],x,y,hl,h=>by
  obtain⟨rfl,rfl⟩:=Br.nil2_inv ⟨_,h⟩;exact Br.nil (Em (by simp at hl ⊢;omega))
 |n+1,[a],[b],x,y,hl,h=>Br.one_turn ⟨_,h⟩
 |n+1,a::a'::xs,b::ys,x,y,hl,h=>by
  obtain⟨x1,y1,z,h1,h2,rfl,_⟩:=H7 h;have l1:=Br.sum ⟨_,h1⟩;have l2:=Br.sum ⟨_,h2⟩;simp only[Aq8,Arc] at hl l1 l2;have t1:=Br.turn n (by simp only[Aq8,Arc];omega) h1;have t2:=Br.turn n (by simp only[Aq8];omega) h2;obtain⟨m,t1⟩:=t1;exact Br.join m (cs:=b::ys) (us:=[a]) (vs:=a'::xs) (by simp only[Aq8,Arc];omega) t1 t2
 |n+1,[a],b::b'::ys,x,y,hl,h=>by
  obtain⟨x1,y1,w,h1,h2,rfl,_⟩:=Md h;have l1:=Br.sum ⟨_,h1⟩;have l2:=Br.sum ⟨_,h2⟩;simp only[Aq8,Arc] at hl l1 l2;have t2:=Br.turn n (by simp only[Aq8];omega) h2;exact Br.cons (Br.one_turn ⟨_,h1⟩) t2 (Em (by simp only[Aq8,Arc];omega)) (Em (by simp only[Arb];omega))
end
theorem Aen {prior:Bool}{xs ys x y:List OpT}(hl:xs.length+ys.length≤4096)(h:bringX prior xs ys=(x,y,0)):bringX (!prior) ys xs=(y,x,0):=by
 obtain⟨n,hn⟩:=B4 prior xs ys;rw[h] at hn;obtain⟨m,hm⟩:=Br.turn n hl hn;exact Qm hm
theorem Aeo {prior:Bool}{xs ys:List OpT}(hl:xs.length+ys.length≤4096):
  decide ((listsX (!prior) ys xs).2.2=0)=decide ((listsX prior xs ys).2.2=0)∧((listsX prior xs ys).2.2=0->(listsX (!prior) ys xs).1=(listsX prior xs ys).2.1):=by
 have key: ∀(p:Bool) (us vs:List OpT),us.length+vs.length≤4096->(listsX p us vs).2.2=0->(listsX (!p) vs us).2.2=0∧(listsX (!p) vs us).1=(listsX p us vs).2.1:=λp us vs hl h=>by
  obtain⟨⟨x,y,e⟩,hr⟩: ∃r,bringX p us vs=r:=⟨_,rfl⟩;have he:e=0:=by
   unfold listsX at h;rw[hr] at h;exact h
  subst he;have ht:=Aen hl hr;unfold listsX;rw[ht,hr];exact⟨rfl,rfl⟩
 refine⟨decide_eq_decide.2 ⟨λh=> ?_,λh=>(key prior xs ys hl h).1⟩,λh=>(key prior xs ys hl h).2⟩;have:=(key (!prior) ys xs (by omega) h).1;rwa [Att] at this
theorem Aep (prior:Bool)(xs ys:List OpT):listsX prior (bareL xs) ys=listsX prior xs ys:=by
 obtain⟨n,h⟩:=B4 prior xs ys;obtain⟨r',h',q1,q2,q3⟩:=H6 prior n xs ys (bareL xs) ys _ (Vs xs) rfl h;have e:=Qm h';unfold listsX;rw[e];have b: ∀l:List OpT,bareL l=l.map bareO:=λl=>rfl;rw[b,b,b,b,q1,q2,q3]
end Bow
namespace Bow
open Go Go.Proofs
end Bow
namespace Bow
open Go
def appV:List Pl->List UInt8->List UInt8
 | [],t=>t
 |p::vs,[]=>p.1++appV vs []
 |p::vs,c::t=>p.1++ ((bif p.2 then [] else [c])++appV vs t)
def mergeV (first:Bool):List Pl->List Pl->List Pl
 |a::va,b::vb=>((bif first then a.1++b.1 else b.1++a.1),a.2||b.2)::mergeV first va vb
 |_,_=>[]
theorem V3 (first:Bool): ∀va vb:List Pl,mergeV first va vb=mergeV (!first) vb va
 | [],[]=>rfl
 | [],_::_=>rfl
 |_::_,[]=>rfl
 |a::va,b::vb=>by
  rw[mergeV,mergeV,V3 first va vb,Bool.or_comm];cases first<;>rfl
theorem Zm (s w:List UInt8)(l:List PieceT):editP (s++w) (⟨s.length,0,[]⟩::l)=s++editP w l:=by
 rw[editP];simp
theorem Acr (p w:List UInt8)(l:List PieceT):editP w (⟨0,0,p⟩::l)=p++editP w l:=by
 rw[editP];simp
theorem Ajk (d:Bool)(c:UInt8)(w:List UInt8)(l:List PieceT):editP (c::w) ((bif d then [⟨0,1,[]⟩] else [⟨1,0,[]⟩])++l)=(bif d then [] else [c])++editP w l:=by
 cases d<;>simp[editP]
theorem Amj (d:Bool)(l:List PieceT):editP [] ((bif d then [⟨0,1,[]⟩] else [⟨1,0,[]⟩])++l)=editP [] l:=by
 cases d<;>simp[editP]
theorem Sw (first:Bool): ∀(va vb:List Pl) (t:List UInt8),va.length=vb.length->vb.length≤t.length+1->editP (appV vb t) (placesP first va vb)=appV (mergeV first va vb) t
 | [],[],t,_,_=>by cases t<;>simp[placesP,mergeV,appV,editP]
 | [],_::_,_,h,_=>by simp at h
 |_::_,[],_,h,_=>by simp at h
 |a::va,b::vb,t,h,hl=>by
  rw[placesP,mergeV];have put: ∀(w:List UInt8) (l:List PieceT),editP (b.1++w) ((bif first then [⟨0,0,a.1⟩,⟨b.1.length,0,[]⟩] else [⟨b.1.length,0,[]⟩,⟨0,0,a.1⟩])++l)=(bif first then a.1++b.1 else b.1++a.1)++editP w l:=by
   intro w l;cases first
   ·simp only[cond_false,Arx,Ar9,Arz];rw[Zm,Acr]
   ·simp only[cond_true,Arx,Ar9,Arz];rw[Acr,Zm]
  unfold placeP;cases t with
  |nil=>
   have hvb:vb=[]:=by simpa using hl
   have hva:va=[]:=Ard.1 (by rw[hvb] at h;simpa using h);subst hvb;subst hva;rw[appV,appV,Arz,put];simp only[appV,mergeV,placesP];cases b.2 with
   |true=>simp[editP]
   |false=>simp only[cond_false];rw[Amj,editP]
  |cons c t=>
   have ih:=Sw first va vb t (by simpa using h) (by simp at hl ⊢;omega);rw[appV,appV,Arz,put]
   congr 1
   cases b.2 with
   |true=>simp only[cond_true,Ar9,Bool.or_true];exact ih
   |false=>simp only[cond_false,Avt,Arx,Ar9];rw[Ajk,ih]
def appF (f:Nat->Pl):List UInt8->List UInt8
 | []=>(f 0).1
 |c::t=>(f 0).1++ ((bif(f 0).2 then [] else [c])++appF (λi=>f (i+1)) t)
theorem X1: ∀(t:List UInt8) (f:Nat->Pl),(∀i,f i=([],false))->appF f t=t
 | [],f,h=>by rw[appF,h]
 |c::t,f,h=>by
  rw[appF,h,X1 t _ λi=>h (i+1)];rfl
theorem Ajl: ∀(n:Nat) (t:List UInt8) (f:Nat->Pl),n≤t.length->(∀i,n<i->f i=([],false))->appV ((List.range' 0 (n+1)).map f) t=appF f t
 |0,[],f,_,_=>by simp[appV,appF]
 |0,c::t,f,_,h=>by
  have e:=X1 t (λi=>f (i+1)) λi=>h (i+1) (by omega);rw[appF,e];simp[appV]
 |n+1,[],f,hl,_=>by simp at hl
 |n+1,c::t,f,hl,h=>by
  have ih:=Ajl n t (λi=>f (i+1)) (by simpa using hl) λi hi=>h (i+1) (by omega);have e:(List.range' 0 (n+1+1)).map f=f 0::(List.range' 0 (n+1)).map λi=>f (i+1):=by
   rw[Av4,Asa]
   congr 1
   have:List.range' (0+1) (n+1)=(List.range' 0 (n+1)).map (· +1):=by
    rw[show(λx:Nat=>x+1)=(λx=>1+x) from funext λx=>Auf x 1,List.map_add_range']
   rw[this,Avf];rfl
  rw[e,appV,appF,ih]
theorem Pd: ∀ {l:List PieceT},Later l->0≤extentP l
 | [],_=>Arr _
 |p::l,h=>by
  have:=Pd (l:=l) λq hq=>h q (by simp[hq]);have:=h p (by simp);rw[Bd];omega
def placesF (l:List PieceT)(i:Nat):Pl:=(putAt l i,dropAt l i)
theorem Zo {l:List PieceT}(hl:Later l)(ih: ∀t:List UInt8,extentP l≤t.length->editP t l=appF (placesF l) t): ∀(d:Nat) (s:List UInt8) (t:List UInt8),(d:Int)+extentP l≤t.length->0≤extentP l->editP t (⟨0,d,s⟩::l)=appF (placesF (⟨0,d,s⟩::l)) t
 |0,s,t,h,_=>by
  have e:=ih t (by simpa using h);have h0:=O0 hl;have hs: ∀i,placesF (⟨0,((0:Nat):Int),s⟩::l) (i+1)=placesF l (i+1):=λi=>by
   unfold placesF;rw[putAt,dropAt];simp
  have hz:placesF (⟨0,((0:Nat):Int),s⟩::l) 0=(s,dropAt l 0):=by
   unfold placesF;rw[putAt,dropAt];simp
  rw[editP];simp only[Int.toNat_zero,Avm,Ar9,Int.natCast_zero,At1,Atz];rw[e];cases t with
  |nil=>
   rw[appF,appF];have:(placesF (⟨0,0,s⟩::l) 0)=_:=hz;rw[this];show s++putAt l 0=s;rw[h0,Asc]
  |cons c t=>
   rw[appF,appF];have e1:(placesF (⟨0,0,s⟩::l) 0)=_:=hz;have e2:(λi=>placesF (⟨0,0,s⟩::l) (i+1))=λi=>placesF l (i+1):=funext hs;rw[e1,e2];show s++ (putAt l 0++_)=_;rw[h0,Ar9];rfl
 |d+1,s,[],h,h2=>by
  simp at h;omega
 |d+1,s,c::t,h,h2=>by
  have e:=Zo hl ih d [] t (by simp at h ⊢;omega) h2;have hz:placesF (⟨0,((d+1:Nat):Int),s⟩::l) 0=(s,true):=by
   unfold placesF;rw[putAt,dropAt];simp
  have hs:(λi=>placesF (⟨0,((d+1:Nat):Int),s⟩::l) (i+1))=placesF (⟨0,(d:Int),[]⟩::l):=funext λi=>by
   unfold placesF;rw[putAt,dropAt,putAt,dropAt]
   by_cases c1:i<d
   ·simp[c1]
   ·have:i+1- (d+1)=i-d:=by omega
    simp[c1]
    by_cases c2:i=0<;>simp_all[O0 hl]
  rw[appF,hz,hs,←e,editP,editP];simp
theorem Pe {l:List PieceT}(hl:Later l)(ih: ∀t:List UInt8,extentP l≤t.length->editP t l=appF (placesF l) t)(d:Nat)(s:List UInt8)(h2:0≤extentP l): ∀(k:Nat) (t:List UInt8),(k:Int)+d+extentP l≤t.length->editP t (⟨k,d,s⟩::l)=appF (placesF (⟨k,d,s⟩::l)) t
 |0,t,h=>Zo hl ih d s t (by omega) h2
 |k+1,[],h=>by
  simp at h;omega
 |k+1,c::t,h=>by
  have e:=Pe hl ih d s h2 k t (by simp at h ⊢;omega);have hz:placesF (⟨((k+1:Nat):Int),(d:Int),s⟩::l) 0=([],false):=by
   unfold placesF;rw[putAt,dropAt];simp
  have hs:(λi=>placesF (⟨((k+1:Nat):Int),(d:Int),s⟩::l) (i+1))=placesF (⟨(k:Int),(d:Int),s⟩::l):=funext λi=>by
   have h1:=O1 (p:=⟨((k+1:Nat):Int),(d:Int),s⟩) (l:=l) (show(0:Int)< ((k+1:Nat):Int) by omega) i;have h3:=Nc (p:=⟨((k+1:Nat):Int),(d:Int),s⟩) (l:=l) (show(0:Int)< ((k+1:Nat):Int) by omega) i;have e1:((k+1:Nat):Int)-1=(k:Int):=by omega
   simp only[e1] at h1 h3;unfold placesF;rw[←h1,←h3]
  rw[appF,hz,hs,←e,editP,editP];have e2:(((k+1:Nat):Int)+ (d:Int)).toNat=((k:Int)+ (d:Int)).toNat+1:=by omega
  simp only[e2,Au0];simp
theorem Acs: ∀(l:List PieceT) (t:List UInt8),Later l->extentP l≤t.length->editP t l=appF (placesF l) t
 | [],t,_,_=>by
  rw[editP,X1];intro i;rfl
 |p::l,t,hl,h=>by
  have hp:=hl p (by simp);have hl':Later l:=λq hq=>hl q (by simp[hq]);have hx:0≤extentP l:=Pd hl';obtain⟨k,d,s⟩:=p;simp only at hp;have e:=Pe hl' (λt h=>Acs l t hl' h) d.toNat s hx k.toNat t (by rw[Bd] at h;simp only at h;omega);rw[show((k.toNat:Nat):Int)=k by omega,show((d.toNat:Nat):Int)=d by omega] at e;exact e
theorem G8 {r r':List PieceT}(h: ∀t,editP t r=editP t r'): ∀(l:List PieceT) (t:List UInt8),editP t (l++r)=editP t (l++r')
 | [],t=>h t
 |p::l,t=>by rw[Arx,Arx,editP,editP,G8 h l]
theorem V4 (k:Int)(l:List PieceT)(t:List UInt8):editP t (l++ [⟨k,0,[]⟩])=editP t l:=by
 have:=G8 (r:=[⟨k,0,[]⟩]) (r':=[]) (λt=>by simp[editP]) l t;rwa [Asc] at this
theorem V5 {a b d:Int}(s:List UInt8)(w:List PieceT)(ha:0≤a)(hb:0≤b)(hd:0≤d)(t:List UInt8):editP t (⟨a,0,[]⟩::⟨b,d,s⟩::w)=editP t (⟨a+b,d,s⟩::w):=by
 rw[editP,editP,editP];simp only[Asc,At1];have e1:(a+b).toNat=a.toNat+b.toNat:=by omega
 have e2:(a+b+d).toNat=a.toNat+ (b+d).toNat:=by omega
 rw[e1,e2,List.take_add,Aud];simp only[Arz]
theorem Ky (w:List PieceT)(t:List UInt8):editP t (⟨0,0,[]⟩::w)=editP t w:=by
 rw[editP];simp
theorem Ajm {k d e:Int}(s p:List UInt8)(w:List PieceT)(hk:0≤k)(hd:0≤d)(he:0≤e)(t:List UInt8):editP t (⟨k,d,s⟩::⟨0,e,p⟩::w)=editP t (⟨k,d+e,s++p⟩::w):=by
 rw[editP,editP,editP];have e2:(k+ (d+e)).toNat=(k+d).toNat+ (0+e).toNat:=by omega
 simp only[e2,Aud,Int.toNat_zero,Avm,Ar9,Arz]
theorem V6 {m:Mk}{p:PieceT}(hm:m.Ok)(hp:p.Nn)(w:List PieceT)(t:List UInt8):editP t ((m.piece p).l++ ⟨(m.piece p).keep,0,[]⟩::w)=editP t (m.l++ ⟨m.keep,0,[]⟩::p::w):=by
 have mk:=hm.k;have pk:=hp.k;have pd:=hp.d
 by_cases h0:p.put=[]∧p.drop=0
 ·rw[Vu h0.1 h0.2];refine G8 (λt=> ?_) m.l t;obtain⟨k,d,s⟩:=p;simp only at h0;obtain⟨rfl,rfl⟩:=h0;exact(V5 [] w mk pk (Arr 0) t).symm
 ·by_cases hk:0<m.keep+p.keep∨m.l=[]
  ·rw[Zb pd h0 hk];simp only[Arz,Arx,Ar9];refine G8 (λt=> ?_) m.l t;rw[V5 _ _ mk pk pd,editP,Ky,←editP]
  ·have hk0:m.keep+p.keep=0:=by
    have: ¬0<m.keep+p.keep:=λc=>hk (.inl c);omega
   have hl0:m.l≠[]:=λc=>hk (.inr c);have k1:m.keep=0:=by omega
   have k2:p.keep=0:=by omega
   rw[Ss pd h0 hk0 hl0];obtain⟨l',q,hl⟩: ∃l' q,m.l=l'++ [q]:=⟨m.l.dropLast,m.l.getLast hl0,(Atg hl0).symm⟩;have hq:=hm.l q (by simp[hl]);rw[hl,Mt];simp only[Arz,Arx,Ar9];refine G8 (λt=> ?_) l' t;obtain⟨k,d,s⟩:=p;obtain⟨qk,qd,qs⟩:=q;simp only at k2 pd;subst k2;have e:=Ajm qs s w hq.k hq.d pd t;rw[k1];show editP t (⟨qk,qd+d,qs++s⟩::⟨0,0,[]⟩::w)=_;have e1:editP t (⟨qk,qd+d,qs++s⟩::⟨0,0,[]⟩::w)=editP t (⟨qk,qd+d,qs++s⟩::w):=G8 (r:=⟨0,0,[]⟩::w) (r':=w) (Ky w) [⟨qk,qd+d,qs++s⟩] t;have e2:editP t (⟨qk,qd,qs⟩::⟨0,0,[]⟩::⟨0,d,s⟩::w)=editP t (⟨qk,qd,qs⟩::⟨0,d,s⟩::w):=G8 (r:=⟨0,0,[]⟩::⟨0,d,s⟩::w) (r':=⟨0,d,s⟩::w) (Ky _) [⟨qk,qd,qs⟩] t;rw[e1,e2,e]
theorem Zp: ∀(l:List PieceT) (m:Mk) (t:List UInt8),m.Ok->(∀p∈l,p.Nn)->editP t (l.foldl Mk.piece m).l=editP t (m.l++ ⟨m.keep,0,[]⟩::l)
 | [],m,t,_,_=>(V4 m.keep m.l t).symm
 |p::l,m,t,hm,hl=>by
  rw[Au2,Zp l (m.piece p) t (Mk.piece_ok hm (hl p (by simp))).1 (λq hq=>hl q (by simp[hq])),V6 hm (hl p (by simp))]
theorem Iv {l:List PieceT}(h: ∀p∈l,p.Nn)(t:List UInt8):editP t (normP l)=editP t l:=by
 unfold normP;rw[Zp l Mk.nil t Mk.nil_ok h];exact Ky l t
theorem Je (l r:List PieceT):extentP (l++r)=extentP l+extentP r:=by
 induction l with
 |nil=>rw[Ar9];show _=0+_;omega
 |cons p l ih=>rw[Arx,Bd,Bd,ih];omega
theorem Zq {m:Mk}{p:PieceT}(hm:m.Ok)(hp:p.Nn):extentP (m.piece p).l+ (m.piece p).keep=extentP m.l+m.keep+p.keep+p.drop:=by
 have mk:=hm.k;have pk:=hp.k;have pd:=hp.d;have nil:extentP []=0:=rfl
 by_cases h0:p.put=[]∧p.drop=0
 ·rw[Vu h0.1 h0.2];simp only;omega
 ·by_cases hk:0<m.keep+p.keep∨m.l=[]
  ·rw[Zb pd h0 hk];simp only;rw[Je,Bd,nil];simp only;omega
  ·have hk0:m.keep+p.keep=0:=by
    have: ¬0<m.keep+p.keep:=λc=>hk (.inl c);omega
   have hl0:m.l≠[]:=λc=>hk (.inr c);rw[Ss pd h0 hk0 hl0];obtain⟨l',q,hl⟩: ∃l' q,m.l=l'++ [q]:=⟨m.l.dropLast,m.l.getLast hl0,(Atg hl0).symm⟩;rw[hl,Mt];simp only;rw[Je,Je,Bd,Bd,nil];unfold addP;simp only;omega
theorem Acu: ∀(l:List PieceT) (m:Mk),m.Ok->(∀p∈l,p.Nn)->(l.foldl Mk.piece m).Ok∧extentP (l.foldl Mk.piece m).l+ (l.foldl Mk.piece m).keep=extentP m.l+m.keep+extentP l
 | [],m,hm,_=>⟨hm,by show _=_+ (0:Int);rw[List.foldl_nil];omega⟩
 |p::l,m,hm,hl=>by
  have hp:=hl p (by simp);have ih:=Acu l (m.piece p) (Mk.piece_ok hm hp).1 λq hq=>hl q (by simp[hq]);have e:=Zq hm hp;rw[Au2,Bd];exact⟨ih.1,by rw[ih.2];omega⟩
theorem J0 {l:List PieceT}(h: ∀p∈l,p.Nn):extentP (normP l)≤extentP l:=by
 have e:=Acu l Mk.nil Mk.nil_ok h;have k:=e.1.k;have e:=e.2;have n1:extentP Mk.nil.l=0:=rfl;have n2:Mk.nil.keep=0:=rfl;unfold normP;omega
theorem Ag6 (l:List PieceT)(k:Int):normP (l++ [⟨k,0,[]⟩])=normP l:=by
 unfold normP;rw[Ava];rfl
theorem Mh: ∀ {l:List PieceT},(∀p∈l,p.Nn)->(extN l:Int)=extentP l
 | [],_=>rfl
 |p::l,h=>by
  have hp:=h p (by simp);have:=hp.k;have:=hp.d;have ih:=Mh (l:=l) λq hq=>h q (by simp[hq]);rw[extN,Bd];omega
theorem Acv: ∀(l:List PieceT) (j:Nat),extN l<j->putAt l j=[]
 | [],_,_=>rfl
 |p::l,j,h=>by
  rw[extN] at h;rw[putAt,decide_eq_false (by omega: ¬j<p.keep.toNat),decide_eq_false (by omega: ¬j=p.keep.toNat),decide_eq_false (by omega: ¬j<p.keep.toNat+p.drop.toNat)];exact Acv l _ (by omega)
def szV:List Pl->Nat
 | []=>0
 |b::vb=>b.1.length+ (bif b.2 then 0 else 1)+szV vb
theorem Ajn (first:Bool)(a b:Pl):extentP (placeP first a b)=b.1.length+ (bif b.2 then 0 else 1):=by
 unfold placeP;cases first<;>cases b.2<;>cases a.2<;>simp[extentP]
theorem V7 (first:Bool): ∀(va vb:List Pl),va.length=vb.length->extentP (placesP first va vb)=szV vb
 | [],[],_=>rfl
 | [],_::_,h=>by simp at h
 |_::_,[],h=>by simp at h
 |a::va,b::vb,h=>by
  rw[placesP,Je,Ajn,V7 first va vb (by simpa using h),szV];cases b.2<;>simp
theorem Acw (b:Pl): ∀(vb:List Pl) (t:List UInt8),vb.length≤t.length->szV vb+b.1.length≤(appV (vb++ [b]) t).length
 | [],[],_=>by simp[szV,appV]
 | [],c::t,_=>by simp[szV,appV]
 |a::vb,[],h=>by simp at h
 |a::vb,c::t,h=>by
  have ih:=Acw b vb t (by simpa using h);rw[Arx,appV,szV,Arb,Arb];cases a.2<;>simp<;>omega
theorem Sx (first:Bool)(a b:Pl): ∀(va vb:List Pl),va.length=vb.length->placesP first (va++ [a]) (vb++ [b])=placesP first va vb++placeP first a b
 | [],[],_=>by simp[placesP]
 | [],_::_,h=>by simp at h
 |_::_,[],h=>by simp at h
 |c::va,d::vb,h=>by
  rw[Arx,Arx,placesP,placesP,Sx first a b va vb (by simpa using h),Arz]
theorem Ag7 (first:Bool){va vb:List Pl}{a b:Pl}{t:List UInt8}(h:va.length=vb.length)(hl:vb.length≤t.length)(ha:a.2=false)(hb:b.2=false):extentP (normP (placesP first (va++ [a]) (vb++ [b])))≤((appV (vb++ [b]) t).length:Int):=by
 have hx: ∃X,placeP first a b=X++ [⟨1,0,[]⟩]∧extentP X=b.1.length∧ ∀p∈X,p.Nn:=by
  unfold placeP;rw[ha,hb];cases first
  ·refine⟨[⟨b.1.length,0,[]⟩,⟨0,0,a.1⟩],rfl,by simp[extentP],λp hp=> ?_⟩;simp at hp
   rcases hp with rfl|rfl<;>exact⟨by simp,by simp⟩
  ·refine⟨[⟨0,0,a.1⟩,⟨b.1.length,0,[]⟩],rfl,by simp[extentP],λp hp=> ?_⟩;simp at hp
   rcases hp with rfl|rfl<;>exact⟨by simp,by simp⟩
 obtain⟨X,hX,hX1,hX2⟩:=hx;have e:=J0 (l:=placesP first va vb++X) λp hp=>by
  rcases Asi.1 hp with hp|hp
  ·exact(Qn first va vb).1 p hp
  ·exact hX2 p hp
 have g:=Acw b vb t hl;rw[Sx first a b va vb h,hX,←Arz,Ag6];rw[Je,V7 first va vb h,hX1] at e;omega
theorem Zr (l:List PieceT)(n:Nat):viewP l n=(List.range' 0 n).map (placesF l)++ [placesF l n]:=by
 unfold viewP;rw[List.range'_1_concat,Asr,Ary];rfl
theorem Iw {t:List UInt8}{l:List PieceT}(h:(applyE t l).2=0):rightP l=true∧extentP l≤t.length∧applyE t l=(editP t l,0):=by
 unfold applyE at h ⊢;cases hr:rightP l with
 |false=>rw[hr] at h;cases h
 |true=>
  rw[hr] at h;simp only[Arm,cond_false] at h ⊢
  by_cases c:(t.length:Int)<extentP l
  ·rw[decide_eq_true c] at h;cases h
  ·rw[decide_eq_false c];simp only[cond_false,true_and,and_true];omega
theorem Aon {l:List PieceT}{t:List UInt8}(hl:RN l)(h:extentP l≤t.length):editP t l=appF (placesF l) t:=by
 cases l with
 |nil=>exact Acs [] t (by intro p hp;cases hp) h
 |cons p l=>
  obtain⟨h1,h2,h3⟩:=hl;have hx:0≤extentP l:=Pd h3;obtain⟨k,d,s⟩:=p;simp only at h1 h2;have e:=Pe h3 (λt h=>Acs l t h3 h) d.toNat s hx k.toNat t (by rw[Bd] at h;simp only at h;omega);rw[show((k.toNat:Nat):Int)=k by omega,show((d.toNat:Nat):Int)=d by omega] at e;exact e
theorem Ajo {t:List UInt8}{l:List PieceT}{n:Nat}(h:(applyE t l).2=0)(h1:extN (normP l)≤n)(h2:n≤t.length):(applyE t l).1=appV (viewP (normP l) n) t:=by
 obtain⟨hr,hx,he⟩:=Iw h;have nn:=(Ch hr).1;have nx:=J0 nn;rw[he];show editP t l=_;rw[←Iv nn t,Aon (Hl hr) (by omega)];exact(Ajl n t (placesF (normP l)) h2 λi hi=>by
  unfold placesF;rw[Acv _ _ (by omega),Mu _ _ (by omega)]).symm
theorem V8 {t:List UInt8}{A B:List PieceT}{prior:Bool}(hA:(applyE t A).2=0)(hB:(applyE t B).2=0)(h:(transP A B prior).2.2=0){n:Nat}(hn:n=max (extN (normP A)) (extN (normP B))):
  applyE (applyE t B).1 (transP A B prior).1=(appV (mergeV prior (viewP (normP A) n) (viewP (normP B) n)) t,0):=by
 obtain⟨ra,xa,_⟩:=Iw hA;obtain⟨rb,xb,_⟩:=Iw hB;have ta:=J0 (Ch ra).1;have tb:=J0 (Ch rb).1;have na:=Mh (Anw (Hl ra));have nb:=Mh (Anw (Hl rb));have hnt:n≤t.length:=by omega
 have eb:=Ajo hB (by omega:extN (normP B)≤n) hnt;have tr:=(Sr A B prior).1;have e:(transP A B prior).1=normP (placesP prior (viewP (normP A) n) (viewP (normP B) n)):=by
  rw[←Ai3] at h ⊢;unfold transR at h ⊢;rw[ra,rb] at h ⊢;simp only[Arm,Auc,cond_false,←hn] at h ⊢
  revert h
  cases !rightP (normP (placesP prior (viewP (normP A) n) (viewP (normP B) n)))|| !rightP (normP (placesP (!prior) (viewP (normP B) n) (viewP (normP A) n))) with
  |true=>intro h;cases h
  |false=>intro _;rfl
 have da:(placesF (normP A) n).2=false:=Mu _ _ (by omega);have db:(placesF (normP B) n).2=false:=Mu _ _ (by omega);have fit:=Ag7 prior (va:=(List.range' 0 n).map (placesF (normP A))) (vb:=(List.range' 0 n).map (placesF (normP B))) (t:=t) (by simp) (by simpa using hnt) da db;rw[←Zr,←Zr,←e,←eb] at fit;have pe:=Sw prior (viewP (normP A) n) (viewP (normP B) n) t (by rw[Qo,Qo]) (by rw[Qo];omega);generalize(applyE t B).1=w at*;unfold applyE;rw[tr,decide_eq_false (show ¬ ((w.length:Nat):Int)<extentP (transP A B prior).1 by omega)];simp only[Arm,cond_false];rw[←pe,←eb,e,Iv (Qn ..).1]
theorem V9 {t:List UInt8}{A B:List PieceT}{prior:Bool}(hA:(applyE t A).2=0)(hB:(applyE t B).2=0)(h1:(transP A B prior).2.2=0)(h2:(transP B A (!prior)).2.2=0):
  applyE (applyE t B).1 (transP A B prior).1=applyE (applyE t A).1 (transP B A (!prior)).1∧(applyE (applyE t B).1 (transP A B prior).1).2=0:=by
 have e1:=V8 hA hB h1 rfl;have e2:=V8 hB hA h2 (n:=max (extN (normP A)) (extN (normP B))) (Nat.max_comm ..);rw[e1,e2,V3 prior];exact⟨rfl,rfl⟩
structure Pay where
 id:Int
 leaf:Bool
 label:List UInt8
 attrs:AttrL
 text:List UInt8
def Tree.pay:Tree->Pay
 | .mk i l b a c _=>⟨i,l,b,a,c⟩
structure Gr (α:Type) where
 kids:α->List α
 pay:α->Pay
section
variable {α:Type}
mutual
def Unf (S:Gr α):α->Tree->Prop
 |u,.mk i l b a c ss=>S.pay u=⟨i,l,b,a,c⟩∧Unfs S (S.kids u) ss
def Unfs (S:Gr α):List α->List Tree->Prop
 | [],[]=>True
 |u::us,s::ss=>Unf S u s∧Unfs S us ss
 | [],_::_=>False
 |_::_,[]=>False
end
mutual
def labs (S:Gr α):α->Tree->List α
 |u,.mk _ _ _ _ _ ss=>u::labss S (S.kids u) ss
def labss (S:Gr α):List α->List Tree->List α
 |u::us,s::ss=>labs S u s++labss S us ss
 |_,_=>[]
end
theorem Ci {S:Gr α}{u:α}{t:Tree}:Unf S u t↔S.pay u=t.pay∧Unfs S (S.kids u) t.subs:=by
 cases t;rw[Unf];exact Iff.rfl
theorem Cv {S:Gr α}{u:α}{t:Tree}:labs S u t=u::labss S (S.kids u) t.subs:=by
 cases t;rw[labs];rfl
theorem Aoi {t u:Tree}(h:t.pay=u.pay)(k:t.subs=u.subs):t=u:=by
 cases t;cases u;simp only[Tree.pay,Pay.mk.injEq] at h;obtain⟨rfl,rfl,rfl,rfl,rfl⟩:=h;simp only[Tree.subs] at k;rw[k]
theorem Dz {S:Gr α}: ∀ {us:List α} {ss:List Tree},Unfs S us ss->us.length=ss.length
 | [],[],_=>rfl
 |u::us,s::ss,h=>by
  rw[Unfs] at h;simp[Dz h.2]
 | [],_::_,h=>by rw[Unfs] at h;exact h.elim
 |_::_,[],h=>by rw[Unfs] at h;exact h.elim
theorem O2 {S:Gr α}: ∀ {us:List α} {ss:List Tree},Unfs S us ss-> ∀(i:Nat) (s:Tree),ss[i]?=some s-> ∃u,us[i]?=some u∧Unf S u s
 | [],[],_,i,s,hs=>by simp at hs
 |u::us,s'::ss,h,i,s,hs=>by
  rw[Unfs] at h;cases i with
  |zero=>simp at hs;subst hs;exact⟨u,rfl,h.1⟩
  |succ i=>simpa using O2 h.2 i s (by simpa using hs)
 | [],_::_,h,_,_,_=>by rw[Unfs] at h;exact h.elim
 |_::_,[],h,_,_,_=>by rw[Unfs] at h;exact h.elim
theorem O3 {S:Gr α}: ∀ {us us':List α} {ss ss':List Tree},Unfs S us ss->Unfs S us' ss'->Unfs S (us++us') (ss++ss')
 | [],_,[],_,_,k=>k
 |u::us,_,s::ss,_,h,k=>by
  rw[Unfs] at h;rw[Arx,Arx,Unfs];exact⟨h.1,O3 h.2 k⟩
 | [],_,_::_,_,h,_=>by rw[Unfs] at h;exact h.elim
 |_::_,_,[],_,h,_=>by rw[Unfs] at h;exact h.elim
theorem Hn {S:Gr α}: ∀ {us:List α} {ss:List Tree} (n:Nat),Unfs S us ss->Unfs S (us.take n) (ss.take n)∧Unfs S (us.drop n) (ss.drop n)
 |us,ss,0,h=>by simp only[Avm,Atz];exact⟨by rw[Unfs];trivial,h⟩
 | [],[],n+1,_=>by simp only[List.take_nil,List.drop_nil];exact⟨by rw[Unfs];trivial,by rw[Unfs];trivial⟩
 |u::us,s::ss,n+1,h=>by
  rw[Unfs] at h;have:=Hn n h.2;simp only[Auz,Au0];rw[Unfs];exact⟨⟨h.1,this.1⟩,this.2⟩
 | [],_::_,_+1,h=>by rw[Unfs] at h;exact h.elim
 |_::_,[],_+1,h=>by rw[Unfs] at h;exact h.elim
theorem F4 {S:Gr α}: ∀ {us us':List α} {ss ss':List Tree},us.length=ss.length->labss S (us++us') (ss++ss')=labss S us ss++labss S us' ss'
 | [],_,[],_,_=>by simp[labss]
 |u::us,_,s::ss,_,h=>by
  rw[Arx,Arx,labss,labss,F4 (by simpa using h),Arz]
 | [],_,_::_,_,h=>by simp at h
 |_::_,_,[],_,h=>by simp at h
theorem Qp {S S':Gr α}(t:Tree): ∀u:α,(∀z∈labs S u t,S'.kids z=S.kids z∧S'.pay z=S.pay z)->(Unf S u t->Unf S' u t)∧labs S' u t=labs S u t:=by
 induction t using Tree.ind with
 |_ t ih=>
 intro u h;have key: ∀(us:List α) (ss:List Tree),(∀s∈ss,s∈t.subs)->(∀z∈labss S us ss,S'.kids z=S.kids z∧S'.pay z=S.pay z)->(Unfs S us ss->Unfs S' us ss)∧labss S' us ss=labss S us ss:=by
  intro us
  induction us with
  |nil=>
   intro ss _ _;cases ss with
   |nil=>exact⟨λ_=>by rw[Unfs];trivial,by simp[labss]⟩
   |cons s ss=>exact⟨λh=>by rw[Unfs] at h;exact h.elim,by simp[labss]⟩
  |cons v us ihu=>
   intro ss hss hz;cases ss with
   |nil=>exact⟨λh=>by rw[Unfs] at h;exact h.elim,by simp[labss]⟩
   |cons s ss=>
    rw[labss] at hz;have h1:=ih s (hss s (by simp)) v λz hm=>hz z (Ar0 _ hm);have h2:=ihu ss (λx hx=>hss x (by simp[hx])) λz hm=>hz z (Art _ hm);refine⟨λh=> ?_,?_⟩
    ·rw[Unfs] at h ⊢;exact⟨h1.1 h.1,h2.1 h.2⟩
    ·rw[labss,labss,h1.2,h2.2]
 rw[Cv] at h;have hu:=h u (by simp);have hk:=key (S.kids u) t.subs (λ_ h=>h) λz hz=>h z (Are _ hz);refine⟨λhh=> ?_,?_⟩
 ·rw[Ci] at hh ⊢;rw[hu.1,hu.2];exact⟨hh.1,hk.1 hh.2⟩
 ·rw[Cv,Cv,hu.1,hk.2]
theorem Aoj {S:Gr α}(t:Tree): ∀(u:α) (t':Tree),Unf S u t->Unf S u t'->t=t':=by
 induction t using Tree.ind with
 |_ t ih=>
 intro u t' h h';rw[Ci] at h h';have key: ∀(us:List α) (ss ss':List Tree),(∀s∈ss,s∈t.subs)->Unfs S us ss->Unfs S us ss'->ss=ss':=by
  intro us
  induction us with
  |nil=>
   intro ss ss' _ h1 h2;have e1:=Dz h1;have e2:=Dz h2;rw[Ard.1 e1.symm,Ard.1 e2.symm]
  |cons v us ihu=>
   intro ss ss' hss h1 h2;cases ss with
   |nil=>rw[Unfs] at h1;exact h1.elim
   |cons s ss=>
    cases ss' with
    |nil=>rw[Unfs] at h2;exact h2.elim
    |cons s' ss'=>
     rw[Unfs] at h1 h2;rw[ih s (hss s (by simp)) v s' h1.1 h2.1,ihu ss ss' (λx hx=>hss x (by simp[hx])) h1.2 h2.2]
 exact Aoi (h.1.symm.trans h'.1) (key _ _ _ (λ_ h=>h) h.2 h'.2)
def kidS (S:Gr α)(u:α)(i:Int):Option α:=bif decide (i<0) then none else(S.kids u)[i.toNat]?
def res (S:Gr α):α->List Int->Option α
 |u,[]=>some u
 |u,i::p=>match kidS S u i with
  |none=>none
  |some v=>res S v p
theorem Is {S:Gr α}{u:α}{t:Tree}(h:Unf S u t)(i:Int):(kidS S u i=none∧subT t i=none)∨ ∃v s,kidS S u i=some v∧subT t i=some s∧Unf S v s:=by
 rw[Ci] at h;unfold kidS subT;cases decide (i<0) with
 |true=>exact .inl ⟨rfl,rfl⟩
 |false=>
  simp only[cond_false];cases hs:t.subs[i.toNat]? with
  |none=>
   refine .inl ⟨?_,rfl⟩;rw[List.getElem?_eq_none_iff] at hs ⊢;rw[Dz h.2];exact hs
  |some s=>
   obtain⟨v,h1,h2⟩:=O2 h.2 _ _ hs;exact .inr ⟨v,s,h1,rfl,h2⟩
theorem Kv {S:Gr α}: ∀(p:List Int) {u:α} {t:Tree},Unf S u t->(res S u p=none∧atT t p=none)∨ ∃v s,res S u p=some v∧atT t p=some s∧Unf S v s
 | [],u,t,h=>.inr ⟨u,t,rfl,rfl,h⟩
 |i::p,u,t,h=>by
  rw[res,atT]
  rcases Is h i with⟨h1,h2⟩| ⟨v,s,h1,h2,h3⟩
  ·rw[h1,h2];exact .inl ⟨rfl,rfl⟩
  ·rw[h1,h2];exact Kv p h3
theorem Db {S:Gr α}(k:Int): ∀(p:List Int) (u:α),res S u (p++ [k])=(res S u p).bind λv=>kidS S v k
 | [],u=>by
  show(match kidS S u k with
   |none=>none
   |some v=>some v)=kidS S u k
  cases kidS S u k<;>rfl
 |i::p,u=>by
  rw[Arx,res,res];cases kidS S u i with
  |none=>rfl
  |some v=>exact Db k p v
theorem Eu {S:Gr α}(q:List Int): ∀(p:List Int) (u:α),res S u (p++q)=(res S u p).bind λv=>res S v q
 | [],u=>rfl
 |i::p,u=>by
  rw[Arx,res,res];cases kidS S u i with
  |none=>rfl
  |some v=>exact Eu q p v
end
section
variable {α:Type}
theorem E7 {S S':Gr α}: ∀(us:List α) (ss:List Tree),(∀z∈labss S us ss,S'.kids z=S.kids z∧S'.pay z=S.pay z)->(Unfs S us ss->Unfs S' us ss)∧labss S' us ss=labss S us ss
 | [],[],_=>⟨λ_=>by rw[Unfs];trivial,by simp[labss]⟩
 | [],_::_,_=>⟨λh=>by rw[Unfs] at h;exact h.elim,by simp[labss]⟩
 |_::_,[],_=>⟨λh=>by rw[Unfs] at h;exact h.elim,by simp[labss]⟩
 |u::us,s::ss,h=>by
  rw[labss] at h;have h1:=Qp s u λz hz=>h z (Ar0 _ hz);have h2:=E7 us ss λz hz=>h z (Art _ hz);refine⟨λk=> ?_,?_⟩
  ·rw[Unfs] at k ⊢;exact⟨h1.1 k.1,h2.1 k.2⟩
  ·rw[labss,labss,h1.2,h2.2]
theorem Ed {β:Type}{l:List β}{i:Nat}{x:β}(h:l[i]?=some x):l=l.take i++x::l.drop (i+1):=by
 have hi:=(Ar8.1 h).1;have hx:=(Ar8.1 h).2;rw[←hx,List.getElem_cons_drop,Ar4]
theorem Aja {β:Type}{l:List β}{i:Nat}{x:β}(h:i<l.length):l.set i x=l.take i++x::l.drop (i+1):=List.set_eq_take_append_cons_drop.trans (if_pos h)
theorem F5 {S:Gr α}{u:α}{t:Tree}(h:Unf S u t){i:Int}{w:α}{s:Tree}(hk:kidS S u i=some w)(hs:subT t i=some s):
  0≤i∧S.kids u=(S.kids u).take i.toNat++w::(S.kids u).drop (i.toNat+1)∧t.subs=t.subs.take i.toNat++s::t.subs.drop (i.toNat+1)∧Unf S w s∧Unfs S ((S.kids u).take i.toNat) (t.subs.take i.toNat)∧Unfs S ((S.kids u).drop (i.toNat+1)) (t.subs.drop (i.toNat+1))∧
   labs S u t=u::(labss S ((S.kids u).take i.toNat) (t.subs.take i.toNat)++ (labs S w s++labss S ((S.kids u).drop (i.toNat+1)) (t.subs.drop (i.toNat+1)))):=by
 obtain⟨h0,hs',_⟩:=A1 hs;have hk':(S.kids u)[i.toNat]?=some w:=by
  unfold kidS at hk;rwa [decide_eq_false (by omega)] at hk
 have hh:=Ci.1 h;have e1:=Ed hk';have e2:=Ed hs';have k1:=Hn i.toNat hh.2;have k2:=Hn (i.toNat+1) hh.2;have hw:Unf S w s:=by
  obtain⟨w',hw1,hw2⟩:=O2 hh.2 _ _ hs';rw[hk'] at hw1;injection hw1 with hw1
  subst hw1;exact hw2
 refine⟨h0,e1,e2,hw,k1.1,k2.2,?_⟩;rw[Cv];have:labss S (S.kids u) t.subs=labss S ((S.kids u).take i.toNat++w::(S.kids u).drop (i.toNat+1)) (t.subs.take i.toNat++s::t.subs.drop (i.toNat+1)):=by rw[←e1,←e2]
 rw[this,F4 (Dz k1.1),labss]
theorem N0 {S:Gr α}: ∀(p:List Int) {u v:α} {t y:Tree},Unf S u t->res S u p=some v->atT t p=some y-> ∀z∈labs S v y,z∈labs S u t
 | [],u,v,t,y,_,h1,h2,z,hz=>by
  rw[res] at h1;rw[atT] at h2;injection h1 with h1
  injection h2 with h2
  subst h1 h2;exact hz
 |i::p,u,v,t,y,h,h1,h2,z,hz=>by
  rw[res] at h1;rw[atT] at h2
  rcases Is h i with⟨k1,k2⟩| ⟨w,s,k1,k2,k3⟩
  ·rw[k1] at h1;cases h1
  ·rw[k1] at h1;rw[k2] at h2;have:=N0 p k3 h1 h2 z hz;rw[(F5 h k1 k2).2.2.2.2.2.2];exact Are _ (Art _ (Ar0 _ this))
theorem Bu {S:Gr α}{p:List Int}{u v:α}{t:Tree}(h:Unf S u t)(h1:res S u p=some v):v∈labs S u t:=by
 rcases Kv p h with⟨k1,_⟩| ⟨v',s,k1,k2,k3⟩
 ·rw[k1] at h1;cases h1
 ·rw[k1] at h1;injection h1 with h1
  subst h1;exact N0 p h k1 k2 _ (by rw[Cv];simp)
theorem B5 {S:Gr α}: ∀(p q:List Int) {u v:α} {t:Tree},Unf S u t->(labs S u t).Nodup->res S u p=some v->res S u q=some v->p=q
 | [],[],_,_,_,_,_,_,_=>rfl
 | [],j::q,u,v,t,h,hn,h1,h2=>by
  rw[res] at h1;rw[res] at h2;injection h1 with h1
  subst h1
  rcases Is h j with⟨k1,_⟩| ⟨w,s,k1,k2,k3⟩
  ·rw[k1] at h2;cases h2
  ·rw[k1] at h2;have hm:=Bu k3 h2;rw[(F5 h k1 k2).2.2.2.2.2.2] at hn;exact absurd (Art _ (Ar0 _ hm)) (Atd.1 hn).1
 |i::p,[],u,v,t,h,hn,h1,h2=>by
  rw[res] at h1;rw[res] at h2;injection h2 with h2
  subst h2
  rcases Is h i with⟨k1,_⟩| ⟨w,s,k1,k2,k3⟩
  ·rw[k1] at h1;cases h1
  ·rw[k1] at h1;have hm:=Bu k3 h1;rw[(F5 h k1 k2).2.2.2.2.2.2] at hn;exact absurd (Art _ (Ar0 _ hm)) (Atd.1 hn).1
 |i::p,j::q,u,v,t,h,hn,h1,h2=>by
  rw[res] at h1;rw[res] at h2
  rcases Is h i with⟨k1,_⟩| ⟨w,s,k1,k2,k3⟩
  ·rw[k1] at h1;cases h1
  rcases Is h j with⟨l1,_⟩| ⟨w',s',l1,l2,l3⟩
  ·rw[l1] at h2;cases h2
  rw[k1] at h1;rw[l1] at h2;have e:=F5 h k1 k2;have e':=F5 h l1 l2;have m1:=Bu k3 h1;have m2:=Bu l3 h2
  by_cases hij:i=j
  ·subst hij;rw[k1] at l1;injection l1 with l1
   subst l1;rw[k2] at l2;injection l2 with l2
   subst l2;rw[e.2.2.2.2.2.2] at hn;have hn':=(As7.1 (As7.1 (Atd.1 hn).2).2.1).1;rw[B5 p q k3 hn' h1 h2]
  ·exfalso;have hne:i.toNat≠j.toNat:=by have:=e.1;have:=e'.1;omega
   have hn1:=hn;rw[e.2.2.2.2.2.2] at hn1;have hA:=As7.1 (Atd.1 hn1).2;have hB:=As7.1 hA.2.1;have hj':(S.kids u)[j.toNat]?=some w':=by
    have:=l1;unfold kidS at this;rwa [decide_eq_false (by have:=e'.1;omega)] at this
   have hs':=(A1 l2).2.1
   rcases Nat.lt_or_gt_of_ne hne with hlt|hgt
   ·
    have hin:v∈labss S ((S.kids u).drop (i.toNat+1)) (t.subs.drop (i.toNat+1)):=by
     have g1:((S.kids u).drop (i.toNat+1))[j.toNat- (i.toNat+1)]?=some w':=by rw[As8];rw[show i.toNat+1+ (j.toNat- (i.toNat+1))=j.toNat by omega];exact hj'
     have g2:(t.subs.drop (i.toNat+1))[j.toNat- (i.toNat+1)]?=some s':=by rw[As8];rw[show i.toNat+1+ (j.toNat- (i.toNat+1))=j.toNat by omega];exact hs'
     have f1:=Ed g1;have f2:=Ed g2;have hl:=Dz (Hn (j.toNat- (i.toNat+1)) e.2.2.2.2.2.1).1;rw[f1,f2,F4 hl,labss];exact Art _ (Ar0 _ m2)
    exact hB.2.2 v m1 v hin rfl
   ·have hin:v∈labss S ((S.kids u).take i.toNat) (t.subs.take i.toNat):=by
     have g1:((S.kids u).take i.toNat)[j.toNat]?=some w':=by rw[Asv,if_pos hgt];exact hj'
     have g2:(t.subs.take i.toNat)[j.toNat]?=some s':=by rw[Asv,if_pos hgt];exact hs'
     have f1:=Ed g1;have f2:=Ed g2;have hl:=Dz (Hn j.toNat e.2.2.2.2.1).1;rw[f1,f2,F4 hl,labss];exact Art _ (Ar0 _ m2)
    exact hA.2.2 v hin v (Ar0 _ m1) rfl
theorem Lm [DecidableEq α]{S S':Gr α}{F:Tree->Tree}{v:α}{y:Tree}(hF:Unf S' v (F y)): ∀(p:List Int) (u:α) (t:Tree),Unf S u t->(labs S u t).Nodup->res S u p=some v->atT t p=some y->(∀z∈labs S u t,z≠v->S'.kids z=S.kids z∧S'.pay z=S.pay z)->
  Unf S' u (changeT F t p)∧ ∀z,(labs S' u (changeT F t p)).count z+ (labs S v y).count z=(labs S u t).count z+ (labs S' v (F y)).count z
 | [],u,t,h,_,h1,h2,_=>by
  rw[res] at h1;rw[atT] at h2;injection h1 with h1
  injection h2 with h2
  subst h1 h2;rw[changeT];exact⟨hF,λz=>by omega⟩
 |i::p,u,t,h,hn,h1,h2,ha=>by
  rw[res] at h1;rw[atT] at h2
  rcases Is h i with⟨k1,_⟩| ⟨w,s,k1,k2,k3⟩
  ·rw[k1] at h1;cases h1
  rw[k1] at h1;rw[k2] at h2;obtain⟨e0,e1,e2,_,e4,e5,e6⟩:=F5 h k1 k2;have hvm:=Bu k3 h1;rw[e6] at hn ha;obtain⟨n1,n2⟩:=Atd.1 hn;obtain⟨n3,n4,n5⟩:=As7.1 n2;obtain⟨n6,n7,n8⟩:=As7.1 n4;have hu:u≠v:=λe=>n1 (Art _ (Ar0 _ (e▸hvm)));have hu':=ha u (by simp) hu;have ih:=Lm hF p w s k3 n6 h1 h2 λz hz hzv=>ha z (Are _ (Art _ (Ar0 _ hz))) hzv;have a1:=E7 (S:=S) (S':=S') ((S.kids u).take i.toNat) (t.subs.take i.toNat) λz hz=>ha z (Are _ (Ar0 _ hz)) λe=>n5 z hz v (Ar0 _ hvm) e;have a2:=E7 (S:=S) (S':=S') ((S.kids u).drop (i.toNat+1)) (t.subs.drop (i.toNat+1)) λz hz=>ha z (Are _ (Art _ (Art _ hz))) λe=>n8 v hvm z hz e.symm;have hch:changeT F t (i::p)=t.withSubs (t.subs.set i.toNat (changeT F s p)):=by rw[changeT,k2]
  have hlt:i.toNat<t.subs.length:=(Ar8.1 (A1 k2).2.1).1;have hsub:(changeT F t (i::p)).subs=t.subs.take i.toNat++changeT F s p::t.subs.drop (i.toNat+1):=by rw[hch,Ap,Aja hlt]
  have hpay:(changeT F t (i::p)).pay=t.pay:=by rw[hch];cases t;rfl
  have hl:=Dz e4;refine⟨?_,λz=> ?_⟩
  ·rw[Ci,hpay,hsub,hu'.1,hu'.2,e1];refine⟨(Ci.1 h).1,O3 (a1.1 e4) ?_⟩;rw[Unfs];exact⟨ih.1,a2.1 e5⟩
  ·have hz:=ih.2 z;have hlab:labs S' u (changeT F t (i::p))=u::(labss S ((S.kids u).take i.toNat) (t.subs.take i.toNat)++ (labs S' w (changeT F s p)++labss S ((S.kids u).drop (i.toNat+1)) (t.subs.drop (i.toNat+1)))):=by
    rw[Cv,hsub,hu'.1]
    conv=>lhs;rw[e1]
    rw[F4 hl,labss,a1.2,a2.2]
   rw[hlab,e6];simp only[Avj,Auq];omega
end
section
variable {α:Type}
theorem Zg {S:Gr α}{z:α}: ∀ {us:List α} {ss:List Tree},z∈labss S us ss-> ∃(i:Nat) (w:α) (s:Tree),us[i]?=some w∧ss[i]?=some s∧z∈labs S w s
 | [],[],h=>by simp[labss] at h
 | [],_::_,h=>by simp[labss] at h
 |_::_,[],h=>by simp[labss] at h
 |u::us,s::ss,h=>by
  rw[labss,Asi] at h
  rcases h with h|h
  ·exact⟨0,u,s,rfl,rfl,h⟩
  ·obtain⟨i,w,s',h1,h2,h3⟩:=Zg h;exact⟨i+1,w,s',by simpa using h1,by simpa using h2,h3⟩
theorem Di {S:Gr α}{u:α}(i:Nat):kidS S u (i:Int)=(S.kids u)[i]?:=by
 unfold kidS;rw[decide_eq_false (by omega)];rfl
theorem O4 {S:Gr α}{z:α}(t:Tree): ∀u:α,Unf S u t->z∈labs S u t-> ∃p,res S u p=some z:=by
 induction t using Tree.ind with
 |_ t ih=>
 intro u h hz;rw[Cv] at hz
 rcases Arl.1 hz with rfl|hz
 ·exact⟨[],rfl⟩
 ·obtain⟨i,w,s,h1,h2,h3⟩:=Zg hz;obtain⟨w',g1,g2⟩:=O2 (Ci.1 h).2 i s h2;rw[h1] at g1;injection g1 with g1
  subst g1;obtain⟨p,hp⟩:=ih s (Aq7 h2) w g2 h3;exact⟨(i:Int)::p,by rw[res,Di,h1];exact hp⟩
theorem E8 {S:Gr α}{r u v z:α}{t:Tree}{i j:Nat}(h:Unf S r t)(hn:(labs S r t).Nodup)(hz:z∈labs S r t)(hv:v∈labs S r t)(h1:(S.kids z)[i]?=some u)(h2:(S.kids v)[j]?=some u):z=v∧i=j:=by
 obtain⟨p,hp⟩:=O4 t r h hz;obtain⟨q,hq⟩:=O4 t r h hv;have e1:res S r (p++ [(i:Int)])=some u:=by rw[Db,hp];exact(Di i).trans h1
 have e2:res S r (q++ [(j:Int)])=some u:=by rw[Db,hq];exact(Di j).trans h2
 have e:=List.append_inj' (B5 _ _ h hn e1 e2) rfl;have hij:(i:Int)=(j:Int):=by simpa using e.2
 have hpq:=e.1;subst hpq;rw[hp] at hq;injection hq with hq
 exact⟨hq,by omega⟩
theorem Ajb {S:Gr α}{r z:α}{t:Tree}(h:Unf S r t)(hn:(labs S r t).Nodup)(hz:z∈labs S r t):r∉S.kids z:=λhm=>by
 obtain⟨i,hi⟩:=Ar7 hm;obtain⟨p,hp⟩:=O4 t r h hz;have e1:res S r (p++ [(i:Int)])=some r:=by rw[Db,hp];exact(Di i).trans hi
 have:=B5 _ [] h hn e1 rfl;simp at this
section
variable [DecidableEq α]
theorem Zh {S:Gr α}(z:α): ∀(p:List Int) {u v:α} {t y:Tree},Unf S u t->res S u p=some v->atT t p=some y->(labs S v y).count z≤(labs S u t).count z
 | [],u,v,t,y,_,h1,h2=>by
  rw[res] at h1;rw[atT] at h2;injection h1 with h1
  injection h2 with h2
  subst h1 h2;exact Ara _
 |i::p,u,v,t,y,h,h1,h2=>by
  rw[res] at h1;rw[atT] at h2
  rcases Is h i with⟨k1,_⟩| ⟨w,s,k1,k2,k3⟩
  ·rw[k1] at h1;cases h1
  ·rw[k1] at h1;rw[k2] at h2;have:=Zh z p k3 h1 h2;rw[(F5 h k1 k2).2.2.2.2.2.2,Avj,Auq,Auq];omega
theorem Mv {S:Gr α}{p:List Int}{u v:α}{t y:Tree}(h:Unf S u t)(hn:(labs S u t).Nodup)(h1:res S u p=some v)(h2:atT t p=some y):(labs S v y).Nodup:=by
 rw[As6] at hn ⊢;exact λz=>Ark (Zh z p h h1 h2) (hn z)
def rm (u:α)(l:List α):List α:=l.filter λx=>decide (x≠u)
theorem Dj {u:α}{l:List α}(h:u∉l):rm u l=l:=by
 unfold rm;rw[List.filter_eq_self];intro x hx;exact decide_eq_true λe=>h (e▸hx)
theorem Ace (u:α)(a b:List α):rm u (a++b)=rm u a++rm u b:=List.filter_append ..
theorem Xx (u:α)(l:List α):rm u (u::l)=rm u l:=by
 unfold rm;rw[List.filter_cons,if_neg (by simp)]
theorem Ag4 {u x:α}(h:x≠u)(l:List α):rm u (x::l)=x::rm u l:=by
 unfold rm;rw[List.filter_cons,if_pos (by simpa using h)]
theorem Afs (u w:α)(l:List α):rm u (rm w l)=rm w (rm u l):=by
 unfold rm;rw[Avo,Avo]
 congr 1
 funext x
 exact Avv _ _
def delS (S:Gr α)(u:α):Gr α:=⟨λz=>rm u (S.kids z),S.pay⟩
theorem Aft {S:Gr α}{r v u:α}{t y s:Tree}{q:List Int}{k:Int}(h:Unf S r t)(hn:(labs S r t).Nodup)(hv:res S r q=some v)(hy:atT t q=some y)(hk:kidS S v k=some u)(hs:subT y k=some s):
  Unf (delS S u) r (changeT (delT k) t q)∧(∀z,(labs (delS S u) r (changeT (delT k) t q)).count z+ (labs S u s).count z=(labs S r t).count z):=by
 have hvy:Unf S v y:=by
  rcases Kv q h with⟨k1,_⟩| ⟨v',y',k1,k2,k3⟩
  ·rw[hv] at k1;cases k1
  ·rw[hv] at k1;rw[hy] at k2;injection k1 with k1
   injection k2 with k2
   subst k1 k2;exact k3
 have hvm:=Bu h hv;obtain⟨e0,e1,e2,e3,e4,e5,e6⟩:=F5 hvy hk hs;have hku:(S.kids v)[k.toNat]?=some u:=by
  unfold kidS at hk;rwa [decide_eq_false (by omega)] at hk
 have hsub:=Mv h hn hv hy;have agree: ∀z∈labs S r t,z≠v->(delS S u).kids z=S.kids z∧(delS S u).pay z=S.pay z:=λz hz hzv=>by
  refine⟨Dj λhm=> ?_,rfl⟩;obtain⟨i,hi⟩:=Ar7 hm;exact hzv (E8 h hn hz hvm hi hku).1
 have nA:u∉ (S.kids v).take k.toNat:=λhm=>by
  obtain⟨i,hi⟩:=Ar7 hm;have hi':=hi;rw[Asv] at hi';split at hi'
  ·have:=(E8 h hn hvm hvm hi' hku).2;omega
  ·cases hi'
 have nB:u∉ (S.kids v).drop (k.toNat+1):=λhm=>by
  obtain⟨i,hi⟩:=Ar7 hm;rw[As8] at hi;have:=(E8 h hn hvm hvm hi hku).2;omega
 have hkids:(delS S u).kids v=(S.kids v).take k.toNat++ (S.kids v).drop (k.toNat+1):=by
  show rm u (S.kids v)=_
  conv=>lhs;rw[e1]
  rw[Ace,Xx,Dj nA,Dj nB]
 rw[e6] at hsub;obtain⟨n1,n2⟩:=Atd.1 hsub;have inl: ∀z,z∈labs S v y->z∈labs S r t:=λz hz=>N0 q h hv hy z hz;have a1:=E7 (S:=S) (S':=delS S u) ((S.kids v).take k.toNat) (y.subs.take k.toNat) λz hz=>agree z (inl z (by rw[e6];exact Are _ (Ar0 _ hz))) λe=>n1 (Ar0 _ (e▸hz));have a2:=E7 (S:=S) (S':=delS S u) ((S.kids v).drop (k.toNat+1)) (y.subs.drop (k.toNat+1)) λz hz=>agree z (inl z (by rw[e6];exact Are _ (Art _ (Art _ hz)))) λe=>n1 (Art _ (Art _ (e▸hz)));have hsubs:(delT k y).subs=y.subs.take k.toNat++y.subs.drop (k.toNat+1):=by unfold delT;rw[Ap]
 have hpay:(delT k y).pay=y.pay:=by unfold delT;cases y;rfl
 have hl:=Dz e4;have hF:Unf (delS S u) v (delT k y):=by
  rw[Ci,hkids,hsubs,hpay];exact⟨(Ci.1 hvy).1,O3 (a1.1 e4) (a2.1 e5)⟩
 have c:=Lm (S':=delS S u) (F:=delT k) hF q r t h hn hv hy agree;refine⟨c.1,λz=> ?_⟩;have hz:=c.2 z;have hlab:labs (delS S u) v (delT k y)=v::(labss S ((S.kids v).take k.toNat) (y.subs.take k.toNat)++labss S ((S.kids v).drop (k.toNat+1)) (y.subs.drop (k.toNat+1))):=by
  rw[Cv,hkids,hsubs,F4 hl,a1.2,a2.2]
 rw[hlab,e6] at hz;simp only[Avj,Auq] at hz ⊢;omega
theorem Afu {S S':Gr α}{r v x:α}{t y X:Tree}{p:List Int}{g:Int}(h:Unf S r t)(hn:(labs S r t).Nodup)(hv:res S r p=some v)(hy:atT t p=some y)(hk:S'.kids v=(S.kids v).take g.toNat++x::(S.kids v).drop g.toNat)(hp:S'.pay v=S.pay v)
  (ha: ∀z∈labs S r t,z≠v->S'.kids z=S.kids z∧S'.pay z=S.pay z) (hx:Unf S' x X):
  Unf S' r (changeT (insT g X) t p)∧(∀z,(labs S' r (changeT (insT g X) t p)).count z=(labs S r t).count z+ (labs S' x X).count z):=by
 have hvy:Unf S v y:=by
  rcases Kv p h with⟨k1,_⟩| ⟨v',y',k1,k2,k3⟩
  ·rw[hv] at k1;cases k1
  ·rw[hv] at k1;rw[hy] at k2;injection k1 with k1
   injection k2 with k2
   subst k1 k2;exact k3
 have hsub:=Mv h hn hv hy;have hh:=Ci.1 hvy;have k1:=Hn g.toNat hh.2;rw[Cv] at hsub;obtain⟨n1,_⟩:=Atd.1 hsub;have hl:=Dz k1.1;have hlab0:labss S (S.kids v) y.subs=labss S ((S.kids v).take g.toNat) (y.subs.take g.toNat)++labss S ((S.kids v).drop g.toNat) (y.subs.drop g.toNat):=by
  conv=>lhs;rw[←Ar4 g.toNat (S.kids v),←Ar4 g.toNat y.subs]
  exact F4 hl
 have inl: ∀z,z∈labss S (S.kids v) y.subs->z∈labs S r t:=λz hz=>N0 p h hv hy z (by rw[Cv];exact Are _ hz);have a1:=E7 (S:=S) (S':=S') ((S.kids v).take g.toNat) (y.subs.take g.toNat) λz hz=>ha z (inl z (by rw[hlab0];exact Ar0 _ hz)) λe=>n1 (by rw[hlab0];exact Ar0 _ (e▸hz));have a2:=E7 (S:=S) (S':=S') ((S.kids v).drop g.toNat) (y.subs.drop g.toNat) λz hz=>ha z (inl z (by rw[hlab0];exact Art _ hz)) λe=>n1 (by rw[hlab0];exact Art _ (e▸hz));have hsubs:(insT g X y).subs=y.subs.take g.toNat++X::y.subs.drop g.toNat:=by unfold insT;rw[Ap]
 have hpay:(insT g X y).pay=y.pay:=by unfold insT;cases y;rfl
 have hF:Unf S' v (insT g X y):=by
  rw[Ci,hk,hsubs,hpay,hp];refine⟨hh.1,O3 (a1.1 k1.1) ?_⟩;rw[Unfs];exact⟨hx,a2.1 k1.2⟩
 have c:=Lm (S':=S') (F:=insT g X) hF p r t h hn hv hy ha;refine⟨c.1,λz=> ?_⟩;have hz:=c.2 z;have hlab:labs S' v (insT g X y)=v::(labss S ((S.kids v).take g.toNat) (y.subs.take g.toNat)++ (labs S' x X++labss S ((S.kids v).drop g.toNat) (y.subs.drop g.toNat))):=by
  rw[Cv,hk,hsubs,F4 hl,labss,a1.2,a2.2]
 have hlab1:labs S v y=v::(labss S ((S.kids v).take g.toNat) (y.subs.take g.toNat)++labss S ((S.kids v).drop g.toNat) (y.subs.drop g.toNat)):=by rw[Cv,hlab0]
 rw[hlab,hlab1] at hz;simp only[Avj,Auq] at hz ⊢;omega
theorem Aok {S S':Gr α}{r v:α}{t y:Tree}{p:List Int}{F:Tree->Tree}(h:Unf S r t)(hn:(labs S r t).Nodup)(hv:res S r p=some v)(hy:atT t p=some y)(hk: ∀z∈labs S r t,S'.kids z=S.kids z)(hp: ∀z∈labs S r t,z≠v->S'.pay z=S.pay z)
  (hF:(F y).subs=y.subs) (hF2:S'.pay v=(F y).pay):Unf S' r (changeT F t p)∧(∀z,(labs S' r (changeT F t p)).count z=(labs S r t).count z):=by
 have hvy:Unf S v y:=by
  rcases Kv p h with⟨k1,_⟩| ⟨v',y',k1,k2,k3⟩
  ·rw[hv] at k1;cases k1
  ·rw[hv] at k1;rw[hy] at k2;injection k1 with k1
   injection k2 with k2
   subst k1 k2;exact k3
 have hvm:=Bu h hv;have hsub:=Mv h hn hv hy;rw[Cv] at hsub;obtain⟨n1,_⟩:=Atd.1 hsub;have a:=E7 (S:=S) (S':=S') (S.kids v) y.subs λz hz=>by
  have hzm:z∈labs S r t:=N0 p h hv hy z (by rw[Cv];exact Are _ hz);exact⟨hk z hzm,hp z hzm λe=>n1 (e▸hz)⟩
 have hU:Unf S' v (F y):=by
  rw[Ci,hF2,hk v hvm,hF];exact⟨rfl,a.1 (Ci.1 hvy).2⟩
 have c:=Lm (S':=S') (F:=F) hU p r t h hn hv hy λz hz hzv=>⟨hk z hz,hp z hz hzv⟩;refine⟨c.1,λz=> ?_⟩;have hz:=c.2 z;have e:labs S' v (F y)=labs S v y:=by rw[Cv,Cv,hk v hvm,hF,a.2]
 rw[e] at hz;omega
end
end
theorem Jw {β:Type}{l:List β}{i g:Nat}(h:i≤g):l.take g=l.take i++ (l.take g).drop i:=by
 conv=>lhs;rw[←Ar4 i (l.take g)]
 rw[Avk,Atv h]
theorem T8 {β:Type}{l:List β}{i g:Nat}(h:i≤g):l.drop i=(l.take g).drop i++l.drop g:=by
 conv=>lhs;rw[←Ar4 g l]
 by_cases hg:g≤l.length
 ·rw[Atm (by rw[Ar1];omega)]
 ·rw[Aro (show l.length≤g by omega),Asc,Asc]
theorem Rz {β:Type}{a b:List β}{w:β}{n:Nat}(h:a.length=n):(a++w::b)[n]?=some w:=by
 subst h;rw[Arh (Ara _),Aub];rfl
section
variable {α:Type} [DecidableEq α]
def rmo:Option α->List α->List α
 |none,l=>l
 |some u,l=>rm u l
theorem Acf {u x:α}{l:List α}:x∈rm u l↔x∈l∧x≠u:=by
 unfold rm;rw[Avi];simp
theorem R0 {o:Option α}{x:α}{l:List α}(h:x∈rmo o l):x∈l:=by
 cases o with
 |none=>exact h
 |some u=>exact(Acf.1 h).1
theorem Cm (o:Option α)(a b:List α):rmo o (a++b)=rmo o a++rmo o b:=by
 cases o with
 |none=>rfl
 |some u=>exact Ace u a b
theorem Jx {o:Option α}{x:α}(h:o≠some x)(l:List α):rmo o (x::l)=x::rmo o l:=by
 cases o with
 |none=>rfl
 |some u=>exact Ag4 (λe=>h (congrArg some e.symm)) l
theorem O5 (u:α)(l:List α):rmo (some u) (u::l)=rmo (some u) l:=Xx u l
theorem Gc (o o':Option α)(l:List α):rmo o (rmo o' l)=rmo o' (rmo o l):=by
 cases o<;>cases o'<;>first|rfl|exact Afs _ _ _
theorem Ct (o:Option α)(l:List α):rmo o (rmo o l)=rmo o l:=by
 cases o with
 |none=>rfl
 |some u=>exact Dj λh=>(Acf.1 h).2 rfl
def putL (o:Option α)(g:Nat)(x:α)(l:List α):List α:=rmo o (l.take g)++x::rmo o (l.drop g)
theorem Xy {l:List α}{u:α}{j:Nat}(hn:l.Nodup)(hj:l[j]?=some u){g:Nat}(hg:g≤l.length):(rm u (l.take g)).length=if j<g then g-1 else g:=by
 have e:=Ed hj;have hjl:=(Ar8.1 hj).1;have hn':=hn;rw[e] at hn';obtain⟨n1,n2,n3⟩:=As7.1 hn';have hA:u∉l.take j:=λh=>n3 u h u (by simp) rfl;have hB:u∉l.drop (j+1):=(Atd.1 n2).1;split
 ·rename_i h;have e2:l.take g=l.take j++u::(l.drop (j+1)).take (g- (j+1)):=by
   conv=>lhs;rw[e]
   rw[List.take_append,Ars (by rw[Ar1];omega),Ar1,Atv (by omega),show g-j=(g- (j+1))+1 by omega,Auz]
  rw[e2,Ace,Xx,Dj hA,Dj λh=>hB (As0 h),Arb,Ar1,Ar1,Asf];omega
 ·rename_i h;rw[Dj λhm=>hA (by
   rw[Jw (l:=l) (show g≤j by omega)];exact Ar0 _ hm),Ar1,Atv hg]
theorem Acg {l:List α}{u:α}(h:u∉l){g:Nat}(hg:g≤l.length):(rm u (l.take g)).length=g:=by
 rw[Dj λhm=>h (As0 hm),Ar1,Atv hg]
theorem Afv {o:Option α}{l:List α}{k:Nat}{w:α}(hk:l[k]?=some w)(hw:o≠some w):(rmo o l)[(rmo o (l.take k)).length]?=some w:=by
 have e:=Ed hk;have e2:rmo o l=rmo o (l.take k)++w::rmo o (l.drop (k+1)):=by
  conv=>lhs;rw[e]
  rw[Cm,Jx hw]
 rw[e2];exact Rz rfl
theorem Afw {o:Option α}{l:List α}{k g:Nat}{w x:α}(hk:l[k]?=some w)(hw:o≠some w):(putL o g x l)[(rmo o (l.take k)).length+ (if g≤k then 1 else 0)]?=some w:=by
 have e:=Ed hk;have hkl:=(Ar8.1 hk).1;unfold putL;split
 ·rename_i h;have e1:l.drop g=(l.take k).drop g++w::l.drop (k+1):=by
   rw[T8 h,Aru hkl];have:=(Ar8.1 hk).2;rw[this]
  have e3:rmo o (l.take k)=rmo o (l.take g)++rmo o ((l.take k).drop g):=by
   conv=>lhs;rw[Jw h]
   rw[Cm]
  rw[e1,Cm,Jx hw,e3];rw[show rmo o (l.take g)++x::(rmo o ((l.take k).drop g)++w::rmo o (l.drop (k+1)))=(rmo o (l.take g)++x::rmo o ((l.take k).drop g))++w::rmo o (l.drop (k+1)) by simp];exact Rz (by simp;omega)
 ·rename_i h;have h:k+1≤g:=by omega
  have e1:l.take g=l.take k++w::(l.take g).drop (k+1):=by
   have hkl2:k< (l.take g).length:=by rw[Ar1];omega
   have e4:=Aru hkl2;rw[List.getElem_take,(Ar8.1 hk).2] at e4;rw[←e4];exact Jw (by omega)
  rw[e1,Cm,Jx hw,Arz,Arx];exact Rz rfl
theorem Afx {o:Option α}{l:List α}{g:Nat}{x:α}:(putL o g x l)[(rmo o (l.take g)).length]?=some x:=Rz rfl
end
theorem Ajc {α:Type}{S S':Gr α}(h: ∀z,S.kids z=S'.kids z)(k: ∀z,S.pay z=S'.pay z):S=S':=by
 cases S;cases S'
 congr
 ·exact funext h
 ·exact funext k
section
variable {α:Type} [DecidableEq α]
theorem O6 {β:Type}{a b:List β}{n:Nat}(h:a.length=n):(a++b).take n=a∧(a++b).drop n=b:=by
 subst h;exact⟨List.take_left,List.drop_left⟩
theorem R1 (o:Option α)(g:Nat)(l:List α):(rmo o l).take (rmo o (l.take g)).length=rmo o (l.take g)∧(rmo o l).drop (rmo o (l.take g)).length=rmo o (l.drop g):=by
 have e:rmo o l=rmo o (l.take g)++rmo o (l.drop g):=by rw[←Cm,Ar4]
 have:=O6 (a:=rmo o (l.take g)) (b:=rmo o (l.drop g)) rfl;rw[←e] at this;exact this
theorem T9 {o:Option α}{b g:Nat}{x:α}{l:List α}(h:b≤g):(putL o g x l).take (rmo o (l.take b)).length=rmo o (l.take b)∧(putL o g x l).drop (rmo o (l.take b)).length=rmo o ((l.take g).drop b)++x::rmo o (l.drop g):=by
 have e:putL o g x l=rmo o (l.take b)++ (rmo o ((l.take g).drop b)++x::rmo o (l.drop g)):=by
  unfold putL
  conv=>lhs;rw[Jw h]
  rw[Cm,Arz]
 rw[e];exact O6 rfl
theorem Qq {o:Option α}{b g:Nat}{x:α}{l:List α}(h:g≤b):(putL o g x l).take ((rmo o (l.take b)).length+1)=rmo o (l.take g)++x::rmo o ((l.take b).drop g)∧(putL o g x l).drop ((rmo o (l.take b)).length+1)=rmo o (l.drop b):=by
 have e:putL o g x l=(rmo o (l.take g)++x::rmo o ((l.take b).drop g))++rmo o (l.drop b):=by
  unfold putL;rw[T8 (l:=l) h,Cm,Arz,Arx]
 have e2:rmo o (l.take b)=rmo o (l.take g)++rmo o ((l.take b).drop g):=by
  conv=>lhs;rw[Jw h]
  rw[Cm]
 rw[e];exact O6 (by rw[e2];simp;omega)
def after (g ga:Nat)(first:Bool):Nat:=if ga<g∨(ga=g∧first=false) then 1 else 0
theorem R2 {o o':Option α}{g:Nat}{x:α}{l:List α}(h:o'≠some x):rmo o' (putL o g x l)=putL o (rmo o' (l.take g)).length x (rmo o' l):=by
 have c:=R1 o' g l;unfold putL;rw[c.1,c.2,Cm,Jx h,Gc o' o,Gc o' o]
theorem O7 {o o':Option α}{b g:Nat}{x y:α}{l:List α}(h:b≤g)(hx:o'≠some x)(hy:o≠some y):
  putL o' (rmo o (l.take b)).length y (putL o g x l)=putL o ((rmo o' (l.take g)).length+1) x (putL o' b y l):=by
 have c1:=T9 (o:=o) (x:=x) (l:=l) h;have c2:=Qq (o:=o') (x:=y) (l:=l) h
 conv=>lhs;unfold putL
 conv=>rhs;unfold putL
 rw[show rmo o (l.take g)++x::rmo o (l.drop g)=putL o g x l from rfl,show rmo o' (l.take b)++y::rmo o' (l.drop b)=putL o' b y l from rfl];rw[c1.1,c1.2,c2.1,c2.2,Cm,Cm,Jx hx,Jx hy,Gc o',Gc o',Gc o'];simp
theorem Aol {o o':Option α}{b g:Nat}{x y:α}{l:List α}(prior:Bool)(hx:o'≠some x)(hy:o≠some y):
  putL o' ((rmo o (l.take b)).length+after b g prior) y (putL o g x l)=putL o ((rmo o' (l.take g)).length+after g b (!prior)) x (putL o' b y l):=by
 unfold after
 rcases Aup b g with h|h|h
 ·rw[if_neg (by omega),if_pos (by omega)];exact O7 (Aty h) hx hy
 ·subst h;cases prior
  ·rw[if_pos (by simp),if_neg (by simp)];exact(O7 (Ara _) hy hx).symm
  ·rw[if_neg (by simp),if_pos (by simp)];exact O7 (Ara _) hx hy
 ·rw[if_pos (by omega),if_neg (by omega)];exact(O7 (Aty h) hy hx).symm
theorem Ajd {u:α}{b g:Nat}{l:List α}(first:Bool):putL (some u) ((rmo (some u) (l.take b)).length+after b g first) u (putL (some u) g u l)=putL (some u) b u l:=by
 have key: ∀n,((putL (some u) g u l).take n=rmo (some u) (l.take b)∧(putL (some u) g u l).drop n=rmo (some u) ((l.take g).drop b)++u::rmo (some u) (l.drop g)∧b≤g)∨((putL (some u) g u l).take n=rmo (some u) (l.take g)++u::rmo (some u) ((l.take b).drop g)∧(putL (some u) g u l).drop n=rmo (some u) (l.drop b)∧g≤b)->putL (some u) n u (putL (some u) g u l)=putL (some u) b u l:=by
  intro n h
  conv=>lhs;unfold putL
  rw[show rmo (some u) (l.take g)++u::rmo (some u) (l.drop g)=putL (some u) g u l from rfl]
  rcases h with⟨h1,h2,h3⟩| ⟨h1,h2,h3⟩
  ·rw[h1,h2,Cm,O5,Ct,Ct,Ct,←Cm,←T8 h3];rfl
  ·rw[h1,h2,Cm,O5,Ct,Ct,Ct,←Cm,←Jw h3];rfl
 unfold after
 rcases Aup b g with h|h|h
 ·rw[if_neg (by omega)];have c:=T9 (o:=some u) (x:=u) (l:=l) (Aty h);exact key _ (.inl ⟨c.1,c.2,Aty h⟩)
 ·subst h;cases first
  ·rw[if_pos (by simp)];have c:=Qq (o:=some u) (x:=u) (l:=l) (Ara b);exact key _ (.inr ⟨c.1,c.2,Ara _⟩)
  ·rw[if_neg (by simp)];have c:=T9 (o:=some u) (x:=u) (l:=l) (Ara b);exact key _ (.inl ⟨c.1,c.2,Ara _⟩)
 ·rw[if_pos (by omega)];have c:=Qq (o:=some u) (x:=u) (l:=l) (Aty h);exact key _ (.inr ⟨c.1,c.2,Aty h⟩)
structure Eff (α:Type) where
 out:Option α
 into:Option (α×Nat×α)
def Eff.kids (e:Eff α)(z:α)(l:List α):List α:=
 match e.into with
 |some (v,g,x)=>if z=v then putL e.out g x l else rmo e.out l
 |none=>rmo e.out l
def Eff.on (e:Eff α)(S:Gr α):Gr α:=⟨λz=>e.kids z (S.kids z),S.pay⟩
def Eff.gap (e:Eff α)(S:Gr α)(z:α)(g:Nat)(first:Bool):Nat:=
 (rmo e.out ((S.kids z).take g)).length+match e.into with
  |some (v,ga,_)=>if z=v then after g ga first else 0
  |none=>0
def Eff.behind (b a:Eff α)(S:Gr α)(first:Bool):Eff α:=⟨b.out,match b.into with
 |some (v,g,x)=>some (v,a.gap S v g first,x)
 |none=>none⟩
theorem Ag5 (S:Gr α)(a b:Eff α)(prior:Bool)(h1: ∀v g x,b.into=some (v,g,x)->a.out≠some x)(h2: ∀v g x,a.into=some (v,g,x)->b.out≠some x):
  (b.behind a S prior).on (a.on S)=(a.behind b S (!prior)).on (b.on S):=by
 refine Ajc (λz=> ?_) λ_=>rfl;obtain⟨oa,ia⟩:=a;obtain⟨ob,ib⟩:=b;simp only[Eff.on,Eff.behind,Eff.kids,Eff.gap];cases ia with
 |none=>
  cases ib with
  |none=>exact Gc _ _ _
  |some p=>
   obtain⟨v,g,x⟩:=p;have h:=h1 v g x rfl
   by_cases hz:z=v
   ·subst hz;simp only[if_pos];exact(R2 h).symm
   ·simp only[if_neg hz];exact Gc _ _ _
 |some q=>
  obtain⟨w,ga,y⟩:=q;have k:=h2 w ga y rfl;cases ib with
  |none=>
   by_cases hz:z=w
   ·subst hz;simp only[if_pos];exact R2 k
   ·simp only[if_neg hz];exact Gc _ _ _
  |some p=>
   obtain⟨v,g,x⟩:=p;have h:=h1 v g x rfl
   by_cases hw:z=w<;>by_cases hv:z=v
   ·subst hw;subst hv;simp only[if_pos];exact Aol prior k h
   ·subst hw;simp only[if_pos,if_neg hv];exact R2 k
   ·subst hv;simp only[if_pos,if_neg hw];exact(R2 h).symm
   ·simp only[if_neg hw,if_neg hv];exact Gc _ _ _
end
section
variable {α:Type} [DecidableEq α]
inductive Act (S:Gr α)(r x0:α)(o:OpT):Eff α->Prop
 |ins (v:α) (hk:o.kind=1) (hv:res S r o.path=some v) (h0:0≤o.at_) (hg:o.at_.toNat≤(S.kids v).length):Act S r x0 o ⟨none,some (v,o.at_.toNat,x0)⟩
 |del (u:α) (hk:o.kind=2) (hne:o.path≠[]) (hu:res S r o.path=some u):Act S r x0 o ⟨some u,none⟩
 |mov (u v:α) (hk:o.kind=3) (hne:o.path≠[]) (hw:within o.path o.to=false) (hu:res S r o.path=some u) (hv:res S r o.to=some v) (h0:0≤o.at_) (hg:o.at_.toNat≤(S.kids v).length):Act S r x0 o ⟨some u,some (v,o.at_.toNat,u)⟩
omit [DecidableEq α] in
theorem Mw {S:Gr α}{z w:α}{k:Int}(h:kidS S z k=some w):0≤k∧(S.kids z)[k.toNat]?=some w:=by
 unfold kidS at h
 by_cases hk:k<0
 ·rw[decide_eq_true hk] at h;cases h
 ·rw[decide_eq_false hk] at h;exact⟨by omega,h⟩
omit [DecidableEq α] in
theorem Jy {S:Gr α}{r u:α}{p:List Int}(hne:p≠[])(h:res S r p=some u): ∃f,res S r p.dropLast=some f∧0≤lastP p∧(S.kids f)[(lastP p).toNat]?=some u:=by
 rw[←G5 hne,Db] at h;cases hf:res S r p.dropLast with
 |none=>rw[hf] at h;cases h
 |some f=>
  rw[hf] at h;exact⟨f,rfl,Mw h⟩
theorem N1 {S:Gr α}{r u z:α}{t:Tree}{path q:List Int}{g:Nat}(h:Unf S r t)(hn:(labs S r t).Nodup)(hne:path≠[])(hu:res S r path=some u)(hq:res S r q=some z)(hg:g≤(S.kids z).length):
  ((rm u ((S.kids z).take g)).length:Int)=bif decide (q=path.dropLast)&&decide (lastP path< (g:Int)) then(g:Int)-1 else g:=by
 obtain⟨f,hf,hl,hj⟩:=Jy hne hu
 by_cases e:q=path.dropLast
 ·subst e;rw[hf] at hq;injection hq with hq
  subst hq;have hkn:(S.kids f).Nodup:=by
   rw[Avw,Avy];intro i j hi hjl hij he;have hx:=Aq3 hjl;have hy:(S.kids f)[i]?=some (S.kids f)[j]:=by rw[←he,Aq3 hi]
   have:=(E8 h hn (Bu h hf) (Bu h hf) hy hx).2;omega
  rw[Xy hkn hj hg,decide_eq_true rfl,Asb]
  by_cases hlt:(lastP path).toNat<g
  ·rw[if_pos hlt,decide_eq_true (by omega)];simp only[cond_true];omega
  ·rw[if_neg hlt,decide_eq_false (by omega)];rfl
 ·have hni:u∉S.kids z:=λhm=>by
   obtain⟨i,hi⟩:=Ar7 hm;have:=(E8 h hn (Bu h hq) (Bu h hf) hi hj).1;subst this;exact e (B5 _ _ h hn hq hf)
  rw[Acg hni hg,decide_eq_false e];rfl
theorem Amc {S:Gr α}{r x0 z w:α}{t:Tree}{o:OpT}{e:Eff α}{q:List Int}{k:Int}(h:Unf S r t)(hn:(labs S r t).Nodup)(A:Act S r x0 o e)(hq:res S r q=some z)(hk:kidS S z k=some w)(hw:e.out≠some w):
  ∃k',childR o q k=some k'∧kidS (e.on S) z k'=some w:=by
 obtain⟨k0,hK⟩:=Mw hk;have hkl:=(Ar8.1 hK).1;unfold childR;cases A with
 |ins v hk1 hv h0 hg=>
  rw[decide_eq_true hk1,cond_true];refine⟨_,rfl,?_⟩
  by_cases e:q=o.path
  ·subst e;rw[hv] at hq;injection hq with hq
   subst hq;have hi:=Afw (o:=none) (g:=o.at_.toNat) (x:=x0) hK (by simp);have hks:(Eff.on ⟨none,some (v,o.at_.toNat,x0)⟩ S).kids v=putL none o.at_.toNat x0 (S.kids v):=if_pos rfl;rw[decide_eq_true rfl,Asb];have hlen:(rmo none ((S.kids v).take k.toNat)).length=k.toNat:=by show((S.kids v).take k.toNat).length=_;rw[Ar1];omega
   rw[hlen,←hks] at hi
   by_cases e2:o.at_≤k
   ·rw[decide_eq_true e2,cond_true];rw[if_pos (by omega)] at hi;rw[show k+1=((k.toNat+1:Nat):Int) by omega,Di];exact hi
   ·rw[decide_eq_false e2,cond_false];rw[if_neg (by omega)] at hi;rw[show k=((k.toNat:Nat):Int) by omega,Di];exact hi
  ·have hz:z≠v:=λc=>by
    subst c;exact e (B5 _ _ h hn hq hv)
   rw[decide_eq_false e,Asy,cond_false];have hks:(Eff.on ⟨none,some (v,o.at_.toNat,x0)⟩ S).kids z=S.kids z:=if_neg hz;rw[show k=((k.toNat:Nat):Int) by omega,Di,hks];exact hK
 |del u hk1 hne hu=>
  obtain⟨f,hf,hl,hj⟩:=Jy hne hu;have hnk: ¬ (q=o.path.dropLast∧k=lastP o.path):=λ⟨c1,c2⟩=>by
   subst c1;subst c2;rw[hf] at hq;injection hq with hq
   subst hq;rw[hj] at hK;injection hK with hK
   exact hw (congrArg some hK)
  have hlen:=N1 (g:=k.toNat) h hn hne hu hq (by omega);have hg:=Afv (o:=some u) hK hw;rw[decide_eq_false (show ¬o.kind=1 by omega),cond_false,show(decide (q=o.path.dropLast)&&decide (k=lastP o.path))=false by rw[←Bool.decide_and];exact decide_eq_false hnk,cond_false,decide_eq_false (show ¬o.kind=3 by omega),Asy,cond_false];refine⟨_,rfl,?_⟩;rw[show((k.toNat:Nat):Int)=k by omega] at hlen;rw[←hlen,At1,Di];exact hg
 |mov u v hk1 hne hww hu hv h0 hgl=>
  obtain⟨f,hf,hl,hj⟩:=Jy hne hu;have hnk: ¬ (q=o.path.dropLast∧k=lastP o.path):=λ⟨c1,c2⟩=>by
   subst c1;subst c2;rw[hf] at hq;injection hq with hq
   subst hq;rw[hj] at hK;injection hK with hK
   exact hw (congrArg some hK)
  have hlen:=N1 (g:=k.toNat) h hn hne hu hq (by omega);rw[decide_eq_false (show ¬o.kind=1 by omega),cond_false,show(decide (q=o.path.dropLast)&&decide (k=lastP o.path))=false by rw[←Bool.decide_and];exact decide_eq_false hnk,cond_false,decide_eq_true hk1,Asb];refine⟨_,rfl,?_⟩;rw[show((k.toNat:Nat):Int)=k by omega] at hlen;rw[←hlen]
  by_cases e:q=o.to
  ·subst e;rw[hv] at hq;injection hq with hq
   subst hq;have hi:=Afw (o:=some u) (g:=o.at_.toNat) (x:=u) hK hw;have hks:(Eff.on ⟨some u,some (v,o.at_.toNat,u)⟩ S).kids v=putL (some u) o.at_.toNat u (S.kids v):=if_pos rfl;rw[decide_eq_true rfl,Asb];rw[←hks] at hi
   by_cases e2:o.at_≤k
   ·rw[decide_eq_true e2,cond_true];rw[if_pos (by omega)] at hi;exact(Di (S:=Eff.on ⟨some u,some (v,o.at_.toNat,u)⟩ S) _).trans hi
   ·rw[decide_eq_false e2,cond_false,At1];rw[if_neg (by omega)] at hi;exact(Di _).trans hi
  ·have hz:z≠v:=λc=>by
    subst c;exact e (B5 _ _ h hn hq hv)
   rw[decide_eq_false e,Asy,cond_false,At1];have hks:(Eff.on ⟨some u,some (v,o.at_.toNat,u)⟩ S).kids z=rmo (some u) (S.kids z):=if_neg hz;have hg:=Afv (o:=some u) hK hw;rw[Di,hks];exact hg
end
section
variable {α:Type} [DecidableEq α]
omit [DecidableEq α] in
theorem Cy {p q:List Int}(h:within p q=true): ∃s,q=p++s:=by
 unfold within at h;have:=of_decide_eq_true h;exact⟨q.drop p.length,by conv=>lhs;rw[←Ar4 p.length q,←this]⟩
omit [DecidableEq α] in
theorem Ho (p s:List Int):within p (p++s)=true:=by
 unfold within;simp
theorem Zi {S:Gr α}{r x0 z w:α}{t:Tree}{o:OpT}{e:Eff α}{q q':List Int}{k:Int}(h:Unf S r t)(hn:(labs S r t).Nodup)(A:Act S r x0 o e)(hm:movesO o=true)(hq:res S r q=some z)(hk:kidS S z k=some w)(hne:o.kind=1∨o.path≠q++ [k])
  (h1:nodeP o q=some q') (h2:res (e.on S) r q'=some z): ∃p',nodeP o (q++ [k])=some p'∧res (e.on S) r p'=some w:=by
 have hqk:res S r (q++ [k])=some w:=by rw[Db,hq];exact hk
 have hw:e.out≠some w:=by
  cases A with
  |ins v hk1=>exact λc=>by cases c
  |del u hk1 hne' hu=>
   intro c;injection c with c
   subst c
   rcases hne with c|c
   ·omega
   ·exact c (B5 _ _ h hn hu hqk)
  |mov u v hk1 hne' hww hu=>
   intro c;injection c with c
   subst c
   rcases hne with c|c
   ·omega
   ·exact c (B5 _ _ h hn hu hqk)
 obtain⟨k',c1,c2⟩:=Amc h hn A hq hk hw;refine⟨q'++ [k'],?_,?_⟩
 ·rw[Ai4 hm q k (λ⟨g1,g2⟩=>by
   rcases hne with c|c
   ·omega
   ·exact c g2),h1,c1]
  rfl
 ·rw[Db,h2];exact c2
theorem Ua {S:Gr α}{r x0:α}{t:Tree}{o:OpT}{e:Eff α}(h:Unf S r t)(hn:(labs S r t).Nodup)(A:Act S r x0 o e)(hm:movesO o=true):
  ∀(n:Nat) (p:List Int) (z:α),p.length=n->res S r p=some z->(o.kind=1∨within o.path p=false)-> ∃p',nodeP o p=some p'∧res (e.on S) r p'=some z
 |0,p,z,hl,hp,_=>by
  rw[Ard] at hl;subst hl;exact⟨[],Ai5,hp⟩
 |n+1,p,z,hl,hp,hw=>by
  have hne:p≠[]:=λc=>by rw[c] at hl;cases hl
  have e1:=G5 hne;have hp':=hp;rw[←e1,Db] at hp';cases hq:res S r p.dropLast with
  |none=>rw[hq] at hp';cases hp'
  |some y=>
   rw[hq] at hp';have hw2:o.kind=1∨within o.path p.dropLast=false:=by
    rcases hw with c|c
    ·exact .inl c
    ·rw[←e1,Nd,Asw] at c;exact .inr c.1
   obtain⟨q',c1,c2⟩:=Ua h hn A hm n p.dropLast y (by simp[hl]) hq hw2;have hne2:o.kind=1∨o.path≠p.dropLast++ [lastP p]:=by
    rcases hw with c|c
    ·exact .inl c
    ·refine .inr λg=> ?_;rw[e1] at g;rw[g] at c;have:=Ho p [];rw[Asc] at this;rw[this] at c;cases c
   have:=Zi h hn A hm hq hp' hne2 c1 c2;rw[e1] at this;exact this
theorem Qr {S:Gr α}{r u v:α}{t:Tree}{o:OpT}(h:Unf S r t)(hn:(labs S r t).Nodup)(hne:o.path≠[])(hu:res S r o.path=some u)(hv:res S r o.to=some v)(h0:0≤o.at_)(hg:o.at_.toNat≤(S.kids v).length):
  (bif decide (o.path.dropLast=o.to)&&decide (lastP o.path<o.at_) then o.at_-1 else o.at_)=((rm u ((S.kids v).take o.at_.toNat)).length:Int):=by
 rw[N1 h hn hne hu hv hg,show((o.at_.toNat:Nat):Int)=o.at_ by omega,show decide (o.to=o.path.dropLast)=decide (o.path.dropLast=o.to) from decide_eq_decide.2 ⟨Eq.symm,Eq.symm⟩]
theorem D0 {S:Gr α}{r x0 z:α}{t:Tree}{o:OpT}{e:Eff α}{p:List Int}(h:Unf S r t)(hn:(labs S r t).Nodup)(A:Act S r x0 o e)(hm:movesO o=true)(hp:res S r p=some z)(hd: ¬ (o.kind=2∧within o.path p=true)):
  ∃p',nodeP o p=some p'∧res (e.on S) r p'=some z:=by
 by_cases hw:o.kind=1∨within o.path p=false
 ·exact Ua h hn A hm _ p z rfl hp hw
 ·have hw':within o.path p=true:=by
   cases hc:within o.path p with
   |true=>rfl
   |false=>exact absurd (.inr hc) hw
  obtain⟨s,hs⟩:=Cy hw';subst hs;cases A with
  |ins v hk1=>exact absurd (.inl hk1) hw
  |del u hk1=>exact absurd ⟨hk1,hw'⟩ hd
  |mov u v hk1 hne hww hu hv h0 hg=>
   have A:Act S r x0 o ⟨some u,some (v,o.at_.toNat,u)⟩:=.mov u v hk1 hne hww hu hv h0 hg;have base: ∃p',nodeP o o.path=some p'∧res (Eff.on ⟨some u,some (v,o.at_.toNat,u)⟩ S) r p'=some u:=by
    obtain⟨q',c1,c2⟩:=Ua h hn A hm _ o.to v rfl hv (.inr hww);refine⟨_,Agz hm hk1,?_⟩;rw[c1,Ath,Db,c2,Qr h hn hne hu hv h0 hg];show kidS _ v _=some u;rw[Di];have hks:(Eff.on ⟨some u,some (v,o.at_.toNat,u)⟩ S).kids v=putL (some u) o.at_.toNat u (S.kids v):=if_pos rfl;rw[hks];exact Afx
   have key: ∀(n:Nat) (s:List Int) (y:α),s.length=n->res S r (o.path++s)=some y-> ∃p',nodeP o (o.path++s)=some p'∧res (Eff.on ⟨some u,some (v,o.at_.toNat,u)⟩ S) r p'=some y:=by
    intro n
    induction n with
    |zero=>
     intro s y hl hy;rw[Ard] at hl;subst hl;rw[Asc] at hy ⊢;rw[hu] at hy;injection hy with hy
     subst hy;exact base
    |succ n ih=>
     intro s y hl hy;have hne2:s≠[]:=λc=>by rw[c] at hl;cases hl
     have e1:=G5 hne2;rw[←e1,←Arz] at hy ⊢;have hy':=hy;rw[Db] at hy';cases hq:res S r (o.path++s.dropLast) with
     |none=>rw[hq] at hy';cases hy'
     |some m=>
      rw[hq] at hy';obtain⟨q',c1,c2⟩:=ih s.dropLast m (by simp[hl]) hq;refine Zi h hn A hm hq hy' (.inr λg=> ?_) c1 c2;have:=congrArg List.length g;simp only[Arb,Aq8,Arc] at this;omega
   exact key _ s z rfl hp
theorem Afy {S:Gr α}{r x0 z:α}{t:Tree}{o:OpT}{e:Eff α}{p p':List Int}{g:Int}(first:Bool)(h:Unf S r t)(hn:(labs S r t).Nodup)(A:Act S r x0 o e)(hm:movesO o=true)(hp:res S r p=some z)(hN:nodeP o p=some p')(h0:0≤g)(hg:g.toNat≤(S.kids z).length):
  gapP o p g first=(p',(e.gap S z g.toNat first:Int),true):=by
 unfold gapP;rw[hN];simp only[hm,Arm,cond_false,Prod.mk.injEq,true_and,and_true];unfold Eff.gap;have hgi:((g.toNat:Nat):Int)=g:=by omega
 have put: ∀(v:α) (to:List Int),res S r to=some v->o.at_.toNat=o.at_->((bif(decide (p=to)&& (decide (o.at_<g)|| (decide (g=o.at_)&& !first))) then 1 else 0:Int))=((if z=v then after g.toNat o.at_.toNat first else 0:Nat):Int):=by
  intro v to hv ha
  by_cases c:p=to
  ·subst c;rw[hp] at hv;injection hv with hv
   rw[if_pos hv,decide_eq_true rfl,Asb];unfold after
   by_cases c1:o.at_<g
   ·rw[decide_eq_true c1,if_pos (by omega)];rfl
   ·rw[decide_eq_false c1,Aux]
    by_cases c2:g=o.at_
    ·rw[decide_eq_true c2,Asb];cases first
     ·rw[if_pos (by simp;omega)];rfl
     ·rw[if_neg (by simp;omega)];rfl
    ·rw[decide_eq_false c2,if_neg (by omega)];rfl
  ·have hz:z≠v:=λk=>c (by
    subst k;exact B5 _ _ h hn hp hv)
   rw[if_neg hz,decide_eq_false c];rfl
 cases A with
 |ins v hk1 hv ha hga=>
  have e1:(chgO o).takes=false:=by unfold chgO;simp[hk1]
  have e2:(chgO o).puts=true:=by unfold chgO;simp[hk1]
  have e3:(chgO o).to=o.path:=by unfold chgO;simp[hk1]
  have e4:(chgO o).gap=o.at_:=rfl;rw[e1,e2,e3,e4,Asy,cond_false,Asb,put v o.path hv (by omega)];simp only[rmo,Ar1,Atv hg,Int.natCast_add,hgi]
 |del u hk1 hne hu=>
  have e1:(chgO o).takes=true:=by unfold chgO;simp[hk1]
  have e2:(chgO o).puts=false:=by unfold chgO;simp[hk1]
  have e3:(chgO o).frm=o.path.dropLast:=by unfold chgO;simp[hk1]
  have e4:(chgO o).at_=lastP o.path:=by unfold chgO;simp[hk1]
  have hl:=N1 h hn hne hu hp hg;rw[hgi] at hl;rw[e1,e2,e3,e4,Asy,cond_false,Asb,At1,Avv];exact hl.symm
 |mov u v hk1 hne hww hu hv ha hga=>
  have e1:(chgO o).takes=true:=by unfold chgO;simp[hk1]
  have e2:(chgO o).puts=true:=by unfold chgO;simp[hk1]
  have e3:(chgO o).frm=o.path.dropLast:=by unfold chgO;simp[hk1]
  have e4:(chgO o).at_=lastP o.path:=by unfold chgO;simp[hk1]
  have e5:(chgO o).to=o.to:=by unfold chgO;simp[hk1]
  have e6:(chgO o).gap=o.at_:=rfl;have hl:=N1 h hn hne hu hp hg;rw[hgi] at hl;rw[e1,e2,e3,e4,e5,e6,Asb,Asb,put v o.to hv (by omega),Int.natCast_add]
  congr 1
  rw[Avv];exact hl.symm
end
end Bow
