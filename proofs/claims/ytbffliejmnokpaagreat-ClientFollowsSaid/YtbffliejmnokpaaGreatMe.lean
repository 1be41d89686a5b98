/- The library, part 5: W43a, W49, W50, W51, W52, W53, SP23, SP29, W54, W55, W56, W57, W58, W59, SP20, SP38, SP70, SP71, AE62, W117, AE57, AE63, AE64, AE65, AE66, W118, W60, W48. -/
import Derived.Test.YtbffliejmnokpaaGreatMd
import Derived.Test.YtbffliejmnokpaaGreatMc
set_option maxRecDepth 100000
set_option maxHeartbeats 4000000
namespace Bow
open Go Go.Proofs
def AllV (r:Tree×Nat×Int):V:=.tup [nodeV r.1,.int .i64 r.2.1,.int .i64 r.2.2]
theorem allZ (i:Nat)(e:Int): ∃y,Wk (.tup [zeroV .nilsl,.int .i64 i,.int .i64 e]) y∧y.pureB=true∧y=AllV (zeroT0,i,e):=
 ⟨_,Wk.tup (ys:=[nodeV zeroT0,.int .i64 i,.int .i64 e]) ⟨Ye (ss:=[]) (Wk.nil 6),.refl _,.refl _,trivial⟩,rfl,rfl⟩
theorem Pz (t:Tree)(l:List OpT)(hw:t.weight+costs l≤400000)(hl:l.length≤1000000)(hok: ∀o∈l,o.Ok):Pure Tryz.prog 18 [nodeV t,opsV l] (λx=>x=AllV (AllR t l)):=by
 refine Aj (Ad 300 Tryz.func18 rfl rfl rfl λB=> ?_);show CallThen _ _ _ _ _ _;refine Aa (Tg t (by omega)) rfl ?_;rintro x rfl;refine⟨λg=>go 300 ?_,λg=>go 300 ?_⟩
 ·have hr:rightT t=false:=by simpa using g
  refine⟨trivial,rfl,rfl,rfl,?_⟩;have e:AllR t l=(zeroT0,0,2):=by unfold AllR;rw[hr];rfl
  rw[e];exact allZ 0 2
 have hr:rightT t=true:=by simpa using g
 have e:AllR t l=allR t l 0:=by unfold AllR;rw[hr];rfl
 rw[e];show Goes _ _ _ _;refine Ak (ι:=Nat×Tree) (λi=>i.1≤l.length∧rightT i.2=true∧i.2.weight+costs (l.drop i.1)≤400000∧allR i.2 (l.drop i.1) i.1=allR t l 0) (λi=>l.length-i.1)
  (λi=>[(7,.int .i64 i.1),(1,opsV l),(2,.ptr (.loc 0) 0),(4,.ptr (.loc 1) 0)]) (λi=>[some (.box (nodeV i.2).cells),some (.box (zeroV .nilsl).cells)]) (0,t) 300 (λ_=>rfl) (λ_=>rfl) ⟨⟨Aq4 _,hr,hw,rfl⟩,Zq4,Zq2⟩ ?_
 rintro⟨i,u⟩ ⟨k1,k2,k3,k4⟩ next;simp only at k1 k2 k3 k4;refine⟨λhlt=>go 300 ?_,λhge=>go 300 ?_⟩
 ·have hi:i<l.length:=by simpa using hlt
  have hx:(l.map opV)[i]?=some (opV l[i]):=by simp[hi]
  rw[Aru hi,allR] at k4;rw[Aru hi,costs] at k3;have hap:=Ah1 u l[i] (by omega) (hok _ (Arq hi));show Goes _ _ _ _;refine Ac [] 300 ⟨Aq5 i,_,hx,_,hap,rfl,?_⟩;refine⟨by kernel_rfl,?_⟩;refine⟨by kernel_rfl,?_⟩
  by_cases hv:ValidE u l[i]=0
  ·have e:applyR u l[i]=(applyT u l[i],0):=by unfold applyR;rw[decide_eq_true hv];rfl
   rw[decide_eq_true hv] at k4;have hwt:=K5 hv;rw[e];refine⟨λg=>absurd rfl (A7 g),λ_=>go 300 ?_⟩;refine⟨by constructor<;>omega,?_⟩;show Goes _ _ _ _;exact next (i+1,applyT u l[i]) _ _ ⟨⟨hi,Ds hv,by simp only;omega,k4⟩,by simp only;omega,Zq4,Zq2⟩
  ·have e:applyR u l[i]=(zeroT [],ValidE u l[i]):=by unfold applyR;rw[decide_eq_false hv];rfl
   rw[decide_eq_false hv] at k4;rw[e];refine⟨λ_=>go 300 ?_,λg=>absurd (Bk g) hv⟩;refine⟨trivial,rfl,rfl,rfl,?_⟩;rw[←k4];exact allZ i (ValidE u l[i])
 ·have hi:i=l.length:=by have:=Ah hge;simp at this;omega
  subst hi;rw[Aui,allR] at k4;refine⟨trivial,rfl,rfl,rfl,?_⟩;rw[←k4];exact⟨_,Wk.refl _,rfl,by simp[AllV];rfl⟩
theorem Hu (t:Tree)(l:List OpT)(hw:t.weight+costs l≤400000)(hl:l.length≤1000000)(hok: ∀o∈l,o.Ok):Pure Tryz.prog 52 [nodeV t,opsV l] (λx=>x=AllV (AllR t l)):=by
 refine Aj (Ad 300 Tryz.func52 rfl rfl rfl λB=> ?_);show CallThen _ _ _ _ _ _;refine Aa (Pr t (by omega)) rfl ?_;rintro x rfl;refine⟨λg=>go 300 ?_,λg=>go 300 ?_⟩
 ·have hr:rightT t=false:=by simpa using g
  refine⟨trivial,rfl,rfl,rfl,?_⟩;have e:AllR t l=(zeroT0,0,2):=by unfold AllR;rw[hr];rfl
  rw[e];exact allZ 0 2
 have hr:rightT t=true:=by simpa using g
 have e:AllR t l=allR t l 0:=by unfold AllR;rw[hr];rfl
 rw[e];show Goes _ _ _ _;refine Ak (ι:=Nat×Tree) (λi=>i.1≤l.length∧rightT i.2=true∧i.2.weight+costs (l.drop i.1)≤400000∧allR i.2 (l.drop i.1) i.1=allR t l 0) (λi=>l.length-i.1)
  (λi=>[(16,.int .i64 i.1),(15,.int .i64 (l.map opV).length),(14,opsV l),(1,opsV l),(2,.ptr (.loc 0) 0),(4,.ptr (.loc 1) 0)]) (λi=>[some (.box (nodeV i.2).cells),some (.box (zeroV .nilsl).cells)]) (0,t) 300 (λ_=>rfl) (λ_=>rfl) ⟨⟨Aq4 _,hr,hw,rfl⟩,Zq6,Zq2⟩ ?_
 rintro⟨i,u⟩ ⟨k1,k2,k3,k4⟩ next;simp only at k1 k2 k3 k4;refine⟨λhlt=>go 300 ?_,λhge=>go 300 ?_⟩
 ·have hi:i<l.length:=by simpa using hlt
  have hx:(l.map opV)[i]?=some (opV l[i]):=by simp[hi]
  have ho:=hok _ (Arq hi);have hvr:=Xt k2 l[i];rw[Aru hi,allR] at k4;rw[Aru hi,costs] at k3;refine⟨Aq5 i,_,hx,?_⟩;show CallThen _ _ _ _ _ _;refine Aa (Ha l[i] ho.lt ho.each) rfl ?_;rintro x rfl;refine⟨λg=>go 300 ?_,λg=>go 300 ?_⟩
  ·rw[g] at hvr;have hvr:ValidE u l[i]=validE u l[i]:=hvr;show CallThen _ _ _ _ _ _;refine Aa (Apd u l[i] (by omega) ho) rfl ?_;rintro x rfl;rw[←hvr]
   by_cases hv:ValidE u l[i]=0
   ·rw[decide_eq_true hv] at k4;have hwt:=K5 hv;refine⟨λg=>absurd hv (A7 g),λ_=>go 300 ?_⟩;show CallThen _ _ _ _ _ _;refine Aa (Anl u l[i] (by omega) ho hv) rfl ?_;rintro x rfl;refine⟨by constructor<;>omega,?_⟩;show Goes _ _ _ _;exact next (i+1,applyT u l[i]) _ _ ⟨⟨hi,Ds hv,by simp only;omega,k4⟩,by simp only;omega,Zq6,Zq2⟩
   ·rw[decide_eq_false hv] at k4;refine⟨λ_=>go 300 ?_,λg=>absurd (Bk g) hv⟩;refine⟨trivial,rfl,rfl,rfl,?_⟩;rw[←k4];exact allZ i (ValidE u l[i])
  ·rw[g] at hvr;have hvr:ValidE u l[i]=80:=hvr;rw[hvr] at k4;refine⟨λ_=>go 300 ?_,λg=>absurd (Bk g) (by decide)⟩;refine⟨trivial,rfl,rfl,rfl,?_⟩;rw[←k4];exact allZ i 80
 ·have hi:i=l.length:=by have:=Ah hge;simp at this;omega
  subst hi;rw[Aui,allR] at k4;refine⟨trivial,rfl,rfl,rfl,?_⟩;rw[←k4];exact⟨_,Wk.refl _,rfl,by simp[AllV];rfl⟩
theorem N5 (o:OpT)(ho:o.Ok):Pure Tryz.prog 220 [opV o] (λx=>x=.bool (movesO o)):=by
 refine Aj (Ad 300 Tryz.func220 rfl rfl rfl λB=> ?_);show CallThen _ _ _ _ _ _;refine Aa (Ha o ho.lt ho.each) rfl ?_;rintro x rfl;have hW:=Cj o.path o.to ho.lt.path
 repeat' first
  | (refine⟨λ_=>go 300 ?_,λ_=>go 300 ?_⟩)
  | (show CallThen _ _ _ _ _ _;refine Aa hW rfl ?_;rintro z rfl)
  | (refine⟨trivial,rfl,rfl,rfl,Cu ?_⟩)
  | (refine⟨trivial,rfl,rfl,rfl,Ar ?_⟩)
  | (refine⟨trivial,rfl,rfl,rfl,B8 ?_⟩)
  |fail
 all_goals (clear hW;simp_all[movesO])
theorem Ig {o:OpT}(h:movesO o=true):o.kind≠1->o.path≠[]:=λhk e=>by
 unfold movesO at h;rw[e,decide_eq_false hk] at h;simp at h
theorem Ak9 {n m:Int}(h:n=m):V.int .i64 n=V.int .i64 m:=by rw[h]
def chgV (c:Chg):V:=.agg [.bool c.takes,.bool c.puts,pathV c.frm,pathV c.to,.int .i64 c.at_,.int .i64 c.gap]
theorem R8 (o:OpT)(ho:o.Ok)(hne:o.kind≠1->o.path≠[]):Pure Tryz.prog 221 [opV o] (λx=>x=chgV (chgO o)):=by
 refine Aj (Ad 300 Tryz.func221 rfl rfl rfl λB=> ?_);refine⟨λg1=>go 300 ?_,λg1=>go 300 ?_⟩
 ·have hk:o.kind=1:=Aw g1;refine⟨λq=>absurd hk (A7 q),λ_=>go 300 ?_⟩;have e:chgO o=⟨!decide (o.kind=1), !decide (o.kind=2),[],o.path,0,o.at_⟩:=by unfold chgO;simp[hk]
  rw[e];exact⟨trivial,rfl,rfl,rfl,chgV ⟨!decide (o.kind=1), !decide (o.kind=2),[],o.path,0,o.at_⟩,Wk.agg ⟨.refl _,.refl _,Wk.nil 1,.refl _,.refl _,.refl _,trivial⟩,rfl,rfl⟩
 ·have hk:o.kind≠1:=Bg g1;refine⟨λ_=>go 300 ?_,λq=>absurd (Bk q) hk⟩;show CallThen _ _ _ _ _ _;refine Aa (Pq o.path ho.lt.path (hne hk)) rfl ?_;rintro x rfl;have e:chgO o=⟨!decide (o.kind=1), !decide (o.kind=2),o.path.dropLast,o.to,o.path.getLast (hne hk),o.at_⟩:=by unfold chgO;rw[Dc];simp[hk]
  rw[e];exact⟨trivial,rfl,rfl,rfl,_,Wk.refl _,rfl,rfl⟩
theorem Adz (c:Chg)(p:List Int)(k:Int)(hp:p.length≤1000000)(hk: -1≤k∧k≤10000000):Pure Tryz.prog 223 [chgV c,pathV p,.int .i64 k] (λx=>x=.int .i64 (c.number p k)):=by
 refine Ad 300 Tryz.func223 rfl rfl rfl λB=> ?_;have h1:=Cg p c.frm hp;have h2:=Cg p c.to hp
 repeat' first
  | (refine⟨λ_=>go 300 ?_,λ_=>go 300 ?_⟩)
  | (show CallThen _ _ _ _ _ _;refine Aa h1 rfl ?_;rintro z rfl)
  | (show CallThen _ _ _ _ _ _;refine Aa h2 rfl ?_;rintro z rfl)
  | (refine⟨trivial,rfl,rfl,rfl,Ak9 ?_⟩)
  | (refine⟨by constructor<;>omega,?_⟩)
  |fail
 all_goals (unfold Chg.number;try simp_all)
 all_goals (first| (simp[show ¬ (c.gap≤k) by omega,show ¬ (c.at_<k) by omega];done)| (simp[show ¬ (c.gap≤k) by omega];done)| (simp[show ¬ (c.at_<k) by omega];done))
theorem Ala (c:Chg)(hp:c.frm.length≤1000000)(hk: -1≤c.gap∧c.gap≤10000000):Pure Tryz.prog 222 [chgV c] (λx=>x=.int .i64 c.land):=by
 refine Ad 300 Tryz.func222 rfl rfl rfl λB=> ?_;have h1:=Cg c.frm c.to hp
 repeat' first
  | (refine⟨λ_=>go 300 ?_,λ_=>go 300 ?_⟩)
  | (show CallThen _ _ _ _ _ _;refine Aa h1 rfl ?_;rintro z rfl)
  | (refine⟨trivial,rfl,rfl,rfl,Ak9 ?_⟩)
  | (refine⟨by constructor<;>omega,?_⟩)
  |fail
 all_goals (unfold Chg.land;try simp_all)
 all_goals (simp[show ¬ (c.at_<c.gap) by omega];done)
def NodeS (o:OpT)(q:List Int)(x:V)(T:Heap):Prop:=
 (q=[]∧x=.tup [.nilsl,.tt]∧T=[some (.box (opV o).cells)])∨(∃g,x=.tup [.osl (.loc 1) g 0 q.length,.tt]∧T=[some (.box (opV o).cells),some (.vec g 1 (q.map intV))])
def NodeM (o:OpT)(q:List Int)(x:V)(T:Heap):Prop:=
 ∃g,x=.tup [.osl (.loc 2) g 0 q.length,.tt]∧T=[some (.box (opV o).cells),some (.box (chgV (chgO o)).cells),some (.vec g 1 (q.map intV))]
theorem Aag (c:Chg): ∀(p q:List Int) (k:Int),c.nums q (p++ [k])=c.nums q p++ [c.number (q++p) k]
 | [],q,k=>by simp[Chg.nums]
 |x::p,q,k=>by
  rw[Arx,Chg.nums,Aag c p,Chg.nums];simp
theorem Gf (c:Chg): ∀(p q:List Int),(c.nums q p).length=p.length
 | [],_=>rfl
 |x::p,q=>by rw[Chg.nums,Aq8,Gf c p,Aq8]
theorem Aah (c:Chg){p:List Int}{i:Nat}(h:i<p.length):c.nums [] (p.take (i+1))=c.nums [] (p.take i)++ [c.number (p.take i) p[i]]:=by
 rw[Ask h,Aag];simp
theorem Ah4 (o:OpT)(p:List Int)(ho:o.Ok)(hp:p.length≤1000000)(hm:movesO o=false):
  Fun Tryz.prog 207 [] [opV o,pathV p] (NodeS o p):=by
 refine Ay 300 Tryz.func207 rfl rfl rfl λimps B hi=> ?_;have:imps=[]:=Ard.1 hi;subst this;show CallThen _ _ _ _ _ _;refine Aa (N5 o ho) rfl ?_;rintro x rfl;refine⟨λg1=>go 300 ?_,λg1=>absurd hm (by simpa using g1)⟩;show CallThen _ _ _ _ _ _;refine Ag [] (Jk (p.map intV) (by simpa using hp)) rfl rfl trivial rfl rfl rfl ?_;rintro x T1 (⟨e,rfl,rfl⟩| ⟨rfl,rfl⟩)
 ·refine⟨rfl,?_⟩;refine⟨trivial,rfl,rfl,.inl ⟨by simpa using e,rfl,rfl⟩⟩
 ·refine⟨rfl,?_⟩;refine⟨trivial,rfl,rfl,.inr ⟨2,by simp[resV];rfl,rfl⟩⟩
theorem Agd (o:OpT)(p:List Int)(ho:o.Ok)(hp:p.length≤1000000)(hpb: ∀i∈p,0≤i∧i≤1048576)(hm:movesO o=true)(hb:((chgO o).takes&&within o.path p)=false):
  Fun Tryz.prog 207 [] [opV o,pathV p] (NodeM o ((chgO o).nums [] p)):=by
 refine Ay 300 Tryz.func207 rfl rfl rfl λimps B hi=> ?_;have:imps=[]:=Ard.1 hi;subst this;show CallThen _ _ _ _ _ _;refine Aa (N5 o ho) rfl ?_;rintro x rfl;refine⟨λg1=>absurd hm (by simpa using g1),λg1=>go 300 ?_⟩;have hne:o.kind≠1->o.path≠[]:=Ig hm;unfold NodeM;show CallThen _ _ _ _ _ _;refine Aa (R8 o ho hne) rfl ?_;rintro x rfl;obtain⟨c,hc⟩: ∃c,chgO o=c:=⟨_,rfl⟩;rw[hc] at hb ⊢
 rcases Asd c.takes with ht|ht
 ·rw[ht,Asb] at hb;refine⟨λ_=>go 300 ?_,λq=>absurd (ht.symm.trans q) (by decide)⟩;show CallThen _ _ _ _ _ _;refine Aa (Cj o.path p ho.lt.path) rfl ?_;rintro x rfl;refine⟨λq=>absurd (hb.symm.trans q) (by decide),λ_=>go 300 ?_⟩;show Goes _ _ _ _;refine Dx 7 1 rfl ?_;refine Hd (ι:=Nat×Nat×Nat×List V) (κ:=Nat×Nat×List V) (λi=>i.1≤p.length∧i.2.2.2=(c.nums [] (p.take i.1)).map intV∧i.2.2.1=i.1) (λi=>p.length-i.1)
   (λi=>[(9,.int .i64 i.1),(8,.int .i64 0),(7,.osl (.loc 2) i.2.1 0 i.2.2.1),(6,.ptr (.loc 1) 0),(1,pathV p),(2,.ptr (.loc 0) 0)]) (λi=>[some (.box (opV o).cells),some (.box (chgV c).cells),some (.vec i.2.1 1 i.2.2.2)]) (0,0,0,[])
   (λk=>k.2.1=p.length∧k.2.2=(c.nums [] p).map intV) (λk=>[(7,.osl (.loc 2) k.1 0 k.2.1)]) (λk=>[some (.box (opV o).cells),some (.box (chgV c).cells),some (.vec k.1 1 k.2.2)]) 300 (λ_=>rfl) (λ_=>rfl) (λ_=>rfl) (λ_=>rfl) ⟨⟨Aq4 _,rfl,rfl⟩,Zq6,Zq3⟩ ?_ ?_
  ·rintro⟨g,n,xs⟩ ⟨j1,j2⟩;simp only at j1 j2;subst j1 j2;refine⟨trivial,rfl,rfl,g,?_,rfl⟩;simp[resV,Gf]
  ·rintro⟨i,g,n,xs⟩ ⟨j1,j2,j3⟩ next post;simp only at j1 j2 j3;subst j2;replace j3:=j3.symm;subst j3;refine⟨λhlt=>go 300 ?_,λhge=>go 300 ?_⟩
   ·have hi:i<p.length:=by simpa using hlt
    have hx:(p.map intV)[i]?=some (intV p[i]):=by simp[hi]
    have hbd:=hpb _ (Arq hi);have hnum:=Adz c (p.take i) p[i] (by simp;omega) ⟨by omega,by omega⟩;have et:V.sl 1 (((p.map intV).drop (Int.toNat 0)).take (((i:Nat):Int).toNat-Int.toNat 0))=pathV (p.take i):=by
     unfold pathV;simp
    refine⟨λq=>absurd (Au q) (by omega),λ_=>go 300 ?_⟩;show Goes _ _ _ _;refine Ac [] 300 ?_;refine⟨by decide,Aq5 i,Int.ofNat_le.2 (by simpa using j1),?_⟩;refine⟨Aq5 i,_,hx,?_⟩;have hnum':=hnum;rw[←et] at hnum';refine⟨_,hnum',rfl,?_⟩;have hcl:(c.nums [] (p.take i)).length=i:=by rw[Gf];simp;omega
    refine⟨rfl,⟨rfl,trivial⟩,?_⟩;refine⟨rfl,rfl,rfl,rfl,by simp[hcl],Co (by simp[hcl];omega) (by decide),?_⟩;refine⟨by kernel_rfl,?_⟩
    try refine⟨by kernel_rfl,?_⟩
    refine⟨⟨by omega,by omega⟩,?_⟩;refine next (i+1,bump g,i+1,(c.nums [] (p.take i)).map intV++ [intV (c.number (p.take i) p[i])]) _ _ ⟨⟨hi,?_,rfl⟩,?_,?_,?_⟩
    ·simp only;rw[Aah c hi,Asr];rfl
    ·simp only;omega
    ·refine⟨⟨rfl,rfl⟩,⟨rfl,rfl⟩,⟨?_,rfl⟩,⟨rfl,rfl⟩,⟨rfl,rfl⟩,⟨rfl,rfl⟩,trivial⟩;simp[hcl];rfl
    ·refine⟨⟨rfl,rfl⟩,⟨rfl,rfl⟩,⟨?_,rfl⟩,trivial⟩;rfl
   ·have hi:i=p.length:=by have:p.length≤i:=(by simpa using hge);omega
    subst hi;rw[Asj];exact post (g,_,_) _ _ _ rfl ⟨⟨rfl,rfl⟩,Zq1,Zq3⟩
 ·refine⟨λq=>absurd (ht.symm.trans q) (by decide),λ_=>go 300 ?_⟩;show Goes _ _ _ _;refine Dx 7 1 rfl ?_;refine Hd (ι:=Nat×Nat×Nat×List V) (κ:=Nat×Nat×List V) (λi=>i.1≤p.length∧i.2.2.2=(c.nums [] (p.take i.1)).map intV∧i.2.2.1=i.1) (λi=>p.length-i.1)
   (λi=>[(9,.int .i64 i.1),(8,.int .i64 0),(7,.osl (.loc 2) i.2.1 0 i.2.2.1),(6,.ptr (.loc 1) 0),(1,pathV p),(2,.ptr (.loc 0) 0)]) (λi=>[some (.box (opV o).cells),some (.box (chgV c).cells),some (.vec i.2.1 1 i.2.2.2)]) (0,0,0,[])
   (λk=>k.2.1=p.length∧k.2.2=(c.nums [] p).map intV) (λk=>[(7,.osl (.loc 2) k.1 0 k.2.1)]) (λk=>[some (.box (opV o).cells),some (.box (chgV c).cells),some (.vec k.1 1 k.2.2)]) 300 (λ_=>rfl) (λ_=>rfl) (λ_=>rfl) (λ_=>rfl) ⟨⟨Aq4 _,rfl,rfl⟩,Zq6,Zq3⟩ ?_ ?_
  ·rintro⟨g,n,xs⟩ ⟨j1,j2⟩;simp only at j1 j2;subst j1 j2;refine⟨trivial,rfl,rfl,g,?_,rfl⟩;simp[resV,Gf]
  ·rintro⟨i,g,n,xs⟩ ⟨j1,j2,j3⟩ next post;simp only at j1 j2 j3;subst j2;replace j3:=j3.symm;subst j3;refine⟨λhlt=>go 300 ?_,λhge=>go 300 ?_⟩
   ·have hi:i<p.length:=by simpa using hlt
    have hx:(p.map intV)[i]?=some (intV p[i]):=by simp[hi]
    have hbd:=hpb _ (Arq hi);have hnum:=Adz c (p.take i) p[i] (by simp;omega) ⟨by omega,by omega⟩;have et:V.sl 1 (((p.map intV).drop (Int.toNat 0)).take (((i:Nat):Int).toNat-Int.toNat 0))=pathV (p.take i):=by
     unfold pathV;simp
    refine⟨λq=>absurd (Au q) (by omega),λ_=>go 300 ?_⟩;show Goes _ _ _ _;refine Ac [] 300 ?_;refine⟨by decide,Aq5 i,Int.ofNat_le.2 (by simpa using j1),?_⟩;refine⟨Aq5 i,_,hx,?_⟩;have hnum':=hnum;rw[←et] at hnum';refine⟨_,hnum',rfl,?_⟩;have hcl:(c.nums [] (p.take i)).length=i:=by rw[Gf];simp;omega
    refine⟨rfl,⟨rfl,trivial⟩,?_⟩;refine⟨rfl,rfl,rfl,rfl,by simp[hcl],Co (by simp[hcl];omega) (by decide),?_⟩;refine⟨by kernel_rfl,?_⟩
    try refine⟨by kernel_rfl,?_⟩
    refine⟨⟨by omega,by omega⟩,?_⟩;refine next (i+1,bump g,i+1,(c.nums [] (p.take i)).map intV++ [intV (c.number (p.take i) p[i])]) _ _ ⟨⟨hi,?_,rfl⟩,?_,?_,?_⟩
    ·simp only;rw[Aah c hi,Asr];rfl
    ·simp only;omega
    ·refine⟨⟨rfl,rfl⟩,⟨rfl,rfl⟩,⟨?_,rfl⟩,⟨rfl,rfl⟩,⟨rfl,rfl⟩,⟨rfl,rfl⟩,trivial⟩;simp[hcl];rfl
    ·refine⟨⟨rfl,rfl⟩,⟨rfl,rfl⟩,⟨?_,rfl⟩,trivial⟩;rfl
   ·have hi:i=p.length:=by have:p.length≤i:=(by simpa using hge);omega
    subst hi;rw[Asj];exact post (g,_,_) _ _ _ rfl ⟨⟨rfl,rfl⟩,Zq1,Zq3⟩
theorem Kf {o:OpT}(h:movesO o=true):formedB o=true∧(o.kind=1∨(o.kind=2∧o.path≠[])∨(o.kind=3∧o.path≠[]∧within o.path o.to=false)):=by
 have hne:=Ig h;unfold movesO at h;rw[Aq6] at h;refine⟨h.1,?_⟩;have h2:=h.2
 by_cases k1:o.kind=1
 ·exact .inl k1
 ·by_cases k2:o.kind=2
  ·exact .inr (.inl ⟨k2,hne k1⟩)
  ·rw[decide_eq_false k1,decide_eq_false k2] at h2
   by_cases k3:o.kind=3
   ·rw[decide_eq_true k3] at h2;simp only[cond_false,cond_true,Aq6,Atn] at h2;exact .inr (.inr ⟨k3,hne k1,h2.2⟩)
   ·rw[decide_eq_false k3] at h2;cases h2
theorem Ey {p:List Int}(h:mayP p=true):p.length≤64:=by
 unfold mayP at h;rw[Aq6] at h;exact of_decide_eq_true h.1
theorem Jl {o:OpT}(hf:formedB o=true)(hk:o.kind=1∨o.kind=3):0≤o.at_∧o.at_≤1048576:=by
 unfold formedB at hf;rw[Aq6] at hf;have hf2:=hf.2
 rcases hk with hk|hk
 ·simp only[hk] at hf2;have hf3:(gapOk o.at_&&decide ((o.label.length:Int)≤64))=true:=hf2;unfold gapOk at hf3;simp only[Aq6,decide_eq_true_eq] at hf3;exact hf3.1
 ·simp only[hk] at hf2;have hf3:(gapOk o.at_&&mayP o.to)=true:=hf2;unfold gapOk at hf3;simp only[Aq6,decide_eq_true_eq] at hf3;exact hf3.1
def nodeRV:Option (List Int)->V
 |none=>.tup [pathV [],.ff]
 |some q=>.tup [pathV q,.tt]
theorem Aph (o:OpT)(p:List Int)(ho:o.Ok)(hp:p.length≤1000)(_hpb: ∀i∈p,0≤i∧i≤1048576)(hm:movesO o=true)(hb:((chgO o).takes&&within o.path p)=true):
  Pure Tryz.prog 207 [opV o,pathV p] (λx=>x=nodeRV (nodeP o p)):=by
 simp only[Aq6] at hb;obtain⟨ht,hwi⟩:=hb;obtain⟨hf,hkk⟩:=Kf hm;have hpl:=El (Bc hf);have hwl:=Hm hwi;refine Aj (Ad 300 Tryz.func207 rfl rfl rfl λB=> ?_);show CallThen _ _ _ _ _ _;refine Aa (N5 o ho) rfl ?_;rintro x rfl;refine⟨λg1=>absurd hm (by simpa using g1),λg1=>go 300 ?_⟩;show CallThen _ _ _ _ _ _;refine Aa (R8 o ho (Ig hm)) rfl ?_;rintro x rfl;refine⟨λ_=>go 300 ?_,λq=>absurd (ht.symm.trans q) (by decide)⟩;show CallThen _ _ _ _ _ _;refine Aa (Cj o.path p ho.lt.path) rfl ?_;rintro x rfl;refine⟨λ_=>go 300 ?_,λq=>absurd (hwi.symm.trans q) (by decide)⟩
 rcases Asd (chgO o).puts with hq|hq
 case inr=>
  have e:nodeP o p=none:=by unfold nodeP;rw[hm,ht,hwi,hq];rfl
  rw[e];refine⟨λ_=>go 300 ?_,λq=>absurd q (by rw[hq];simp)⟩;exact⟨trivial,rfl,rfl,rfl,nodeRV none,Wk.tup ⟨Wk.nil 1,.refl _,trivial⟩,rfl,rfl⟩
 have e:nodeP o p=some ((chgO o).nums [] o.to++ [(chgO o).land]++p.drop o.path.length):=by unfold nodeP;rw[hm,ht,hwi,hq];rfl
 rw[e];refine⟨λq=>absurd q (by rw[hq];simp),λ_=>go 300 ?_⟩;have hk3:o.kind=3∧o.path≠[]∧within o.path o.to=false:=by
  rcases hkk with k| ⟨k,_⟩|h
  ·unfold chgO at ht;simp[k] at ht
  ·unfold chgO at hq;simp[k] at hq
  ·exact h
 obtain⟨hk3,hne,hwt⟩:=hk3;have htl:=El (Iq hf hk3);have htn:o.to.length≤64:=Ey (Iq hf hk3);have hgap:=Jl hf (.inr hk3);have hrec:=Agd o o.to ho (by omega) htl hm (by rw[hwt];simp);have hpos:0<o.path.length:=Arw.2 hne;have hcf:(chgO o).frm.length≤1000000:=by unfold chgO;simp[hk3];have:=ho.lt.path;omega
 have hcg:(chgO o).gap=o.at_:=rfl;have hland:=Ala (chgO o) hcf ⟨by rw[hcg];omega,by rw[hcg];omega⟩;unfold NodeM at hrec;obtain⟨c,hc⟩: ∃c,chgO o=c:=⟨_,rfl⟩;rw[hc] at hrec hland ⊢;show CallThen _ _ _ _ _ _;refine Ag [] hrec rfl rfl trivial rfl rfl rfl ?_;rintro x T1 ⟨G,rfl,rfl⟩;refine⟨rfl,?_⟩;show CallThen _ _ _ _ _ _;refine Aa hland rfl ?_;rintro x rfl;refine⟨⟨rfl,trivial⟩,rfl,rfl,rfl,by simp,Co (by simp[Gf];omega) (by decide),?_⟩;show Goes _ _ _ _;refine Hd (ι:=Nat×Nat×Nat×List V) (κ:=Nat×Nat×List V) (λi=>o.path.length≤i.1∧i.1≤p.length∧ ∃acc:List Int,i.2.2.2=acc.map intV∧i.2.2.1=acc.length∧acc.length≤1000+i.1∧acc++p.drop i.1=c.nums [] o.to++ [c.land]++p.drop o.path.length) (λi=>p.length-i.1)
  (λi=>[(9,.int .i64 i.1),(8,.int .i64 (o.path.map intV).length),(7,.osl (.loc 4) i.2.1 0 i.2.2.1),(6,.ptr (.loc 1) 0),(1,pathV p),(2,.ptr (.loc 0) 0)]) (λi=>[some (.box (opV o).cells),some (.box (chgV c).cells),some (.box (opV o).cells),some (.box (chgV c).cells),some (.vec i.2.1 1 i.2.2.2)]) ((o.path.map intV).length,bump G,_,_)
  (λk=> ∃acc:List Int,k.2.2=acc.map intV∧k.2.1=acc.length∧acc=c.nums [] o.to++ [c.land]++p.drop o.path.length) (λk=>[(7,.osl (.loc 4) k.1 0 k.2.1)]) (λk=>[some (.box (opV o).cells),some (.box (chgV c).cells),some (.box (opV o).cells),some (.box (chgV c).cells),some (.vec k.1 1 k.2.2)]) 300 (λ_=>rfl) (λ_=>rfl) (λ_=>rfl) (λ_=>rfl) ⟨⟨by simp,by simpa using hwl,c.nums [] o.to++ [c.land],by simp[intV],by simp,by simp[Gf];omega,by simp⟩,Zq6,Zq5⟩ ?_ ?_
 ·rintro⟨g,n,xs⟩ ⟨acc,h1,h2,h3⟩;simp only at h1 h2 h3;subst h1 h2 h3;exact⟨trivial,rfl,rfl,rfl,by simp,rfl,nodeRV (some _),Wk.refl _,rfl,rfl⟩
 ·rintro⟨i,g,n,xs⟩ ⟨j0,j1,acc,j4,j5,j2,j3⟩ next post;simp only at j0 j1 j2 j3 j4 j5;subst j4;subst j5;refine⟨λhlt=>go 300 ?_,λhge=>go 300 ?_⟩
  ·have hi:i<p.length:=by simpa using hlt
   have hx:(p.map intV)[i]?=some (intV p[i]):=by simp[hi]
   rw[Aru hi] at j3;refine⟨λ_=>go 300 ?_,λq=>absurd (Ah q) (by simp;omega)⟩;refine⟨Aq5 i,_,hx,⟨rfl,trivial⟩,rfl,rfl,rfl,by simp,Co (by simp;omega) (by decide),?_⟩;refine⟨by constructor<;>omega,?_⟩;show Goes _ _ _ _;refine next (i+1,bump g,_,_) _ _ ⟨⟨by simp only;omega,hi,acc++ [p[i]],?_,?_,?_,?_⟩,?_,Zq6,Zq5⟩
   ·simp[intV]
   ·simp
   ·simp;omega
   ·rw[←j3];simp
   ·simp only;omega
  ·have hi:i=p.length:=by have:p.length≤i:=(by simpa using hge);omega
   subst hi;rw[Aui,Asc] at j3;exact post (g,_,_) _ _ _ rfl ⟨⟨acc,rfl,rfl,j3⟩,Zq1,Zq5⟩
theorem Rk (o:OpT)(p:List Int)(ho:o.Ok)(hp:p.length≤1000)(hpb: ∀i∈p,0≤i∧i≤1048576):Pure Tryz.prog 207 [opV o,pathV p] (λx=>x=nodeRV (nodeP o p)):=by
 rcases Asd (movesO o) with hm|hm
 ·rcases Asd ((chgO o).takes&&within o.path p) with hb|hb
  ·exact Aph o p ho hp hpb hm hb
  ·have e:nodeP o p=some ((chgO o).nums [] p):=by unfold nodeP;simp only[hm,hb];rfl
   rw[e];refine Aj (Gl (Fun.mono (Agd o p ho (by omega) hpb hm hb) λx T h=> ?_));obtain⟨g,rfl,rfl⟩:=h;exact⟨rfl,by simp,rfl,nodeRV (some _),Wk.refl _,rfl,rfl⟩
 ·have e:nodeP o p=some p:=by unfold nodeP;rw[hm];rfl
  rw[e];refine Aj (Gl (Fun.mono (Ah4 o p ho (by omega) hm) λx T h=> ?_))
  rcases h with⟨rfl,rfl,rfl⟩| ⟨g,rfl,rfl⟩
  ·exact⟨rfl,nodeRV (some []),Wk.tup ⟨Wk.nil 1,.refl _,trivial⟩,rfl,rfl⟩
  ·exact⟨rfl,by simp,rfl,nodeRV (some _),Wk.refl _,rfl,rfl⟩
def gapV (r:List Int×Int×Bool):V:=.tup [pathV r.1,.int .i64 r.2.1,.bool r.2.2]
theorem Ad1 {q:List Int}{n:Int}{r:List Int×Int×Bool}(h:r=(q,n,true)): ∃y,Wk (.tup [pathV q,.int .i64 n,.tt]) y∧y.pureB=true∧y=gapV r:=by
 subst h;exact⟨gapV (q,n,true),Wk.tup ⟨.refl _,.refl _,Wk.tt,trivial⟩,rfl,rfl⟩
theorem Anz (a:OpT)(p:List Int)(at_:Int)(first:Bool)(ho:a.Ok)(hp:p.length≤1000)(hpb: ∀i∈p,0≤i∧i≤1048576)(hat:0≤at_∧at_≤10000000):
  Pure Tryz.prog 226 [opV a,pathV p,.int .i64 at_,.bool first] (λx=>x=gapV (gapP a p at_ first)):=by
 refine Aj (Ad 300 Tryz.func226 rfl rfl rfl λB=> ?_);show CallThen _ _ _ _ _ _;refine Aa (Rk a p ho hp hpb) rfl ?_;rintro x rfl;have hmv:=N5 a ho;cases hn:nodeP a p with
 |none=>
  have e:gapP a p at_ first=([],0,false):=by unfold gapP;rw[hn]
  rw[e];exact⟨trivial,rfl,rfl,rfl,gapV ([],0,false),Wk.tup ⟨.refl _,.refl _,Wk.ff,trivial⟩,rfl,rfl⟩
 |some q=>
  show CallThen _ _ _ _ _ _;refine Aa hmv rfl ?_;rintro x rfl;refine⟨λg1=>go 300 ?_,λg1=>go 300 ?_⟩
  ·have hm:movesO a=false:=by simpa using g1
   refine⟨trivial,rfl,rfl,rfl,Ad1 ?_⟩;unfold gapP;rw[hn,hm];rfl
  have hm:movesO a=true:=by simpa using g1
  show CallThen _ _ _ _ _ _;refine Aa (R8 a ho (Ig hm)) rfl ?_;rintro x rfl;have e:gapP a p at_ first=(q,(bif(chgO a).takes&& (decide ((chgO a).at_<at_)&&decide (p=(chgO a).frm)) then at_-1 else at_)+ (bif(chgO a).puts&& (decide (p=(chgO a).to)&& (decide ((chgO a).gap<at_)|| (decide (at_=(chgO a).gap)&& !first))) then 1 else 0),true):=by
   unfold gapP;rw[hn,hm];rfl
  rw[e];obtain⟨c,hc⟩: ∃c,chgO a=c:=⟨_,rfl⟩;rw[hc];have h1:=Cg p c.frm (by omega);have h2:=Cg p c.to (by omega)
  repeat' first
   | (refine⟨λ_=>go 300 ?_,λ_=>go 300 ?_⟩)
   | (show CallThen _ _ _ _ _ _;refine Aa h1 rfl ?_;rintro z rfl)
   | (show CallThen _ _ _ _ _ _;refine Aa h2 rfl ?_;rintro z rfl)
   | (refine⟨trivial,rfl,rfl,rfl,Ad1 ?_⟩)
   | (refine⟨by constructor<;>omega,?_⟩)
   |fail
  all_goals (clear hmv h1 h2 e;simp_all)
  all_goals ((try simp only[Bool.cond_decide]);(repeat' split)<;>first|omega| (simp_all;done)|skip)
  all_goals (first| (simp[show ¬ (c.at_<at_) by omega];done)| (simp[show ¬ (c.at_<c.gap) by omega];done)| (simp[show ¬ (c.at_<at_) by omega,show ¬ (c.gap<at_) by omega];done))
theorem Alb:Wk (.agg [.int .u8 0,.nilsl,.int .i64 0,.nilsl,.int .u64 0,.ff,.str [],.str [],.str [],.ff,.nilsl]) (opV (noOp 0)):=
 Wk.agg ⟨.refl _,Wk.nil 1,.refl _,Wk.nil 1,.refl _,Wk.ff,.refl _,.refl _,.refl _,Wk.ff,Wk.nil 3,trivial⟩
theorem R9 (o:OpT)(ho:o.Ok):Pure Tryz.prog 201 [opV o] (λx=>x=.bool (soundO o)):=by
 refine Aj (Ad 300 Tryz.func201 rfl rfl rfl λB=> ?_);show CallThen _ _ _ _ _ _;refine Aa (Ha o ho.lt ho.each) rfl ?_;rintro x rfl;have hW:=Cj o.path o.to ho.lt.path
 repeat' first
  | (refine⟨λ_=>go 300 ?_,λ_=>go 300 ?_⟩)
  | (show CallThen _ _ _ _ _ _;refine Aa hW rfl ?_;rintro z rfl)
  | (refine⟨trivial,rfl,rfl,rfl,Cu ?_⟩)
  | (refine⟨trivial,rfl,rfl,rfl,Ar ?_⟩)
  | (refine⟨trivial,rfl,rfl,rfl,B8 ?_⟩)
  |fail
 all_goals (unfold soundO;simp_all)
theorem W0 (p:List Int):Pure Tryz.prog 208 [pathV p] (λx=>x=opV (dropO p)):=by
 refine Aj (Ad 300 Tryz.func208 rfl rfl rfl λB=> ?_);exact⟨trivial,rfl,rfl,rfl,opV (dropO p),Wk.agg ⟨.refl _,.refl _,.refl _,Wk.nil 1,.refl _,Wk.ff,.refl _,.refl _,.refl _,Wk.ff,Wk.nil 3,trivial⟩,rfl,rfl⟩
theorem An0 (b a:OpT)(ha:a.Ok):Pure Tryz.prog 209 [opV b,opV a] (λx=>x=.bool (wonO b a)):=by
 refine Aj (Ad 300 Tryz.func209 rfl rfl rfl λB=> ?_);have h1:=Cg a.path b.path ha.lt.path
 repeat' first
  | (refine⟨λ_=>go 300 ?_,λ_=>go 300 ?_⟩)
  | (show CallThen _ _ _ _ _ _;refine Aa h1 rfl ?_;rintro z rfl)
  | (refine⟨trivial,rfl,rfl,rfl,Cu ?_⟩)
  | (refine⟨trivial,rfl,rfl,rfl,Ar ?_⟩)
  | (refine⟨trivial,rfl,rfl,rfl,B8 ?_⟩)
  |fail
 all_goals (unfold wonO;simp_all)
theorem Ps {r:Option (List Int)}: ∃b:V,nodeRV r=.tup [pathV (r.getD []),b]∧(b=.tt∨b=.ff):=by
 cases r with
 |none=>exact⟨.ff,rfl,.inr rfl⟩
 |some q=>exact⟨.tt,rfl,.inl rfl⟩
theorem Alc (b a:OpT)(prior:Bool)(ha:a.Ok)(_hb:b.Ok)(hf:formedB b=true):
  Pure Tryz.prog 212 [opV b,opV a,.bool prior] (λx=>x=opV (shiftedO b a prior)):=by
 have hpl:=Ey (Bc hf);have hps:=El (Bc hf);refine Ad 300 Tryz.func212 rfl rfl rfl λB=> ?_;show CallThen _ _ _ _ _ _;refine Aa (Rk a b.path ha (by omega) hps) rfl ?_;rintro x rfl;obtain⟨v,e,hv⟩:=Ps (r:=nodeP a b.path);rw[e]
 rcases hv with rfl|rfl
 all_goals
  refine⟨λg1=>go 300 ?_,λg1=>go 300 ?_⟩
  ·have hk:b.kind=1:=Aw g1;have hg:=Jl hf (.inl hk);show CallThen _ _ _ _ _ _;refine Aa (Anz a b.path b.at_ prior ha (by omega) hps ⟨by omega,by omega⟩) rfl ?_;rintro x rfl;refine⟨trivial,rfl,rfl,rfl,?_⟩;unfold shiftedO;rw[decide_eq_true hk];rfl
  have hk1:b.kind≠1:=Bg g1;refine⟨λg2=>go 300 ?_,λg2=>go 300 ?_⟩
  ·have hk:b.kind=3:=Aw g2;have hg:=Jl hf (.inr hk);have htl:=Ey (Iq hf hk);have hts:=El (Iq hf hk);show CallThen _ _ _ _ _ _;refine Aa (Anz a b.to b.at_ prior ha (by omega) hts ⟨by omega,by omega⟩) rfl ?_;rintro x rfl;refine⟨trivial,rfl,rfl,rfl,?_⟩;unfold shiftedO;rw[decide_eq_false hk1,decide_eq_true hk];rfl
  ·have hk3:b.kind≠3:=Bg g2;refine⟨trivial,rfl,rfl,rfl,?_⟩;unfold shiftedO;rw[decide_eq_false hk1,decide_eq_false hk3];rfl
theorem Api (o:OpT)(ho:o.Ok):Pure Tryz.prog 211 [opV o] (λx=>x=opV (undoO o)):=by
 refine Aj (Ad 300 Tryz.func211 rfl rfl rfl λB=> ?_);have z:undoO o=noOp 0-> ∃y,Wk (.agg [.int .u8 0,.nilsl,.int .i64 0,.nilsl,.int .u64 0,.ff,.str [],.str [],.str [],.ff,.nilsl]) y∧y.pureB=true∧y=opV (undoO o):=λh=>⟨opV (noOp 0),Alb,rfl,by rw[h]⟩;refine⟨λg1=>go 300 ?_,λg1=>go 300 ?_⟩
 ·have hk:o.kind≠3:=A7 g1;exact⟨trivial,rfl,rfl,rfl,z (by unfold undoO;rw[decide_eq_false hk];rfl)⟩
 have hk:o.kind=3:=Bk g1;show CallThen _ _ _ _ _ _;refine Aa (N5 o ho) rfl ?_;rintro x rfl;refine⟨λg2=>go 300 ?_,λg2=>go 300 ?_⟩
 ·have hm:movesO o=false:=by simpa using g2
  exact⟨trivial,rfl,rfl,rfl,z (by unfold undoO;rw[hm];simp)⟩
 have hm:movesO o=true:=by simpa using g2
 obtain⟨hf,hkk⟩:=Kf hm;have hpl:=Ey (Bc hf);have hps:=El (Bc hf);have hfrm:(chgO o).frm=o.path.dropLast:=by unfold chgO;simp[hk]
 have hfs: ∀i∈ (chgO o).frm,0≤i∧i≤1048576:=λi hi=>hps i (by rw[hfrm] at hi;exact List.dropLast_subset _ hi);have hfl:(chgO o).frm.length≤1000:=by rw[hfrm];simp;omega
 have hgap:=Jl hf (.inr hk);have hne:=Ig hm (by rw[hk];decide);have hat:0≤(chgO o).at_∧(chgO o).at_≤1048576:=by
  have:(chgO o).at_=lastP o.path:=by unfold chgO;simp[hk]
  rw[this,←Dc hne];exact hps _ (Avd hne)
 have hcg:(chgO o).gap=o.at_:=rfl;have hland:=Ala (chgO o) (by omega) ⟨by rw[hcg];omega,by rw[hcg];omega⟩;show CallThen _ _ _ _ _ _;refine Aa (R8 o ho (Ig hm)) rfl ?_;rintro x rfl;show CallThen _ _ _ _ _ _;refine Aa (Rk o o.path ho (by omega) hps) rfl ?_;rintro x rfl;obtain⟨v,e,hv⟩:=Ps (r:=nodeP o o.path);rw[e];have fin: ∀n:Int,n=(chgO o).at_+ (bif decide ((chgO o).frm=(chgO o).to)&&decide ((chgO o).land< (chgO o).at_) then 1 else 0)->
   ∃y,Wk (.agg [.int .u8 3,pathV ((nodeP o o.path).getD []),.int .i64 n,pathV ((nodeP o (chgO o).frm).getD []),.int .u64 0,.ff,.str [],.str [],.str [],.ff,.nilsl]) y∧y.pureB=true∧y=opV (undoO o):=λn hn=>
  ⟨opV (undoO o),by
   have:undoO o= {noOp 3 with path:=(nodeP o o.path).getD [],to:=(nodeP o (chgO o).frm).getD [],at_:=n}:=by unfold undoO;rw[decide_eq_true hk,hm,hn];rfl
   rw[this];exact Wk.agg ⟨.refl _,.refl _,.refl _,.refl _,.refl _,Wk.ff,.refl _,.refl _,.refl _,Wk.ff,Wk.nil 3,trivial⟩,rfl,rfl⟩
 rcases hv with rfl|rfl
 all_goals
  show CallThen _ _ _ _ _ _;refine Aa (Rk o (chgO o).frm ho hfl hfs) rfl ?_;rintro x rfl;obtain⟨v2,e2,hv2⟩:=Ps (r:=nodeP o (chgO o).frm);rw[e2]
  rcases hv2 with rfl|rfl
  all_goals
   show CallThen _ _ _ _ _ _;refine Aa (Cg (chgO o).frm (chgO o).to (by omega)) rfl ?_;rintro x rfl;refine⟨λq1=>go 300 ?_,λq1=>go 300 ?_⟩
   ·show CallThen _ _ _ _ _ _;refine Aa hland rfl ?_;rintro x rfl;refine⟨λq2=>go 300 ?_,λq2=>go 300 ?_⟩
    ·refine⟨by constructor<;>omega,?_⟩;exact⟨trivial,rfl,rfl,rfl,fin _ (by rw[q1,q2];rfl)⟩
    ·exact⟨trivial,rfl,rfl,rfl,fin _ (by rw[q1,q2];simp)⟩
   ·exact⟨trivial,rfl,rfl,rfl,fin _ (by rw[q1];simp)⟩
theorem Ff (o:OpT)(p:List Int):((nodeP o p).getD []).length≤p.length+o.to.length+1:=by
 unfold nodeP;cases movesO o with
 |false=>simp;omega
 |true=>
  cases(chgO o).takes&&within o.path p with
  |false=>simp[Gf];omega
  |true=>
   cases(chgO o).puts with
   |false=>simp
   |true=>simp[Gf];omega
theorem Ann (o:OpT)(p:List Int)(n:Int)(f:Bool):(gapP o p n f).1.length≤p.length+o.to.length+1:=by
 have h:=Ff o p;unfold gapP;cases hn:nodeP o p with
 |none=>simp
 |some q=>
  rw[hn] at h;simp only[Ath] at h;cases movesO o<;>simpa using h
theorem drop_ok {p:List Int}(h:p.length≤1000000):(dropO p).Ok:=⟨⟨h,Aq4 _,Aq4 _,Aq4 _,Aq4 _,Aq4 _⟩,Aq4 _⟩
theorem Ah5 {b a:OpT}{prior:Bool}(_ha:a.Ok)(hb:b.Ok)(hp:b.path.length≤1000)(ht:b.to.length≤1000)(hat:a.to.length≤1000):(shiftedO b a prior).Ok:=by
 have h1:=Ff a b.path;have h2:=Ann a b.to b.at_ prior;unfold shiftedO;cases decide (b.kind=1) with
 |true=>exact⟨⟨by show((nodeP a b.path).getD []).length≤_;omega,hb.lt.to,hb.lt.label,hb.lt.key,hb.lt.value,hb.lt.pieces⟩,hb.puts⟩
 |false=>
  cases decide (b.kind=3) with
  |true=>exact⟨⟨by show((nodeP a b.path).getD []).length≤_;omega,by show(gapP a b.to b.at_ prior).1.length≤_;omega,hb.lt.label,hb.lt.key,hb.lt.value,hb.lt.pieces⟩,hb.puts⟩
  |false=>exact⟨⟨by show((nodeP a b.path).getD []).length≤_;omega,hb.lt.to,hb.lt.label,hb.lt.key,hb.lt.value,hb.lt.pieces⟩,hb.puts⟩
theorem Ad2 {c:Chg}(h:0≤c.at_){p:List Int}{k:Int}(hk:0≤k∧k≤1048575):0≤c.number p k∧c.number p k≤1048576:=by
 unfold Chg.number
 by_cases h1:c.at_<k
 ·cases c.takes<;>cases c.puts<;>cases decide (p=c.frm)<;>cases decide (c.gap≤k)<;>cases decide (p=c.to)<;>simp[h1]<;>omega
 ·cases c.takes<;>cases c.puts<;>cases decide (p=c.frm)<;>cases decide (c.gap≤k)<;>cases decide (p=c.to)<;>simp[h1]<;>omega
theorem Pt {c:Chg}(h:0≤c.at_): ∀(p q:List Int),(∀i∈p,0≤i∧i≤1048575)-> ∀i∈c.nums q p,0≤i∧i≤1048576
 | [],_,_,i,hi=>by cases hi
 |k::p,q,hp,i,hi=>by
  rw[Chg.nums] at hi
  rcases Arl.1 hi with rfl|hi
  ·exact Ad2 h (hp k Ari)
  ·exact Pt h p _ (λj hj=>hp j (Are _ hj)) i hi
theorem Xa {p:List Int}(h:mayP p=true): ∀i∈p,0≤i∧i≤1048575:=by
 unfold mayP at h;rw[Aq6] at h;intro i hi;have:=Ati.1 h.2 i hi;unfold stepOk at this;simp only[Aq6,decide_eq_true_eq] at this;omega
theorem Aqh {o:OpT}(h:movesO o=true):0≤(chgO o).at_:=by
 obtain⟨hf,hkk⟩:=Kf h;have hne:=Ig h
 by_cases k1:o.kind=1
 ·unfold chgO;simp[k1]
 ·have:(chgO o).at_=lastP o.path:=by unfold chgO;simp[k1]
  rw[this,←Dc (hne k1)];exact(El (Bc hf) _ (Avd (hne k1))).1
theorem Ah6 {a:OpT}{p:List Int}(hp: ∀i∈p,0≤i∧i≤1048575): ∀i∈ (nodeP a p).getD [],0≤i∧i≤1048576:=by
 intro i hi;unfold nodeP at hi;cases hm:movesO a with
 |false=>
  rw[hm] at hi;have:=hp i hi;omega
 |true=>
  rw[hm] at hi;have hat:=Aqh hm;obtain⟨hf,hkk⟩:=Kf hm;cases ht:(chgO a).takes&&within a.path p with
  |false=>
   rw[ht] at hi;exact Pt hat p [] hp i hi
  |true=>
   rw[ht] at hi;cases hq:(chgO a).puts with
   |false=>rw[hq] at hi;cases hi
   |true=>
    rw[hq] at hi;rw[Aq6] at ht;have hk3:a.kind=3:=by
     rcases hkk with k| ⟨k,_⟩|h
     ·have:=ht.1;unfold chgO at this;simp[k] at this
     ·unfold chgO at hq;simp[k] at hq
     ·exact h.1
    have hts:=Xa (Iq hf hk3);have hgap:=Jl hf (.inr hk3);have hi:i∈ (chgO a).nums [] a.to++ [(chgO a).land]++p.drop a.path.length:=hi
    rcases Asi.1 hi with hi|hi
    ·rcases Asi.1 hi with hi|hi
     ·exact Pt hat a.to [] hts i hi
     ·rw[Ar5] at hi;have e:(chgO a).gap=a.at_:=rfl;rw[hi];unfold Chg.land
      by_cases h1:(chgO a).at_< (chgO a).gap
      ·cases decide ((chgO a).frm=(chgO a).to)<;>simp[h1]<;>omega
      ·simp[h1];omega
    ·have:=hp i (Asp hi);omega
theorem Sc (o:OpT)(p:List Int)(ho:o.Ok)(hp:p.length≤1000)(hpb: ∀i∈p,0≤i∧i≤1048576):Pure Tryz.prog 207 [opV o,pathV p] (λx=> ∃q b,(nodeP o p).getD []=q∧x=.tup [pathV q,.bool b]):=by
 refine Aj ((Rk o p ho hp hpb).mono λx h=> ?_);subst h;cases nodeP o p with
 |none=>exact⟨.tup [pathV [],.bool false],Wk.tup ⟨.refl _,Wk.ff,trivial⟩,rfl,[],false,rfl,rfl⟩
 |some q=>exact⟨.tup [pathV q,.bool true],Wk.tup ⟨.refl _,Wk.tt,trivial⟩,rfl,q,true,rfl,rfl⟩
def RowQ (b a:OpT)(l:List OpT)(x:V)(T:Heap):Prop:=
 (l=[]∧x=.tup [.nilsl,.int .i64 0]∧T=[some (.box (opV b).cells),some (.box (opV a).cells)])∨
 (∃g,x=.tup [.osl (.loc 2) g 0 l.length,.int .i64 0]∧T=[some (.box (opV b).cells),some (.box (opV a).cells),some (.vec g 11 (l.map opV))])
theorem Aq2 (b a:OpT)(prior:Bool)(ha:a.Ok)(hb:b.Ok)(sa:soundO a=true)(sb:soundO b=true)(he:bothEdit b a=false)(hto:a.to.length≤1000∧b.to.length≤1000):
  Fun Tryz.prog 202 [] [opV b,opV a,.bool prior] (RowQ b a (rowO b a prior)):=by
 have fa:formedB a=true:=by unfold soundO at sa;rw[Aq6] at sa;exact sa.1
 have fb:formedB b=true:=by unfold soundO at sb;rw[Aq6] at sb;exact sb.1
 have pa:=Ey (Bc fa);have pb:=Ey (Bc fb);have qa:=El (Bc fa);have qb:=El (Bc fb);have hnb:=Ff a b.path;have hna:=Ff a a.path;refine Ay 300 Tryz.func202 rfl rfl rfl λimps B hi=> ?_;have:imps=[]:=Ard.1 hi;subst this;have leafN:rowO b a prior=[]->RowQ b a (rowO b a prior) (.tup [.nilsl,.int .i64 0]) [some (.box (opV b).cells),some (.box (opV a).cells)]:=λh1=>.inl ⟨h1,rfl,rfl⟩;have leaf1: ∀ {g:Nat} (o:OpT),rowO b a prior=[o]->RowQ b a (rowO b a prior) (.tup [.osl (.loc 2) g 0 1,.int .i64 0]) [some (.box (opV b).cells),some (.box (opV a).cells),some (.vec g 11 [opV o])]:=λo h1=>.inr ⟨_,by rw[h1];rfl,by rw[h1];rfl⟩;have leaf2: ∀ {g:Nat} (o o':OpT),rowO b a prior=[o,o']->RowQ b a (rowO b a prior) (.tup [.osl (.loc 2) g 0 2,.int .i64 0]) [some (.box (opV b).cells),some (.box (opV a).cells),some (.vec g 11 [opV o,opV o'])]:=λo o' h1=>.inr ⟨_,by rw[h1];rfl,by rw[h1];rfl⟩;have hsh:=Alc b a prior ha hb fb;have c1:=Cj a.path b.path (by omega);have c2:=Cj a.path b.to (by omega);have c3:=Cj b.path a.path (by omega);have c4:=Cj b.path a.to (by omega);have c5:=Cg b.path a.path (by omega);have c6:=Cg a.path b.path (by omega);refine⟨λg1=>go 300 ?_,λg1=>go 300 ?_⟩
 ·have k1:a.kind=2:=Aw g1;show CallThen _ _ _ _ _ _;refine Aa c1 rfl ?_;rintro x rfl;refine⟨λg2=>go 300 ?_,λg2=>go 300 ?_⟩
  ·exact⟨trivial,rfl,rfl,leafN (by unfold rowO;rw[decide_eq_true k1,g2];rfl)⟩
  refine⟨λg3=>go 300 ?_,λg3=>go 300 ?_⟩
  ·have k3:b.kind=3:=Aw g3;show CallThen _ _ _ _ _ _;refine Aa c2 rfl ?_;rintro x rfl;refine⟨λg4=>go 300 ?_,λg4=>go 300 ?_⟩
   ·show CallThen _ _ _ _ _ _;refine Aa (Sc a b.path ha (by omega) qb) rfl ?_;rintro x ⟨q1,v,hq1,rfl⟩;show CallThen _ _ _ _ _ _;refine Aa (W0 q1) rfl ?_;rintro x rfl;refine⟨⟨rfl,trivial⟩,?_⟩;exact⟨trivial,rfl,rfl,leaf1 (dropO q1) (by unfold rowO;rw[decide_eq_true k1,g2,decide_eq_true k3,g4,hq1];rfl)⟩
   ·show CallThen _ _ _ _ _ _;refine Aa hsh rfl ?_;rintro x rfl;refine⟨⟨rfl,trivial⟩,?_⟩;exact⟨trivial,rfl,rfl,leaf1 (shiftedO b a prior) (by unfold rowO;rw[decide_eq_true k1,g2,decide_eq_true k3,g4];rfl)⟩
  ·have k3:b.kind≠3:=Bg g3;show CallThen _ _ _ _ _ _;refine Aa hsh rfl ?_;rintro x rfl;refine⟨⟨rfl,trivial⟩,?_⟩;exact⟨trivial,rfl,rfl,leaf1 (shiftedO b a prior) (by unfold rowO;rw[decide_eq_true k1,g2,decide_eq_false k3];rfl)⟩
 have k1:a.kind≠2:=Bg g1;show CallThen _ _ _ _ _ _;refine Aa (An0 b a ha) rfl ?_;rintro x rfl;refine⟨λg2=>go 300 ?_,λg2=>go 300 ?_⟩
 ·refine⟨λg3=>go 300 ?_,λg3=>go 300 ?_⟩
  ·have g3:prior=false:=by simpa using g3
   exact⟨trivial,rfl,rfl,leafN (by unfold rowO;rw[decide_eq_false k1,g2,g3];rfl)⟩
  ·have g3:prior=true:=by simpa using g3
   show CallThen _ _ _ _ _ _;refine Aa hsh rfl ?_;rintro x rfl;refine⟨⟨rfl,trivial⟩,?_⟩;exact⟨trivial,rfl,rfl,leaf1 (shiftedO b a prior) (by unfold rowO;rw[decide_eq_false k1,g2];rw[g3];rfl)⟩
 refine⟨λg3=>go 300 ?_,λg3=>go 300 ?_⟩
 ·have k3:a.kind≠3:=A7 g3;have er:rowO b a prior=[shiftedO b a prior]:=by unfold rowO;rw[decide_eq_false k1,g2,decide_eq_false k3];rfl
  refine⟨λg4=>go 300 ?_,λg4=>go 300 ?_⟩
  ·refine⟨λg5=>go 300 ?_,λg5=>go 300 ?_⟩
   ·show CallThen _ _ _ _ _ _;refine Aa c6 rfl ?_;rintro x rfl;refine⟨λg6=> ?_,λg6=>go 300 ?_⟩
    ·exfalso;unfold bothEdit at he;rw[g4,g5,g6] at he;cases he
    ·show CallThen _ _ _ _ _ _;refine Aa hsh rfl ?_;rintro x rfl;refine⟨⟨rfl,trivial⟩,?_⟩;exact⟨trivial,rfl,rfl,leaf1 (shiftedO b a prior) er⟩
   ·show CallThen _ _ _ _ _ _;refine Aa hsh rfl ?_;rintro x rfl;refine⟨⟨rfl,trivial⟩,?_⟩;exact⟨trivial,rfl,rfl,leaf1 (shiftedO b a prior) er⟩
  ·show CallThen _ _ _ _ _ _;refine Aa hsh rfl ?_;rintro x rfl;refine⟨⟨rfl,trivial⟩,?_⟩;exact⟨trivial,rfl,rfl,leaf1 (shiftedO b a prior) er⟩
 have k3:a.kind=3:=Bk g3;refine⟨λg4=>go 300 ?_,λg4=>go 300 ?_⟩
 ·have k4:b.kind=2:=Aw g4;show CallThen _ _ _ _ _ _;refine Aa c3 rfl ?_;rintro x rfl;refine⟨λg5=>go 300 ?_,λg5=>go 300 ?_⟩
  case refine_2=>
   have er:rowO b a prior=[shiftedO b a prior]:=by unfold rowO;rw[decide_eq_false k1,g2,decide_eq_true k3,decide_eq_true k4,g5];rfl
   show CallThen _ _ _ _ _ _;refine Aa hsh rfl ?_;rintro x rfl;refine⟨⟨rfl,trivial⟩,?_⟩;exact⟨trivial,rfl,rfl,leaf1 (shiftedO b a prior) er⟩
  show CallThen _ _ _ _ _ _;refine Aa c5 rfl ?_;rintro x rfl;refine⟨λg6=>go 300 ?_,λg6=>go 300 ?_⟩
  case refine_2=>
   have g6:decide (b.path=a.path)=true:=by simpa using g6
   have er:rowO b a prior=[shiftedO b a prior]:=by unfold rowO;rw[decide_eq_false k1,g2,decide_eq_true k3,decide_eq_true k4,g5,g6];rfl
   show CallThen _ _ _ _ _ _;refine Aa hsh rfl ?_;rintro x rfl;refine⟨⟨rfl,trivial⟩,?_⟩;exact⟨trivial,rfl,rfl,leaf1 (shiftedO b a prior) er⟩
  have g6:decide (b.path=a.path)=false:=by simpa using g6
  show CallThen _ _ _ _ _ _;refine Aa c4 rfl ?_;rintro x rfl;refine⟨λg7=>go 300 ?_,λg7=>go 300 ?_⟩
  case refine_2=>
   have g7:within b.path a.to=true:=by simpa using g7
   have er:rowO b a prior=[shiftedO b a prior]:=by unfold rowO;rw[decide_eq_false k1,g2,decide_eq_true k3,decide_eq_true k4,g5,g6,g7];rfl
   show CallThen _ _ _ _ _ _;refine Aa hsh rfl ?_;rintro x rfl;refine⟨⟨rfl,trivial⟩,?_⟩;exact⟨trivial,rfl,rfl,leaf1 (shiftedO b a prior) er⟩
  have g7:within b.path a.to=false:=by simpa using g7
  have er:rowO b a prior=[dropO ((nodeP a a.path).getD []),dropO ((nodeP (dropO ((nodeP a a.path).getD [])) ((nodeP a b.path).getD [])).getD [])]:=by unfold rowO;rw[decide_eq_false k1,g2,decide_eq_true k3,decide_eq_true k4,g5,g6,g7];rfl
  have hqs:=Ah6 (a:=a) (p:=b.path) (Xa (Bc fb));show CallThen _ _ _ _ _ _;refine Aa (Sc a a.path ha (by omega) qa) rfl ?_;rintro x ⟨p1,v1,hp1,rfl⟩;show CallThen _ _ _ _ _ _;refine Aa (Sc a b.path ha (by omega) qb) rfl ?_;rintro x ⟨q1,v2,hq1,rfl⟩;rw[hp1,hq1] at er;rw[hq1] at hqs hnb;rw[hp1] at hna;show CallThen _ _ _ _ _ _;refine Aa (W0 p1) rfl ?_;rintro x rfl;show CallThen _ _ _ _ _ _;have hat64:=Ey (Iq fa k3);refine Aa (Sc (dropO p1) q1 (drop_ok (by omega)) (by omega) hqs) rfl ?_;rintro x ⟨q2,v3,hq2,rfl⟩;rw[hq2] at er;show CallThen _ _ _ _ _ _;refine Aa (W0 p1) rfl ?_;rintro x rfl;show CallThen _ _ _ _ _ _;refine Aa (W0 q2) rfl ?_;rintro x rfl;refine⟨⟨rfl,rfl,trivial⟩,?_⟩;exact⟨trivial,rfl,rfl,leaf2 _ _ er⟩
 have k4:b.kind≠2:=Bg g4;refine⟨λg5=>go 300 ?_,λg5=>go 300 ?_⟩
 ·have k5:b.kind=3:=Aw g5;show CallThen _ _ _ _ _ _;refine Aa c4 rfl ?_;rintro x rfl;refine⟨λg6=>go 300 ?_,λg6=>go 300 ?_⟩
  case refine_2=>
   have er:rowO b a prior=[shiftedO b a prior]:=by unfold rowO;rw[decide_eq_false k1,g2,decide_eq_true k3,decide_eq_false k4,decide_eq_true k5,g6];rfl
   show CallThen _ _ _ _ _ _;refine Aa hsh rfl ?_;rintro x rfl;refine⟨⟨rfl,trivial⟩,?_⟩;exact⟨trivial,rfl,rfl,leaf1 (shiftedO b a prior) er⟩
  show CallThen _ _ _ _ _ _;refine Aa c2 rfl ?_;rintro x rfl;refine⟨λg7=>go 300 ?_,λg7=>go 300 ?_⟩
  case refine_2=>
   have er:rowO b a prior=[shiftedO b a prior]:=by unfold rowO;rw[decide_eq_false k1,g2,decide_eq_true k3,decide_eq_false k4,decide_eq_true k5,g6,g7];rfl
   show CallThen _ _ _ _ _ _;refine Aa hsh rfl ?_;rintro x rfl;refine⟨⟨rfl,trivial⟩,?_⟩;exact⟨trivial,rfl,rfl,leaf1 (shiftedO b a prior) er⟩
  refine⟨λg8=>go 300 ?_,λg8=>go 300 ?_⟩
  ·have g8:prior=false:=by simpa using g8
   exact⟨trivial,rfl,rfl,leafN (by unfold rowO;rw[decide_eq_false k1,g2,decide_eq_true k3,decide_eq_false k4,decide_eq_true k5,g6,g7,g8];rfl)⟩
  ·have g8:prior=true:=by simpa using g8
   show Goes _ _ _ _;refine Ac [] 300 ⟨_,Api a ha,rfl,rfl,⟨rfl,rfl,trivial⟩,?_⟩;refine⟨by kernel_rfl,?_⟩;refine⟨by kernel_rfl,?_⟩;exact⟨trivial,rfl,rfl,leaf2 (undoO a) b (by unfold rowO;rw[decide_eq_false k1,g2,decide_eq_true k3,decide_eq_false k4,decide_eq_true k5,g6,g7];rw[g8];rfl)⟩
 ·have k5:b.kind≠3:=Bg g5;have er:rowO b a prior=[shiftedO b a prior]:=by unfold rowO;rw[decide_eq_false k1,g2,decide_eq_true k3,decide_eq_false k4,decide_eq_false k5];rfl
  show CallThen _ _ _ _ _ _;refine Aa hsh rfl ?_;rintro x rfl;refine⟨⟨rfl,trivial⟩,?_⟩;exact⟨trivial,rfl,rfl,leaf1 (shiftedO b a prior) er⟩
end Bow
namespace Bow
open Go
structure RowOk (r:List PieceT):Prop where
 p: ∀p∈r,p.Nn∧p.w≤1000000000000
 l:r.length≤1000000000000
theorem Qh: ∀(r:List PieceT),∃e,r=e++ (rowRun r).2
 | []=>⟨[],rfl⟩
 |p::r=>by
  rw[rowRun];cases decide (0<p.keep) with
  |true=>exact⟨[],rfl⟩
  |false=>
   cases decide (0<p.drop) with
   |true=>exact⟨[],rfl⟩
   |false=>
    obtain⟨e,h⟩:=Qh r;exact⟨p::e,by rw[cond_false,cond_false,Arx,←h]⟩
theorem Kt {r:List PieceT}(h:RowOk r):RowOk (rowRun r).2∧0≤(rowRun r).1.1∧(rowRun r).1.1≤1000000000000:=by
 obtain⟨e,he⟩:=Qh r;have h1:RowOk (rowRun r).2:=by
  have hl:=congrArg List.length he;rw[Arb] at hl;exact⟨λp hp=>h.p p (he▸Art _ hp),by have:=h.l;omega⟩
 refine⟨h1,?_⟩;have key: ∀(r:List PieceT),(∀p∈r,p.Nn∧p.w≤1000000000000)->0≤(rowRun r).1.1∧(rowRun r).1.1≤1000000000000:=by
  intro r
  induction r with
  |nil=>intro _;exact⟨by decide,by decide⟩
  |cons p r ih=>
   intro h;obtain⟨h2,h3⟩:=h p Ari;have h4:=h2.k;have h5:=h2.d;unfold PieceT.w at h3;rw[rowRun];cases decide (0<p.keep) with
   |true=>exact⟨h4,by rw[cond_true];simp only;omega⟩
   |false=>
    cases decide (0<p.drop) with
    |true=>exact⟨h5,by rw[cond_false,cond_true];simp only;omega⟩
    |false=>exact ih λq hq=>h q (Are _ hq)
 exact key r h.p
def rowR:List PieceT->Int
 | []=>0
 |p::l=>p.keep+p.drop+p.put.length+rowR l
theorem Afm: ∀ {l:List PieceT},rowR l≤sumW l
 | []=>by simp[rowR,sumW]
 |p::l=>by
  have:=Afm (l:=l);simp only[rowR,sumW,PieceT.w];omega
theorem C6: ∀ {l:List PieceT},(∀p∈l,p.Nn)->0≤rowR l
 | [],_=>by simp[rowR]
 |p::l,h=>by
  have h1:=h p Ari;have:=h1.k;have:=h1.d;have:=C6 λq hq=>h q (Are _ hq);simp only[rowR];omega
theorem RowOk.nn {r:List PieceT}(h:RowOk r): ∀p∈r,p.Nn:=λp hp=>(h.p p hp).1
theorem Lh (r:List PieceT):(rowPut r).2.length=r.length:=by
 cases r with
 |nil=>rfl
 |cons p r=>
  rw[rowPut];cases decide (0<p.keep)||p.put.isEmpty<;>rfl
theorem Bh (n:Int)(r:List PieceT):(rowTake n r).length=r.length:=by
 cases r with
 |nil=>rfl
 |cons p r=>
  rw[rowTake];cases decide (0<p.keep)<;>rfl
theorem Ea {r:List PieceT}(h:RowOk r):RowOk (rowPut r).2∧rowR (rowPut r).2=rowR r- (rowPut r).1.length∧extN (rowPut r).2=extN r∧((rowPut r).1.length:Int)≤1000000000000:=by
 cases r with
 |nil=>exact⟨h,by simp[rowPut,rowR],rfl,by simp[rowPut]⟩
 |cons p r=>
  rw[rowPut];cases decide (0<p.keep)||p.put.isEmpty with
  |true=>exact⟨h,by simp,rfl,by simp⟩
  |false=>
   obtain⟨h1,h2⟩:=h.p p Ari;have h3:=h1.k;have h4:=h1.d;unfold PieceT.w at h2;refine⟨⟨λq hq=> ?_,h.l⟩,?_,rfl,?_⟩
   ·rcases Arl.1 hq with rfl|hq
    ·exact⟨⟨h3,h4⟩,by unfold PieceT.w;simp only[Arc];omega⟩
    ·exact h.p q (Are _ hq)
   ·simp only[cond_false,rowR,Arc];omega
   ·simp only[cond_false];omega
theorem Ov: ∀ {r:List PieceT},(∀p∈r,p.Nn)->rowR (rowRun r).2≤rowR r∧extN (rowRun r).2≤extN r
 | [],_=>⟨Arr _,Ara _⟩
 |p::r,h=>by
  have h1:=h p Ari;have:=h1.k;have:=h1.d;obtain⟨i1,i2⟩:=Ov λq hq=>h q (Are _ hq);rw[rowRun];cases decide (0<p.keep) with
  |true=>exact⟨Arr _,Ara _⟩
  |false=>
   cases decide (0<p.drop) with
   |true=>exact⟨Arr _,Ara _⟩
   |false=>
    simp only[cond_false,rowR,extN];constructor<;>omega
def RunIs (n:Int)(x s:Bool)(r:List PieceT):Prop:=
 (s=false∧x=false∧n=0∧r=[])∨(s=true∧ ∃p l,r=p::l∧((x=false∧n=p.keep∧0<p.keep)∨(x=true∧n=p.drop∧0<p.drop∧ ¬0<p.keep)))
theorem Mq: ∀(r:List PieceT),RunIs (rowRun r).1.1 (rowRun r).1.2.1 (rowRun r).1.2.2 (rowRun r).2
 | []=>.inl ⟨rfl,rfl,rfl,rfl⟩
 |p::r=>by
  rw[rowRun];cases h1:decide (0<p.keep) with
  |true=>exact .inr ⟨rfl,p,r,rfl,.inl ⟨rfl,rfl,of_decide_eq_true h1⟩⟩
  |false=>
   cases h2:decide (0<p.drop) with
   |true=>exact .inr ⟨rfl,p,r,rfl,.inr ⟨rfl,rfl,of_decide_eq_true h2,of_decide_eq_false h1⟩⟩
   |false=>exact Mq r
theorem B6 {n m:Int}{x s:Bool}{r:List PieceT}(h:RowOk r)(hr:RunIs m x s r)(hn:0≤n)(hm:s=true->n≤m):RowOk (rowTake n r)∧rowR (rowTake n r)=rowR r- (bif s then n else 0)∧(extN (rowTake n r):Int)=extN r- (bif s then n else 0):=by
 rcases hr with⟨rfl,-,-,rfl⟩| ⟨rfl,p,l,rfl,hp⟩
 ·exact⟨h,by simp[rowTake,rowR],by simp[rowTake,extN]⟩
 ·obtain⟨h1,h2⟩:=h.p p Ari;have h3:=h1.k;have h4:=h1.d;have h5:=hm rfl;unfold PieceT.w at h2
  rcases hp with⟨-,rfl,h6⟩| ⟨-,rfl,h6,h7⟩
  ·rw[rowTake,decide_eq_true h6];refine⟨⟨λq hq=> ?_,h.l⟩,?_,?_⟩
   ·rcases Arl.1 hq with rfl|hq
    ·exact⟨⟨by show 0≤p.keep-n;omega,h4⟩,by unfold PieceT.w;simp only;omega⟩
    ·exact h.p q (Are _ hq)
   ·simp only[cond_true,rowR];omega
   ·simp only[cond_true,extN];omega
  ·rw[rowTake,decide_eq_false h7];refine⟨⟨λq hq=> ?_,h.l⟩,?_,?_⟩
   ·rcases Arl.1 hq with rfl|hq
    ·exact⟨⟨h3,by show 0≤p.drop-n;omega⟩,by unfold PieceT.w;simp only;omega⟩
    ·exact h.p q (Are _ hq)
   ·simp only[cond_false,cond_true,rowR];omega
   ·simp only[cond_false,cond_true,extN];omega
theorem T5 {a b a' b':List PieceT}{n m:Int}{x1 s1 y1 s2:Bool}(h:rowRun a=((n,x1,s1),a'))(h2:rowRun b=((m,y1,s2),b')):bothR a b=bif !s1&& !s2 then((0,false,false,false),a',b')
  else match bif !s1 then m else bif s2 then min n m else n with
   |k=>((k,x1,y1,true),rowTake k a',rowTake k b'):=by
 unfold bothR;rw[h,h2]
theorem Al6 {a b:List PieceT}(ha:RowOk a)(hb:RowOk b):RowOk (bothR a b).2.1∧RowOk (bothR a b).2.2∧0≤(bothR a b).1.1∧(bothR a b).1.1≤1000000000000∧
  ((bothR a b).1.2.2.2=true->1≤(bothR a b).1.1∧rowR (bothR a b).2.1+rowR (bothR a b).2.2≤rowR a+rowR b- (bothR a b).1.1∧extN (bothR a b).2.1+extN (bothR a b).2.2<extN a+extN b)∧
  ((bothR a b).1.2.2.2=false->rowR (bothR a b).2.1+rowR (bothR a b).2.2≤rowR a+rowR b):=by
 obtain⟨oa,na,na'⟩:=Kt ha;obtain⟨ob,nb,nb'⟩:=Kt hb;obtain⟨ra,ea⟩:=Ov ha.nn;obtain⟨rb,eb⟩:=Ov hb.nn;have ia:=Mq a;have ib:=Mq b;obtain⟨⟨⟨n,x1,s1⟩,a'⟩,hra⟩: ∃z,rowRun a=z:=⟨_,rfl⟩;obtain⟨⟨⟨m,y1,s2⟩,b'⟩,hrb⟩: ∃z,rowRun b=z:=⟨_,rfl⟩;rw[T5 hra hrb];rw[hra] at oa na na' ra ea ia;rw[hrb] at ob nb nb' rb eb ib;simp only at oa na na' ra ea ia ob nb nb' rb eb ib;have pa:s1=true->1≤n:=by
  rcases ia with⟨rfl,-⟩| ⟨-,p,l,-,⟨-,h,h'⟩| ⟨-,h,h',-⟩⟩
  ·intro h;cases h
  ·intro _;omega
  ·intro _;omega
 have pb:s2=true->1≤m:=by
  rcases ib with⟨rfl,-⟩| ⟨-,p,l,-,⟨-,h,h'⟩| ⟨-,h,h',-⟩⟩
  ·intro h;cases h
  ·intro _;omega
  ·intro _;omega
 cases s1 with
 |false=>
  cases s2 with
  |false=>exact⟨oa,ob,Arr 0,by show(0:Int)≤1000000000000;omega,λh=>(by cases h),λ_=>by show rowR a'+rowR b'≤_;omega⟩
  |true=>
   obtain⟨t1,t2,t3⟩:=B6 oa ia nb (λh=>by cases h);obtain⟨u1,u2,u3⟩:=B6 ob ib nb (λ_=>Arr _);have:=pb rfl;refine⟨t1,u1,nb,nb',λ_=>⟨this,?_,?_⟩,λh=>by cases h⟩
   ·simp only[Ash,Arm,Atu,cond_true,cond_false] at t2 u2 ⊢;omega
   ·simp only[Ash,Arm,Atu,cond_true,cond_false] at t3 u3 ⊢;omega
 |true=>
  cases s2 with
  |false=>
   obtain⟨t1,t2,t3⟩:=B6 oa ia na (λ_=>Arr _);obtain⟨u1,u2,u3⟩:=B6 ob ib na (λh=>by cases h);have:=pa rfl;refine⟨t1,u1,na,na',λ_=>⟨this,?_,?_⟩,λh=>by cases h⟩
   ·simp only[Ash,Arm,Asy,cond_true,cond_false] at t2 u2 ⊢;omega
   ·simp only[Ash,Arm,Asy,cond_true,cond_false] at t3 u3 ⊢;omega
  |true=>
   have hmin:0≤min n m∧min n m≤n∧min n m≤m:=by omega
   obtain⟨t1,t2,t3⟩:=B6 oa ia hmin.1 (λ_=>hmin.2.1);obtain⟨u1,u2,u3⟩:=B6 ob ib hmin.1 (λ_=>hmin.2.2);have:=pa rfl;have:=pb rfl;refine⟨t1,u1,hmin.1,?_,λ_=>⟨?_,?_,?_⟩,λh=>by cases h⟩
   ·show min n m≤_;omega
   ·show 1≤min n m;omega
   ·simp only[Arm,Asy,cond_true,cond_false] at t2 u2 ⊢;omega
   ·simp only[Arm,Asy,cond_true,cond_false] at t3 u3 ⊢;omega
theorem Rx {l:List PieceT}(h:rightP l=true):RowOk (normP l)∧rowR (normP l)≤40000000000:=by
 obtain⟨h1,h2⟩:=Xv h;have h3:=Da h1;have h4:=Afm (l:=normP l);exact⟨⟨λp hp=>⟨h1 p hp,by have:=Ic h1 p hp;omega⟩,by omega⟩,by omega⟩
theorem Mk.put_ok2 {m:Mk}{s:List UInt8}(h:m.Ok):(m.put s).Ok∧(m.put s).w≤m.w+2*s.length:=by
 refine⟨(Mk.put_ok h).1,?_⟩;cases s with
 |nil=>exact Int.le_of_eq (by simp[Mk.put])
 |cons a s=>
  have:=(Mk.put_ok (s:=a::s) h).2;simp only[Aq8] at this ⊢;omega
theorem Mk.drop_ok2 {m:Mk}{n:Int}(h:m.Ok)(hn:0≤n):(m.drop n).Ok∧(m.drop n).w≤m.w+2*n:=by
 refine⟨(Mk.drop_ok h hn).1,?_⟩
 by_cases h1:0<n
 ·have:=(Mk.drop_ok (n:=n) h hn).2;omega
 ·have e:m.drop n=m:=by unfold Mk.drop;rw[decide_eq_false h1];rfl
  rw[e];omega
structure Tr.Ok (s:Tr):Prop where
 p:RowOk s.p
 q:RowOk s.q
 x:s.x.Ok
 y:s.y.Ok
 wx:s.x.w+3* (rowR s.p+rowR s.q)≤900000000000
 wy:s.y.w+3* (rowR s.p+rowR s.q)≤900000000000
theorem Tr.puts_ok {s:Tr}(h:s.Ok)(prior:Bool):(s.puts prior).Ok∧extN (s.puts prior).p=extN s.p∧extN (s.puts prior).q=extN s.q:=by
 obtain⟨p,q,x,y⟩:=s;obtain⟨hp,hq,hx,hy,wx,wy⟩:=h;simp only at hp hq hx hy wx wy;obtain⟨op,rp,ep,-⟩:=Ea hp;obtain⟨oq,rq,eq,-⟩:=Ea hq;have e:Tr.puts prior ⟨p,q,x,y⟩=bif prior then⟨(rowPut p).2,(rowPut q).2,(x.put (rowPut p).1).kept (rowPut q).1.length,(y.kept (rowPut p).1.length).put (rowPut q).1⟩ else⟨(rowPut p).2,(rowPut q).2,(x.kept (rowPut q).1.length).put (rowPut p).1,(y.put (rowPut q).1).kept (rowPut p).1.length⟩:=rfl;rw[e];cases prior with
 |true=>
  obtain⟨a1,a2⟩:=Mk.put_ok2 (s:=(rowPut p).1) hx;obtain⟨b1,b2⟩:=Mk.kept_ok (n:=((rowPut q).1.length:Int)) a1 (Aq5 _);obtain⟨c1,c2⟩:=Mk.kept_ok (n:=((rowPut p).1.length:Int)) hy (Aq5 _);obtain⟨d1,d2⟩:=Mk.put_ok2 (s:=(rowPut q).1) c1;exact⟨⟨op,oq,b1,d1,by simp only[cond_true];omega,by simp only[cond_true];omega⟩,ep,eq⟩
 |false=>
  obtain⟨a1,a2⟩:=Mk.kept_ok (n:=((rowPut q).1.length:Int)) hx (Aq5 _);obtain⟨b1,b2⟩:=Mk.put_ok2 (s:=(rowPut p).1) a1;obtain⟨c1,c2⟩:=Mk.put_ok2 (s:=(rowPut q).1) hy;obtain⟨d1,d2⟩:=Mk.kept_ok (n:=((rowPut p).1.length:Int)) c1 (Aq5 _);exact⟨⟨op,oq,b1,d1,by simp only[cond_false];omega,by simp only[cond_false];omega⟩,ep,eq⟩
theorem Tr.does_ok {p q:List PieceT}{x y:Mk}{n R:Int}(hp:RowOk p)(hq:RowOk q)(hx:x.Ok)(hy:y.Ok)(hn:0≤n)(hR:rowR p+rowR q≤R-n)(wx:x.w+3*R≤900000000000)(wy:y.w+3*R≤900000000000)(d g:Bool):
  (Tr.does ⟨p,q,x,y⟩ n d g).Ok∧(Tr.does ⟨p,q,x,y⟩ n d g).p=p∧(Tr.does ⟨p,q,x,y⟩ n d g).q=q:=by
 obtain⟨a1,a2⟩:=Mk.drop_ok2 (n:=n) hx hn;obtain⟨b1,b2⟩:=Mk.drop_ok2 (n:=n) hy hn;obtain⟨c1,c2⟩:=Mk.kept_ok (n:=n) hx hn;obtain⟨d1,d2⟩:=Mk.kept_ok (n:=n) hy hn;cases d<;>cases g
 ·exact⟨⟨hp,hq,c1,d1,by show(x.kept n).w+_≤_;simp only[Tr.does,cond_false];omega,by show(y.kept n).w+_≤_;simp only[Tr.does,cond_false];omega⟩,rfl,rfl⟩
 ·exact⟨⟨hp,hq,hx,b1,by show x.w+_≤_;simp only[Tr.does,cond_false,cond_true];omega,by show(y.drop n).w+_≤_;simp only[Tr.does,cond_false,cond_true];omega⟩,rfl,rfl⟩
 ·exact⟨⟨hp,hq,a1,hy,by show(x.drop n).w+_≤_;simp only[Tr.does,cond_false,cond_true];omega,by show y.w+_≤_;simp only[Tr.does,cond_false,cond_true];omega⟩,rfl,rfl⟩
 ·exact⟨⟨hp,hq,hx,hy,by show x.w+_≤_;simp only[Tr.does,cond_true];omega,by show y.w+_≤_;simp only[Tr.does,cond_true];omega⟩,rfl,rfl⟩
theorem Tr.go_succ {prior:Bool}{f:Nat}{s:Tr}{p q p' q':List PieceT}{x y:Mk}{n:Int}{d g any:Bool}(h1:s.puts prior=⟨p,q,x,y⟩)(h2:bothR p q=((n,d,g,any),p',q')):
  Tr.go prior (f+1) s=bif any then Tr.go prior f (Tr.does ⟨p',q',x,y⟩ n d g) else⟨p',q',x,y⟩:=by
 rw[Tr.go,h1];simp only;rw[h2]
def editO (b a:OpT)(prior:Bool):OpT:= {b with pieces:=(transP b.pieces a.pieces prior).1}
def behindE (b a:OpT)(prior:Bool):List OpT×Int:=
 bif !soundO a|| !soundO b then([],80) else bif decide ((transP b.pieces a.pieces prior).2.2=0)&&formedB (editO b a prior) then([bareO (editO b a prior)],0) else([],3)
def behindX (b a:OpT)(prior:Bool):List OpT×Int:=bif bothEdit b a then behindE b a prior else behindO b a prior
theorem K8 {o:OpT}(h:formedB o=true)(hk:o.kind=6):rightP o.pieces=true:=by
 unfold formedB at h;simpa[hk] using(Bool.and_eq_true_iff.1 h).2
theorem Jc {l:List PieceT}(h:rightP l=true):l.length≤4096∧ ∀p∈l,p.put.length≤1000000000:=by
 have h1:l.length≤4096:=by
  unfold rightP at h;rw[Aq6,decide_eq_true_eq] at h;exact h.1
 obtain⟨h2,h3⟩:=Ch h;have h4:=Ic h2;refine⟨h1,λp hp=> ?_⟩;have: ∀(l:List PieceT) (n:Nat),rightGo n l=true-> ∀p∈l,p.put.length≤1048576:=by
  intro l
  induction l with
  |nil=>intro n _ p hp;cases hp
  |cons q l ih=>
   intro n h p hp;rw[rightGo] at h;simp only[Aq6,decide_eq_true_eq] at h
   rcases Arl.1 hp with rfl|hp
   ·omega
   ·exact ih _ h.2 p hp
 unfold rightP at h;rw[Aq6] at h;have:=this l 0 h.2 p hp;omega
theorem Sr (a b:List PieceT)(prior:Bool):rightP (transP a b prior).1=true∧rightP (transP a b prior).2.1=true:=by
 unfold transP;cases h1: !rightP a|| !rightP b with
 |true=>exact⟨rfl,rfl⟩
 |false=>
  simp only[cond_false];cases Tr.go prior (extN (normP a)+extN (normP b)+1) ⟨normP a,normP b,Mk.nil,Mk.nil⟩ with
  |mk p q x y=>
   simp only;cases h2: !rightP x.l|| !rightP y.l with
   |true=>exact⟨rfl,rfl⟩
   |false=>
    simp only[Asw,Aul] at h2;exact h2
theorem Nz (b a:OpT)(prior:Bool):(rowO b a prior).length≤2:=by
 unfold rowO;cases decide (a.kind=2) with
 |true=>
  cases within a.path b.path with
  |true=>exact Aq4 _
  |false=>cases decide (b.kind=3)&&within a.path b.to<;>exact Auy _
 |false=>
  cases wonO b a with
  |true=>cases prior<;>simp
  |false=>
   cases decide (a.kind=3) with
   |false=>exact Auy _
   |true=>
    cases decide (b.kind=2) with
    |true=>cases within b.path a.path&& (!decide (b.path=a.path)&& !within b.path a.to)<;>simp
    |false=>cases decide (b.kind=3)&& (within b.path a.to&&within a.path b.to)<;>cases prior<;>simp
theorem Et (a b:OpT):bothEdit a b=bothEdit b a:=by
 unfold bothEdit;have:decide (b.path=a.path)=decide (a.path=b.path):=decide_eq_decide.2 ⟨λh=>h.symm,λh=>h.symm⟩;rw[this];cases decide (a.kind=6)<;>cases decide (b.kind=6)<;>rfl
def bothX (a b:OpT)(prior:Bool):List OpT×List OpT×Int:=
 bif decide ((behindX a b prior).2=0) then(bif decide ((behindX b a (!prior)).2=0) then((behindX a b prior).1,(behindX b a (!prior)).1,0) else([],[],(behindX b a (!prior)).2)) else([],[],(behindX a b prior).2)
def bareL (l:List OpT):List OpT:=l.map bareO
end Bow
namespace Bow
open Go Go.Proofs
theorem Apj {a:OpT}(h1:a.path.length≤1000)(h2:a.to.length≤1000):(undoO a).Ok:=by
 unfold undoO;cases decide (a.kind=3)&&movesO a with
 |false=>exact⟨⟨Aq4 _,Aq4 _,Aq4 _,Aq4 _,Aq4 _,Aq4 _⟩,Aq4 _⟩
 |true=>
  have q1:=Ff a a.path;have q2:=Ff a (chgO a).frm;have q3:(chgO a).frm.length≤a.path.length:=by
   unfold chgO;cases decide (a.kind=1)<;>simp
  exact⟨⟨by show((nodeP a a.path).getD []).length≤_;omega,by show((nodeP a (chgO a).frm).getD []).length≤_;omega,Aq4 _,Aq4 _,Aq4 _,Aq4 _⟩,Aq4 _⟩
theorem Apk {b a o:OpT}{prior:Bool}(h:o∈rowO b a prior):o=shiftedO b a prior∨o=dropO ((nodeP a b.path).getD [])∨o=dropO ((nodeP a a.path).getD [])∨
  o=dropO ((nodeP (dropO ((nodeP a a.path).getD [])) ((nodeP a b.path).getD [])).getD [])∨o=undoO a∨o=b:=by
 unfold rowO at h;have one: ∀ {x:OpT},o∈ [x]->o=x:=λh=>Ar5.1 h;cases h1:decide (a.kind=2) with
 |true=>
  rw[h1] at h;cases h2:within a.path b.path with
  |true=>rw[h2] at h;cases h
  |false=>
   rw[h2] at h;cases h3:decide (b.kind=3)&&within a.path b.to with
   |true=>rw[h3] at h;exact .inr (.inl (one h))
   |false=>rw[h3] at h;exact .inl (one h)
 |false=>
  rw[h1] at h;cases h2:wonO b a with
  |true=>
   rw[h2] at h;cases prior with
   |true=>exact .inl (one h)
   |false=>cases h
  |false=>
   rw[h2] at h;cases h3:decide (a.kind=3) with
   |false=>rw[h3] at h;exact .inl (one h)
   |true=>
    rw[h3] at h;cases h4:decide (b.kind=2) with
    |true=>
     rw[h4] at h;cases h5:within b.path a.path&& (!decide (b.path=a.path)&& !within b.path a.to) with
     |true=>
      rw[h5] at h
      rcases Arl.1 h with h|h
      ·exact .inr (.inr (.inl h))
      ·exact .inr (.inr (.inr (.inl (one h))))
     |false=>rw[h5] at h;exact .inl (one h)
    |false=>
     rw[h4] at h;cases h5:decide (b.kind=3)&& (within b.path a.to&&within a.path b.to) with
     |true=>
      rw[h5] at h;cases prior with
      |true=>
       rcases Arl.1 h with h|h
       ·exact .inr (.inr (.inr (.inr (.inl h))))
       ·exact .inr (.inr (.inr (.inr (.inr (one h)))))
      |false=>cases h
     |false=>rw[h5] at h;exact .inl (one h)
theorem Aqi {b a:OpT}{prior:Bool}(ha:a.Ok)(hb:b.Ok)(pa:a.path.length≤1000)(pb:b.path.length≤1000)(ta:a.to.length≤1000)(tb:b.to.length≤1000): ∀o∈rowO b a prior,o.Ok:=by
 have hs:=Ah5 (prior:=prior) ha hb pb tb ta;have hu:=Apj pa ta;have q1:=Ff a b.path;have q2:=Ff a a.path;have q3:=Ff (dropO ((nodeP a a.path).getD [])) ((nodeP a b.path).getD []);have q4:(dropO ((nodeP a a.path).getD [])).to.length=0:=rfl;have d1:=drop_ok (p:=(nodeP a b.path).getD []) (by omega);have d2:=drop_ok (p:=(nodeP a a.path).getD []) (by omega);have d3:=drop_ok (p:=(nodeP (dropO ((nodeP a a.path).getD [])) ((nodeP a b.path).getD [])).getD []) (by omega);intro o ho
 rcases Apk ho with rfl|rfl|rfl|rfl|rfl|rfl<;>assumption
theorem Ano {l:List OpT}{i:Nat}(hi:i<l.length):(((l.take i).map bareO++l.drop i).map opV).set (0+ ((i:Nat):Int).toNat) (opV (bareO l[i]))=((l.take (i+1)).map bareO++l.drop (i+1)).map opV:=by
 rw[Aru hi,Ask hi,Asr,Asr,Asr,Asr,Ary,show((i:Nat):Int).toNat=i from rfl];rw[Awd _ _ (by simp;omega)];have:i- (List.map opV (List.map bareO (List.take i l))).length=0:=by simp;omega
 rw[this,Asa,Au6];simp
def BehV (r:List OpT×Int):V:=.tup [opsV r.1,.int .i64 r.2]
theorem behZ (e:Int): ∃y,Wk (.tup [.nilsl,.int .i64 e]) y∧y.pureB=true∧y=BehV ([],e):=⟨BehV ([],e),Wk.tup ⟨Wk.nil 11,.refl _,trivial⟩,rfl,rfl⟩
theorem Anp (b a:OpT)(prior:Bool)(ha:a.Ok)(hb:b.Ok)(he:bothEdit b a=false)(hto:a.to.length≤1000∧b.to.length≤1000):
  Pure Tryz.prog 188 [opV b,opV a,.bool prior] (λx=>x=BehV (behindO b a prior)):=by
 refine Aj (Ad 300 Tryz.func188 rfl rfl rfl λB=> ?_);show CallThen _ _ _ _ _ _;refine Aa (R9 a ha) rfl ?_;rintro x rfl;refine⟨λg1=>go 300 ?_,λg1=>go 300 ?_⟩
 ·have g1:soundO a=false:=by simpa using g1
  have e:behindO b a prior=([],80):=by unfold behindO;rw[g1];rfl
  rw[e];exact⟨trivial,rfl,rfl,rfl,behZ 80⟩
 have sa:soundO a=true:=by simpa using g1
 show CallThen _ _ _ _ _ _;refine Aa (R9 b hb) rfl ?_;rintro x rfl;refine⟨λg2=>go 300 ?_,λg2=>go 300 ?_⟩
 ·have g2:soundO b=false:=by simpa using g2
  have e:behindO b a prior=([],80):=by unfold behindO;rw[sa,g2];rfl
  rw[e];exact⟨trivial,rfl,rfl,rfl,behZ 80⟩
 have sb:soundO b=true:=by simpa using g2
 have fa:formedB a=true:=by unfold soundO at sa;rw[Aq6] at sa;exact sa.1
 have fb:formedB b=true:=by unfold soundO at sb;rw[Aq6] at sb;exact sb.1
 have pa:=Ey (Bc fa);have pb:=Ey (Bc fb);have hrow:=Aq2 b a prior ha hb sa sb he hto;have hrok:=Aqi (prior:=prior) ha hb (by omega) (by omega) hto.1 hto.2;have e:behindO b a prior=bif(rowO b a prior).all formedB then((rowO b a prior).map bareO,0) else([],3):=by unfold behindO;rw[sa,sb];rfl
 rw[e];obtain⟨l,hl⟩: ∃l,rowO b a prior=l:=⟨_,rfl⟩;have hlen:l.length≤2:=by rw[←hl];exact Nz b a prior
 rw[hl] at hrow hrok ⊢;show CallThen _ _ _ _ _ _;refine Ag [] hrow rfl rfl trivial rfl rfl rfl ?_;rintro x T1 (⟨rfl,rfl,rfl⟩| ⟨G,rfl,rfl⟩)
 ·refine⟨rfl,?_⟩;refine⟨λq=>absurd rfl (A7 q),λ_=>go 300 ?_⟩;show Goes _ _ _ _;refine P5 ?_;refine go 300 ?_;refine⟨λq=>absurd (Au q) (by decide),λ_=>go 300 ?_⟩;exact⟨trivial,rfl,rfl,rfl,behZ 0⟩
 ·refine⟨rfl,?_⟩;refine⟨λq=>absurd rfl (A7 q),λ_=>go 300 ?_⟩;refine⟨rfl,?_⟩;show Goes _ _ _ _;refine Ak (ι:=Nat) (λi=>i≤l.length∧(l.take i).all formedB=true) (λi=>l.length-i) (λi=>[(31,.int .i64 i),(30,.int .i64 l.length),(29,.osl (.loc 4) G 0 l.length),(8,.osl (.loc 4) G 0 l.length)])
   (λi=>[some (.box (opV b).cells),some (.box (opV a).cells),some (.box (opV b).cells),some (.box (opV a).cells),some (.vec G 11 (((l.take i).map bareO++l.drop i).map opV))]) 0 300 (λ_=>rfl) (λ_=>rfl) ⟨⟨Aq4 _,by simp⟩,Zq4,Zq5⟩ ?_
  rintro i ⟨k1,k2⟩ next;refine⟨λhlt=>go 300 ?_,λhge=>go 300 ?_⟩
  ·have hi:i<l.length:=by have:=Au hlt;omega
   have hx:((((l.take i).map bareO++l.drop i).map opV))[0+ ((i:Nat):Int).toNat]?=some (opV l[i]):=by
    simp[Arh,hi,Atv (Aty hi)]
   have hok:=hrok l[i] (Arq hi);refine⟨rfl,Aq5 i,by omega,rfl,_,hx,?_⟩;show CallThen _ _ _ _ _ _;refine Aa (Ha l[i] hok.lt hok.each) rfl ?_;rintro x rfl;refine⟨λg3=>go 300 ?_,λg3=>go 300 ?_⟩
   ·have g3:formedB l[i]=false:=by simpa using g3
    have e:l.all formedB=false:=List.all_eq_false.2 ⟨l[i],Arq hi,by simpa using g3⟩;rw[e];exact⟨trivial,rfl,rfl,rfl,behZ 3⟩
   have g3:formedB l[i]=true:=by simpa using g3
   show CallThen _ _ _ _ _ _;refine Aa (Hb l[i] hok.lt) rfl ?_;rintro x rfl;refine⟨rfl,Aq5 i,by omega,rfl,_,hx,?_⟩;refine⟨by constructor<;>omega,?_⟩;show Goes _ _ _ _;refine next (i+1) _ _ ⟨⟨hi,?_⟩,by omega,Zq4,⟨⟨rfl,rfl⟩,⟨rfl,rfl⟩,⟨rfl,rfl⟩,⟨rfl,rfl⟩,⟨?_,rfl⟩,trivial⟩⟩
   ·rw[Ask hi,List.all_append,k2];simp[g3]
   ·show some (HObj.vec G 11 (((((l.take i).map bareO++l.drop i).map opV)).set (0+ ((i:Nat):Int).toNat) (opV (bareO l[i]))))=_;rw[Ano hi]
  ·have hi:i=l.length:=by have:=Ah hge;omega
   subst hi;rw[Asj] at k2;rw[k2];refine⟨trivial,rfl,rfl,rfl,by simp,rfl,?_⟩;refine⟨BehV (l.map bareO,0),?_,rfl,rfl⟩;simp[BehV,opsV];exact Wk.refl _
def BothV (r:List OpT×List OpT×Int):V:=.tup [opsV r.1,opsV r.2.1,.int .i64 r.2.2]
theorem bothZ (e:Int): ∃y,Wk (.tup [.nilsl,.nilsl,.int .i64 e]) y∧y.pureB=true∧y=BothV ([],[],e):=⟨BothV ([],[],e),Wk.tup ⟨Wk.nil 11,Wk.nil 11,.refl _,trivial⟩,rfl,rfl⟩
def mkB (m:Mk)(g:Nat):HObj:=.box [.osl (.loc 1) g 0 m.l.length,.int .i64 m.keep]
def mkVec (m:Mk)(g:Nat):HObj:=.vec g 3 (m.l.map pieceV)
def mkT (m:Mk)(g:Nat):Heap:=[some (mkB m g),some (mkVec m g)]
theorem Xb {m:Mk}(h:0<m.keep∨m.l.length=0):m.last=⟨m.l++ [⟨m.keep,0,[]⟩],0⟩:=by
 unfold Mk.last;have:(decide (0<m.keep)||m.l.isEmpty)=true:=by
  rcases h with h|h
  ·simp[h]
  ·have:=Ard.1 h;simp[this]
 rw[this];rfl
theorem Ah7 {m:Mk}(h: ¬0<m.keep)(h':m.l.length≠0):m.last=m:=by
 unfold Mk.last;have:(decide (0<m.keep)||m.l.isEmpty)=false:=by
  have h2:m.l≠[]:=λe=>h' (by rw[e];rfl);simp[h,h2]
 rw[this];rfl
theorem Ald (m:Mk)(g:Nat)(hok:m.Ok)(hw:m.w≤1000000000000):Fun Tryz.prog 199 (mkT m g) [.ptr (.loc 0) 0] (λx T=> ∃g',x=.eptr (.loc 1) g' (m.last.l.length-1) 0∧T=mkT m.last g'):=by
 have hlen:(m.l.length:Int)≤1000000000000:=by
  have:=Da hok.l;have:=hok.k;unfold Mk.w at hw;omega
 refine A9 2 rfl (Ay 300 Tryz.func199 rfl rfl rfl λimps B hi=> ?_);have hroom:room ((m.l.map pieceV).length+1) 32:=by
  unfold room;simp only[Arf];omega
 refine⟨λg1=>go 300 ?_,λg1=>go 300 ?_⟩
 ·have hl:=Xb (.inl (Au g1));show Goes _ _ _ _;refine Ac [] 300 ⟨rfl,⟨rfl,trivial⟩,rfl,rfl,rfl,rfl,by simp,hroom,?_⟩;refine⟨by kernel_rfl,?_⟩;show Goes _ _ _ _;refine Ac [] 300 ⟨rfl,⟨?_,?_⟩,rfl,?_,?_,?_⟩
  ·simp only[Arf,Aq8,Arc];omega
  ·simp only[Arf,Aq8,Arc];omega
  ·simp only[Arf,Aq8,Arc];omega
  ·simp only[Arf,Aq8,Arc];omega
  refine⟨by kernel_rfl,?_⟩;refine⟨trivial,rfl,rfl,mkT m.last (bump g),rfl,rfl,⟨⟨?_,rfl⟩,⟨?_,rfl⟩,trivial⟩,bump g,?_,rfl⟩
  ·rw[hl];simp[mkB]
  ·rw[hl];simp[mkVec,pieceV]
  ·rw[hl];show V.eptr (Ref.loc 1) (bump g) _ 0=_
   congr 1
   simp
 ·refine⟨rfl,?_⟩;refine⟨λg2=>go 300 ?_,λg2=>go 300 ?_⟩
  ·have hz:=Aw g2;have hl:=Xb (m:=m) (.inr (by omega));show Goes _ _ _ _;refine Ac [] 300 ⟨rfl,⟨rfl,trivial⟩,rfl,rfl,rfl,rfl,by simp,hroom,?_⟩;refine⟨by kernel_rfl,?_⟩;show Goes _ _ _ _;refine Ac [] 300 ⟨rfl,⟨?_,?_⟩,rfl,?_,?_,?_⟩
   ·simp only[Arf,Aq8,Arc];omega
   ·simp only[Arf,Aq8,Arc];omega
   ·simp only[Arf,Aq8,Arc];omega
   ·simp only[Arf,Aq8,Arc];omega
   refine⟨by kernel_rfl,?_⟩;refine⟨trivial,rfl,rfl,mkT m.last (bump g),rfl,rfl,⟨⟨?_,rfl⟩,⟨?_,rfl⟩,trivial⟩,bump g,?_,rfl⟩
   ·rw[hl];simp[mkB]
   ·rw[hl];simp[mkVec,pieceV]
   ·rw[hl];show V.eptr (Ref.loc 1) (bump g) _ 0=_
    congr 1
    simp
  ·have hz:=Bg g2;have hl:=Ah7 (m:=m) (Int.not_lt.2 (Ah g1)) (by omega);show Goes _ _ _ _;refine Ac [] 300 ⟨rfl,⟨by omega,by omega⟩,rfl,by omega,by omega,?_⟩;refine⟨by kernel_rfl,?_⟩;refine⟨trivial,rfl,rfl,mkT m.last g,rfl,rfl,⟨⟨?_,rfl⟩,⟨?_,rfl⟩,trivial⟩,g,?_,rfl⟩
   ·rw[hl]
   ·rw[hl]
   ·rw[hl];show V.eptr (Ref.loc 1) g _ 0=_
    congr 1
    simp
theorem Ad3 {f:PieceT->PieceT}{l:List PieceT}(h:l≠[]){x:V}(hx:x=pieceV (f (l[l.length-1]'(by have:=Arw.2 h;omega)))):(l.map pieceV).set (l.length-1) x=(modL f l).map pieceV:=by
 rw[Abv f l (by have:=Arw.2 h;omega),Au5,hx]
theorem Pu {l:List PieceT}(h:l≠[]):(l.map pieceV)[l.length-1]?=some (pieceV (l[l.length-1]'(by have:=Arw.2 h;omega))):=by
 have:=Arw.2 h;simp[show l.length-1<l.length by omega]
theorem I3 (m:Mk)(g:Nat)(s:List UInt8)(hok:m.Ok)(hw:m.w≤1000000000000)(hs:s.length≤1000000000000):Fun Tryz.prog 179 (mkT m g) [.ptr (.loc 0) 0,.str s] (λx T=> ∃g',x=.tup []∧T=mkT (m.put s) g'):=by
 refine A9 2 rfl (Ay 300 Tryz.func179 rfl rfl rfl λimps B hi=> ?_);refine⟨λg1=>go 300 ?_,λg1=>go 300 ?_⟩
 ·have hne:s.isEmpty=false:=by
   have:s≠[]:=by simpa using g1
   cases s with
   |nil=>exact absurd rfl this
   |cons a s=>rfl
  have e:m.put s=⟨modL (λp=> {p with put:=p.put++s}) m.last.l,m.last.keep⟩:=by unfold Mk.put;rw[hne];rfl
  obtain⟨lok,lw⟩:=Mk.last_ok hok;have hlast:=m.last_ne;show CallThen _ _ _ _ _ _;refine Ag [0,1] (Ald m g hok hw) rfl rfl Zq2 rfl rfl rfl ?_;rintro x T1 ⟨g',rfl,rfl⟩;refine⟨rfl,?_⟩;show Goes _ _ _ _;refine E4 300 rfl rfl rfl rfl rfl ?_;have hput:(m.last.l[m.last.l.length-1]'(by have:=Arw.2 hlast;omega)).put.length≤1000000000001:=by
   have h1:=Ic lok.l _ (Arq (by have:=Arw.2 hlast;omega:m.last.l.length-1<m.last.l.length));have h2:=lok.l _ (Arq (by have:=Arw.2 hlast;omega:m.last.l.length-1<m.last.l.length));have:=h2.k;have:=h2.d;have:=lok.k;unfold PieceT.w at h1;unfold Mk.w at lw hw;omega
  refine⟨rfl,rfl,_,Pu hlast,?_⟩;refine⟨by rw[Arb];omega,?_⟩;show Goes _ _ _ _;refine E4 300 rfl rfl rfl rfl rfl ?_;refine⟨rfl,rfl,_,Pu hlast,?_⟩;refine⟨trivial,rfl,rfl,mkT (m.put s) g',rfl,rfl,⟨⟨?_,rfl⟩,⟨?_,rfl⟩,trivial⟩,g',rfl,rfl⟩
  ·show some (mkB m.last g')=_;rw[e];simp only[mkB,Tz]
  ·rw[e];exact congrArg (λz=>some (HObj.vec g' 3 z)) (Ad3 (f:=λp=> {p with put:=p.put++s}) hlast rfl)
 ·have hne:s=[]:=by simpa using g1
  subst hne;refine⟨trivial,rfl,rfl,mkT m g,rfl,rfl,Zq2,g,rfl,rfl⟩
theorem Ih (m:Mk)(g:Nat)(n:Int)(hok:m.Ok)(hw:m.w≤1000000000000)(hs:n≤1000000000000):Fun Tryz.prog 183 (mkT m g) [.ptr (.loc 0) 0,.int .i64 n] (λx T=> ∃g',x=.tup []∧T=mkT (m.drop n) g'):=by
 refine A9 2 rfl (Ay 300 Tryz.func183 rfl rfl rfl λimps B hi=> ?_);refine⟨λg1=>go 300 ?_,λg1=>go 300 ?_⟩
 ·have hne:0<n:=Au g1;have e:m.drop n=⟨modL (λp=> {p with drop:=p.drop+n}) m.last.l,m.last.keep⟩:=by unfold Mk.drop;rw[decide_eq_true hne];rfl
  obtain⟨lok,lw⟩:=Mk.last_ok hok;have hlast:=m.last_ne;show CallThen _ _ _ _ _ _;refine Ag [0,1] (Ald m g hok hw) rfl rfl Zq2 rfl rfl rfl ?_;rintro x T1 ⟨g',rfl,rfl⟩;refine⟨rfl,?_⟩;show Goes _ _ _ _;refine E4 300 rfl rfl rfl rfl rfl ?_;have hput:0≤(m.last.l[m.last.l.length-1]'(by have:=Arw.2 hlast;omega)).drop∧(m.last.l[m.last.l.length-1]'(by have:=Arw.2 hlast;omega)).drop≤1000000000001:=by
   have h1:=Ic lok.l _ (Arq (by have:=Arw.2 hlast;omega:m.last.l.length-1<m.last.l.length));have h2:=lok.l _ (Arq (by have:=Arw.2 hlast;omega:m.last.l.length-1<m.last.l.length));have:=h2.k;have:=h2.d;have:=lok.k;unfold PieceT.w at h1;unfold Mk.w at lw hw;omega
  refine⟨rfl,rfl,_,Pu hlast,?_⟩;refine⟨by constructor<;>omega,?_⟩;show Goes _ _ _ _;refine E4 300 rfl rfl rfl rfl rfl ?_;refine⟨rfl,rfl,_,Pu hlast,?_⟩;refine⟨trivial,rfl,rfl,mkT (m.drop n) g',rfl,rfl,⟨⟨?_,rfl⟩,⟨?_,rfl⟩,trivial⟩,g',rfl,rfl⟩
  ·show some (mkB m.last g')=_;rw[e];simp only[mkB,Tz]
  ·rw[e];exact congrArg (λz=>some (HObj.vec g' 3 z)) (Ad3 (f:=λp=> {p with drop:=p.drop+n}) hlast rfl)
 ·have hne: ¬0<n:=Int.not_lt.2 (Ah g1);have e:m.drop n=m:=by unfold Mk.drop;rw[decide_eq_false hne];rfl
  rw[e];refine⟨trivial,rfl,rfl,mkT m g,rfl,rfl,Zq2,g,rfl,rfl⟩
theorem Ale (m:Mk)(g:Nat)(p:PieceT)(hok:m.Ok)(hp:p.Nn)(hw:m.w+p.w≤900000000000):Fun Tryz.prog 198 (mkT m g) [.ptr (.loc 0) 0,pieceV p] (λx T=> ∃g',x=.tup []∧T=mkT (m.piece p) g'):=by
 have p1:=hp.k;have p2:=hp.d;have m1:=hok.k;have m2:=Da hok.l;have hw':=hw;unfold PieceT.w Mk.w at hw';obtain⟨a1,a2⟩:=Mk.kept_ok hok hp.k;obtain⟨b1,b2⟩:=Mk.put_ok (s:=p.put) a1;have hpw:p.w=p.keep+p.drop+p.put.length+1:=rfl;refine A9 2 rfl (Ay 300 Tryz.func198 rfl rfl rfl λimps B hi=> ?_);show Goes _ _ _ _;refine Ac [] 300 ⟨⟨by omega,by omega⟩,?_⟩;refine⟨by kernel_rfl,?_⟩;show CallThen _ _ _ _ _ _;refine Ag [0,1] (I3 (m.kept p.keep) g p.put a1 (by omega) (by omega)) rfl rfl Zq2 rfl rfl rfl ?_;rintro x T1 ⟨g1,rfl,rfl⟩;refine⟨rfl,?_⟩;show CallThen _ _ _ _ _ _;refine Ag [0,1] (Ih ((m.kept p.keep).put p.put) g1 p.drop b1 (by omega) (by omega)) rfl rfl Zq2 rfl rfl rfl ?_;rintro x T1 ⟨g2,rfl,rfl⟩;refine⟨rfl,?_⟩;exact⟨trivial,rfl,rfl,mkT (m.piece p) g2,rfl,rfl,Zq2,g2,rfl,rfl⟩
theorem Xc {l:List PieceT}{i:Nat}(hi:i<l.length)(m:Mk):(l.take (i+1)).foldl Mk.piece m=((l.take i).foldl Mk.piece m).piece l[i]:=by
 rw[Ask hi,Ava];rfl
theorem Alf (l:List PieceT)(i:Nat)(h: ∀p∈l,p.Nn):sumW (l.take i)≤sumW l:=by
 have e:=Nb (l.take i) (l.drop i);rw[Ar4] at e;have:=Da (l:=l.drop i) λp hp=>h p (Asp hp);omega
theorem Rl (l:List PieceT)(h: ∀p∈l,p.Nn)(hw:sumW l≤100000000000)(hl:l.length≤100000000000):Fun Tryz.prog 177 [] [piecesV l] (λx T=> ∃g k,x=.osl (.loc 1) g 0 (normP l).length∧T=[some (.box [.osl (.loc 1) g 0 (normP l).length,.int .i64 k]),some (.vec g 3 ((normP l).map pieceV))]):=by
 refine A9 2 rfl (Ay 300 Tryz.func177 rfl rfl rfl λimps B hi=> ?_);have:imps=[]:=Ard.1 hi;subst this;show Goes _ _ _ _;refine C9 0 0 3 rfl rfl ?_;refine Ak (ι:=Nat×Nat) (λi=>i.1≤l.length) (λi=>l.length-i.1) (λi=>[(8,.int .i64 i.1),(7,.int .i64 l.length),(6,piecesV l),(3,.ptr (.loc 0) 0)]) (λi=>mkT ((l.take i.1).foldl Mk.piece Mk.nil) i.2) (0,0) 300 (λ_=>rfl) (λ_=>rfl)
  ⟨Aq4 _,⟨⟨rfl,rfl⟩,⟨?_,rfl⟩,⟨rfl,rfl⟩,⟨rfl,rfl⟩,trivial⟩,Zq2⟩ ?_
 ·show V.int _ _=_;simp
 rintro⟨i,g⟩ k1 next;simp only at k1;refine⟨λhlt=>go 300 ?_,λhge=>go 300 ?_⟩
 ·have hi:i<l.length:=by have:=Au hlt;omega
  have hx:(l.map pieceV)[i]?=some (pieceV l[i]):=by simp[hi]
  have hm:l[i]∈l:=Arq hi;obtain⟨q1,q2⟩:=T4 (l:=l.take i) Mk.nil_ok λp hp=>h p (As0 hp);have q3:=Alf l i h;have q4:=Ic h _ hm;have q5:Mk.nil.w=0:=rfl;refine⟨Aq5 i,_,hx,?_⟩;show CallThen _ _ _ _ _ _;refine Ag [0,1] (Ale _ g l[i] q1 (h _ hm) (by omega)) rfl rfl Zq2 rfl rfl rfl ?_;rintro x T1 ⟨g1,rfl,rfl⟩;refine⟨rfl,?_⟩;refine⟨by constructor<;>omega,?_⟩;show Goes _ _ _ _;refine next (i+1,g1) _ _ ⟨hi,by simp only;omega,Zq4,?_⟩;rw[show(l.take (i+1)).foldl Mk.piece Mk.nil=_ from Xc hi Mk.nil];exact Zq2
 ·have hi:i=l.length:=by have:=Ah hge;omega
  subst hi;refine⟨trivial,rfl,rfl,mkT (l.foldl Mk.piece Mk.nil) g,rfl,rfl,⟨⟨?_,rfl⟩,⟨?_,rfl⟩,trivial⟩,g,(l.foldl Mk.piece Mk.nil).keep,?_,rfl⟩
  ·show some (mkB ((l.take l.length).foldl Mk.piece Mk.nil) g)=_;rw[Asj]
  ·show some (mkVec ((l.take l.length).foldl Mk.piece Mk.nil) g)=_;rw[Asj]
  ·show V.osl (Ref.loc 1) g 0 ((l.take l.length).foldl Mk.piece Mk.nil).l.length=_;rw[Asj];rfl
def rowVec (d r:List PieceT)(g:Nat):HObj:=.vec g 3 ((d++r).map pieceV)
theorem Gv (d:List PieceT)(p:PieceT)(r:List PieceT):((d++p::r).map pieceV)[d.length+ ((0:Int)).toNat]?=some (pieceV p):=by simp
theorem Yf (d:List PieceT)(p q:PieceT)(r:List PieceT):((d++p::r).map pieceV).set (d.length+ ((0:Int)).toNat) (pieceV q)=(d++q::r).map pieceV:=by simp
theorem Mj (d r:List PieceT)(g:Nat):Fun Tryz.prog 178 [some (rowVec d r g)] [.osl (.loc 0) g d.length r.length] (λx T=>x=.tup [.str (rowPut r).1,.bool (rowHas r)]∧T=[some (rowVec d (rowPut r).2 g)]):=by
 refine L7 (Ay 300 Tryz.func178 rfl rfl rfl λimps B hi=> ?_);have ff: ∀ {s:List UInt8} {b:Bool},b=false->Wk (.tup [.str s,.ff]) (.tup [.str s,.bool b]):=λh=>by subst h;exact Wk.tup ⟨.refl _,Wk.ff,trivial⟩
 have tt: ∀ {s:List UInt8} {b:Bool},b=true->Wk (.tup [.str s,.tt]) (.tup [.str s,.bool b]):=λh=>by subst h;exact Wk.tup ⟨.refl _,Wk.tt,trivial⟩
 cases r with
 |nil=>
  refine⟨rfl,?_⟩;refine⟨λg1=>go 300 ?_,λg1=>absurd rfl (Bg g1)⟩;exact⟨trivial,rfl,rfl,_,ff rfl,rfl,rfl,rfl,rfl⟩
 |cons p r=>
  refine⟨rfl,?_⟩;refine⟨λg1=>by have:=Aw g1;simp at this;omega,λg1=>go 300 ?_⟩;have hl:(0:Int)< ((p::r).length:Nat):=by simp
  refine⟨rfl,by decide,hl,rfl,rfl,_,Gv d p r,?_⟩;refine⟨λg2=>go 300 ?_,λg2=>go 300 ?_⟩
  ·have e:(decide (0<p.keep)||p.put.isEmpty)=true:=by rw[g2];rfl
   have e1:rowPut (p::r)=([],p::r):=by show(bif _ then _ else _)=_;rw[e];rfl
   have e2:rowHas (p::r)=false:=by show(!_)=_;rw[e];rfl
   exact⟨trivial,rfl,rfl,.tup [.str [],.bool (rowHas (p::r))],ff e2,rfl,rfl,by rw[e1],by show [some (rowVec d (p::r) g)]=_;rw[e1]⟩
  ·refine⟨rfl,by decide,hl,rfl,rfl,_,Gv d p r,?_⟩;refine⟨λg3=>go 300 ?_,λg3=>go 300 ?_⟩
   ·have g3:p.put=[]:=by simpa using g3
    have e:(decide (0<p.keep)||p.put.isEmpty)=true:=by rw[g3];simp
    have e1:rowPut (p::r)=([],p::r):=by show(bif _ then _ else _)=_;rw[e];rfl
    have e2:rowHas (p::r)=false:=by show(!_)=_;rw[e];rfl
    exact⟨trivial,rfl,rfl,.tup [.str [],.bool (rowHas (p::r))],ff e2,rfl,rfl,by rw[e1],by show [some (rowVec d (p::r) g)]=_;rw[e1]⟩
   ·have g3:p.put≠[]:=by simpa using g3
    have e:(decide (0<p.keep)||p.put.isEmpty)=false:=by rw[g2];simp[g3]
    refine⟨rfl,by decide,hl,rfl,rfl,_,Gv d p r,?_⟩;refine⟨rfl,by decide,hl,rfl,rfl,_,Gv d p r,?_⟩;have e1:rowPut (p::r)=(p.put, {p with put:=[]}::r):=by show(bif _ then _ else _)=_;rw[e];rfl
    have e2:rowHas (p::r)=true:=by show(!_)=_;rw[e];rfl
    refine⟨trivial,rfl,rfl,.tup [.str p.put,.bool (rowHas (p::r))],tt e2,rfl,rfl,by rw[e1],?_⟩;rw[e1];exact congrArg (λz=>[some (HObj.vec g 3 z)]) (Yf d p {p with put:=[]} r)
theorem Bf (d r:List PieceT)(g:Nat)(n:Int)(hn:0≤n∧n≤1000000000000)(hr: ∀p∈r,p.Nn∧p.w≤1000000000000):Fun Tryz.prog 181 [some (rowVec d r g)] [.osl (.loc 0) g d.length r.length,.int .i64 n] (λx T=>x=.tup []∧T=[some (rowVec d (rowTake n r) g)]):=by
 refine Ay 300 Tryz.func181 rfl rfl rfl λimps B hi=> ?_;cases r with
 |nil=>
  refine⟨rfl,?_⟩;refine⟨λg1=>go 300 ?_,λg1=>absurd rfl (Bg g1)⟩;exact⟨trivial,rfl,rfl,rfl,rfl⟩
 |cons p r=>
  refine⟨rfl,?_⟩;refine⟨λg1=>by have:=Aw g1;simp at this;omega,λg1=>go 300 ?_⟩;have hl:(0:Int)< ((p::r).length:Nat):=by simp
  obtain⟨hp,hw⟩:=hr p Ari;have h1:=hp.k;have h2:=hp.d;unfold PieceT.w at hw;refine⟨rfl,by decide,hl,?_⟩;show Goes _ _ _ _;refine E4 300 rfl rfl rfl rfl rfl ?_;refine⟨rfl,rfl,_,Gv d p r,?_⟩;refine⟨λg2=>go 300 ?_,λg2=>go 300 ?_⟩
  ·show Goes _ _ _ _;refine E4 300 rfl rfl rfl rfl rfl ?_;refine⟨rfl,rfl,_,Gv d p r,by constructor<;>omega,?_⟩;show Goes _ _ _ _;refine E4 300 rfl rfl rfl rfl rfl ?_;refine⟨rfl,rfl,_,Gv d p r,?_⟩;refine⟨trivial,rfl,rfl,rfl,?_⟩;have er:rowTake n (p::r)= {p with keep:=p.keep-n}::r:=by
    show(bif decide (0<p.keep) then _ else _)=_;rw[g2];rfl
   rw[er];exact congrArg (λz=>[some (HObj.vec g 3 z)]) (Yf d p {p with keep:=p.keep-n} r)
  ·show Goes _ _ _ _;refine E4 300 rfl rfl rfl rfl rfl ?_;refine⟨rfl,rfl,_,Gv d p r,by constructor<;>omega,?_⟩;show Goes _ _ _ _;refine E4 300 rfl rfl rfl rfl rfl ?_;refine⟨rfl,rfl,_,Gv d p r,?_⟩;refine⟨trivial,rfl,rfl,rfl,?_⟩;have er:rowTake n (p::r)= {p with drop:=p.drop-n}::r:=by
    show(bif decide (0<p.keep) then _ else _)=_;rw[g2];rfl
   rw[er];exact congrArg (λz=>[some (HObj.vec g 3 z)]) (Yf d p {p with drop:=p.drop-n} r)
def runV (r:Int×Bool×Bool):V:=.tup [.int .i64 r.1,.bool r.2.1,.bool r.2.2]
def rowB (d r:List PieceT)(g:Nat):HObj:=.box [.osl (.loc 1) g d.length r.length]
theorem Pv (d0 r0:List PieceT)(g:Nat):Fun Tryz.prog 180 [some (rowB d0 r0 g),some (rowVec d0 r0 g)] [.ptr (.loc 0) 0] (λx T=>x=runV (rowRun r0).1∧ ∃d,d++ (rowRun r0).2=d0++r0∧T=[some (rowB d (rowRun r0).2 g),some (rowVec d (rowRun r0).2 g)]):=by
 have wk: ∀ {n:Int} {x y:V} {a b:Bool},(x=.tt∧a=true∨x=.ff∧a=false)->(y=.tt∧b=true∨y=.ff∧b=false)->Wk (.tup [.int .i64 n,x,y]) (runV (n,a,b)):=by
  rintro n x y a b (⟨rfl,rfl⟩| ⟨rfl,rfl⟩) (⟨rfl,rfl⟩| ⟨rfl,rfl⟩)<;>exact Wk.tup ⟨.refl _,by first|exact Wk.tt|exact Wk.ff,by first|exact Wk.tt|exact Wk.ff,trivial⟩
 refine L7 (A9 2 rfl (Ay 300 Tryz.func180 rfl rfl rfl λimps B hi=> ?_));show Goes _ _ _ _;refine Ak (ι:=List PieceT×List PieceT) (λi=>i.1++i.2=d0++r0∧rowRun i.2=rowRun r0∧i.2.length≤r0.length) (λi=>i.2.length) (λi=>[(0,.ptr (.loc 0) 0)]) (λi=>[some (rowB i.1 i.2 g),some (rowVec i.1 i.2 g)]) (d0,r0) 300 (λ_=>rfl) (λ_=>by rw[hi];rfl)
  ⟨⟨rfl,rfl,Ara _⟩,Zq1,Zq2⟩ ?_
 rintro⟨d,r⟩ ⟨k1,k2,k3⟩ next;simp only at k1 k2 k3;cases r with
 |nil=>
  refine⟨rfl,?_⟩;refine⟨λg1=>absurd (Au g1) (by simp),λg1=>go 300 ?_⟩;have e:rowRun r0=((0,false,false),[]):=k2.symm;rw[e];exact⟨trivial,rfl,rfl,[some (rowB d [] g),some (rowVec d [] g)],rfl,rfl,Zq2,_,wk (.inr ⟨rfl,rfl⟩) (.inr ⟨rfl,rfl⟩),rfl,rfl,rfl,d,k1,rfl⟩
 |cons p r=>
  refine⟨rfl,?_⟩;refine⟨λg1=>go 300 ?_,λg1=>absurd (Ah g1) (by simp)⟩;have hl:(0:Int)< ((p::r).length:Nat):=by simp
  refine⟨rfl,by decide,hl,rfl,_,Gv d p r,?_⟩;refine⟨λg2=>go 300 ?_,λg2=>go 300 ?_⟩
  ·have e:rowRun r0=((p.keep,false,true),p::r):=by rw[←k2,rowRun,g2];rfl
   rw[e];exact⟨trivial,rfl,rfl,[some (rowB d (p::r) g),some (rowVec d (p::r) g)],rfl,rfl,Zq2,_,wk (.inr ⟨rfl,rfl⟩) (.inl ⟨rfl,rfl⟩),rfl,rfl,rfl,d,k1,rfl⟩
  ·refine⟨λg3=>go 300 ?_,λg3=>go 300 ?_⟩
   ·have e:rowRun r0=((p.drop,true,true),p::r):=by rw[←k2,rowRun,g2,g3];rfl
    rw[e];exact⟨trivial,rfl,rfl,[some (rowB d (p::r) g),some (rowVec d (p::r) g)],rfl,rfl,Zq2,_,wk (.inl ⟨rfl,rfl⟩) (.inl ⟨rfl,rfl⟩),rfl,rfl,rfl,d,k1,rfl⟩
   ·have e:rowRun r=rowRun r0:=by rw[←k2,rowRun,g2,g3];rfl
    show Goes _ _ _ _;refine Ago (h:=1) 300 rfl rfl rfl rfl rfl rfl rfl rfl rfl (by simp) ?_;show Goes _ _ _ _;have k1':(d++ [p])++r=d0++r0:=by rw[←k1];simp
    refine next (d++ [p],r) _ _ ⟨⟨k1',e,by simp only;simp at k3;omega⟩,by simp,Zq1,⟨⟨?_,rfl⟩,⟨?_,rfl⟩,trivial⟩⟩
    ·show some (HObj.box [.osl (.loc 1) g (d.length+1) ((p::r).length-1)])=some (rowB (d++ [p]) r g);simp[rowB]
    ·show some (rowVec d (p::r) g)=some (rowVec (d++ [p]) r g);simp[rowVec]
def boxAt (k:Nat)(d r:List PieceT)(g:Nat):HObj:=.box [.osl (.loc k) g d.length r.length]
def rows2 (da a db b:List PieceT)(ga gb:Nat):Heap:=[some (boxAt 1 da a ga),some (rowVec da a ga),some (boxAt 3 db b gb),some (rowVec db b gb)]
def bothV (r:Int×Bool×Bool×Bool):V:=.tup [.int .i64 r.1,.bool r.2.1,.bool r.2.2.1,.bool r.2.2.2]
theorem Pw (n:Int)(da a db b:List PieceT)(ga gb:Nat):[some (boxAt 1 da a ga),some (rowVec da (rowTake n a) ga),some (boxAt 3 db b gb),some (rowVec db (rowTake n b) gb)]=rows2 da (rowTake n a) db (rowTake n b) ga gb:=by
 simp only[rows2,boxAt,Bh]
theorem Aqj (da a db b:List PieceT)(ga gb:Nat)(ha:RowOk a)(hb:RowOk b):Fun Tryz.prog 225 (rows2 da a db b ga gb) [.ptr (.loc 0) 0,.ptr (.loc 2) 0] (λx T=>x=bothV (bothR a b).1∧ ∃da' db',T=rows2 da' (bothR a b).2.1 db' (bothR a b).2.2 ga gb):=by
 have wk: ∀ {n:Int} {x y a b:Bool} {z:V},x=a->y=b->z=.tt->Wk (.tup [.int .i64 n,.bool x,.bool y,z]) (bothV (n,a,b,true)):=by
  rintro n x y a b z rfl rfl rfl;exact Wk.tup ⟨.refl _,.refl _,.refl _,Wk.tt,trivial⟩
 obtain⟨oa,na,na'⟩:=Kt ha;obtain⟨ob,nb,nb'⟩:=Kt hb;have ca:=Pv da a ga;have cb:=Pv db b gb;obtain⟨⟨⟨n,x1,s1⟩,a'⟩,hra⟩: ∃z,rowRun a=z:=⟨_,rfl⟩;obtain⟨⟨⟨m,y1,s2⟩,b'⟩,hrb⟩: ∃z,rowRun b=z:=⟨_,rfl⟩;have eb:=T5 hra hrb;rw[hra] at oa na na' ca;rw[hrb] at ob nb nb' cb;rw[eb];clear eb hra hrb;refine L7 (Ay 300 Tryz.func225 rfl rfl rfl λimps B hi=> ?_);show CallThen _ _ _ _ _ _;refine Ag [0,1] ca rfl rfl Zq2 rfl rfl rfl ?_;rintro x T1 ⟨rfl,d1,-,rfl⟩;refine⟨rfl,?_⟩;show CallThen _ _ _ _ _ _;refine Ag [2,3] cb rfl rfl Zq2 rfl rfl rfl ?_;rintro x T1 ⟨rfl,d2,-,rfl⟩;refine⟨rfl,?_⟩;cases s1<;>cases s2<;>(refine⟨λg1=> ?_,λg1=> ?_⟩<;>first| (cases g1;done)|skip)
 ·refine go 300 ?_;refine⟨λg2=>go 300 ?_,λg2=>(by cases g2)⟩;exact⟨trivial,rfl,rfl,bothV (0,false,false,false),Wk.tup ⟨.refl _,Wk.ff,Wk.ff,Wk.ff,trivial⟩,rfl,rfl,rfl,d1,d2,rfl⟩
 ·refine go 300 ?_;refine⟨λg2=>(by cases g2),λg2=>go 300 ?_⟩;refine⟨λg3=>go 300 ?_,λg3=>(by cases g3)⟩;have hk:0≤m∧m≤1000000000000:=⟨nb,nb'⟩;show CallThen _ _ _ _ _ _;refine Ag [1] (Bf d1 a' ga m hk oa.p) rfl rfl Zq1 rfl rfl rfl ?_;rintro x T1 ⟨rfl,rfl⟩;refine⟨rfl,?_⟩;show CallThen _ _ _ _ _ _;refine Ag [3] (Bf d2 b' gb m hk ob.p) rfl rfl Zq1 rfl rfl rfl ?_;rintro x T1 ⟨rfl,rfl⟩;refine⟨rfl,?_⟩;refine⟨trivial,rfl,rfl,bothV (m,x1,y1,true),wk rfl rfl rfl,rfl,rfl,?_,d1,d2,?_⟩
  ·rfl
  ·exact Pw _ d1 a' d2 b' ga gb
 ·refine go 300 ?_;refine⟨λg3=>(by cases g3),λg3=>go 300 ?_⟩;refine⟨λg4=>(by cases g4),λg4=>go 300 ?_⟩;have hk:0≤n∧n≤1000000000000:=⟨na,na'⟩;show CallThen _ _ _ _ _ _;refine Ag [1] (Bf d1 a' ga n hk oa.p) rfl rfl Zq1 rfl rfl rfl ?_;rintro x T1 ⟨rfl,rfl⟩;refine⟨rfl,?_⟩;show CallThen _ _ _ _ _ _;refine Ag [3] (Bf d2 b' gb n hk ob.p) rfl rfl Zq1 rfl rfl rfl ?_;rintro x T1 ⟨rfl,rfl⟩;refine⟨rfl,?_⟩;refine⟨trivial,rfl,rfl,bothV (n,x1,y1,true),wk rfl rfl rfl,rfl,rfl,?_,d1,d2,?_⟩
  ·rfl
  ·exact Pw _ d1 a' d2 b' ga gb
 ·refine go 300 ?_;refine⟨λg3=>(by cases g3),λg3=>go 300 ?_⟩;refine⟨λg4=>go 300 ?_,λg4=>(by cases g4)⟩;have em:(if m<n then m else n)=min n m:=by split<;>omega
  have hk:0≤(if m<n then m else n)∧(if m<n then m else n)≤1000000000000:=by simp only at na na' nb nb';split<;>omega
  show CallThen _ _ _ _ _ _;refine Ag [1] (Bf d1 a' ga (if m<n then m else n) hk oa.p) rfl rfl Zq1 rfl rfl rfl ?_;rintro x T1 ⟨rfl,rfl⟩;refine⟨rfl,?_⟩;show CallThen _ _ _ _ _ _;refine Ag [3] (Bf d2 b' gb (if m<n then m else n) hk ob.p) rfl rfl Zq1 rfl rfl rfl ?_;rintro x T1 ⟨rfl,rfl⟩;refine⟨rfl,?_⟩;refine⟨trivial,rfl,rfl,bothV ((if m<n then m else n),x1,y1,true),wk rfl rfl rfl,rfl,rfl,?_,d1,d2,?_⟩
  ·rw[em];rfl
  ·rw[em];exact Pw _ d1 a' d2 b' ga gb
theorem Aqk {m:Mk}(hok:m.Ok)(hw:m.w≤1000000000000):m.l.length≤1000000000000∧ ∀p∈m.l,p.put.length≤1000000000000:=by
 have h1:=Da hok.l;have h2:=hok.k;unfold Mk.w at hw;refine⟨by omega,λp hp=> ?_⟩;have h3:=Ic hok.l p hp;have h4:=(hok.l p hp).k;have h5:=(hok.l p hp).d;unfold PieceT.w at h3;omega
theorem Hv {m:Mk}(hok:m.Ok):m.keep≤m.w:=by
 have h1:=Da hok.l;unfold Mk.w;omega
theorem Ad4 (m:Mk)(g:Nat)(hok:m.Ok)(hw:m.w≤1000000000000):Fun Tryz.prog 184 (mkT m g) [.ptr (.loc 0) 0] (λx T=>x=.tup [.osl (.loc 1) g 0 m.l.length,.bool (rightP m.l)]∧T=mkT m g):=by
 obtain⟨h1,h2⟩:=Aqk hok hw;have cr:=Ad8 m.l h1 h2;refine Ay 300 Tryz.func184 rfl rfl rfl λimps B hi=> ?_;show Goes _ _ _ _;refine Ac [] 300 ⟨rfl,by simp,_,cr,rfl,?_⟩;refine⟨by kernel_rfl,?_⟩;exact⟨trivial,rfl,rfl,rfl,rfl⟩
def mkAt (k:Nat)(m:Mk)(g:Nat):HObj:=.box [.osl (.loc k) g 0 m.l.length,.int .i64 m.keep]
def putsT (prior:Bool)(da db:List PieceT)(s:Tr)(ga gb gx gy:Nat):Heap:=
 [some (boxAt 1 da s.p ga),some (rowVec da s.p ga),some (boxAt 3 db s.q gb),some (rowVec db s.q gb),some (.box [.bool prior]),some (mkAt 6 s.x gx),some (mkVec s.x gx),some (mkAt 8 s.y gy),some (mkVec s.y gy)]
theorem Aai (prior:Bool)(da db p p' q q':List PieceT)(x y:Mk)(ga gb gx gy:Nat)(h1:p'.length=p.length)(h2:q'.length=q.length):
  [some (boxAt 1 da p ga),some (rowVec da p' ga),some (boxAt 3 db q gb),some (rowVec db q' gb),some (.box [.bool prior]),some (mkAt 6 x gx),some (mkVec x gx),some (mkAt 8 y gy),some (mkVec y gy)]=putsT prior da db ⟨p',q',x,y⟩ ga gb gx gy:=by
 simp only[putsT,boxAt,h1,h2]
set_option pp.maxSteps 300 in
theorem Anq (prior:Bool)(da db:List PieceT)(s:Tr)(ga gb gx gy:Nat)(hp:RowOk s.p)(hq:RowOk s.q)(hx:s.x.Ok)(hy:s.y.Ok)(wx:s.x.w+rowR s.p+rowR s.q≤900000000000)(wy:s.y.w+rowR s.p+rowR s.q≤900000000000):
  Fun Tryz.prog 224 (putsT prior da db s ga gb gx gy) [.ptr (.loc 0) 0,.ptr (.loc 2) 0,.ptr (.loc 4) 0,.ptr (.loc 5) 0,.ptr (.loc 7) 0] (λx T=>x=.tup []∧ ∃gx' gy',T=putsT prior da db (s.puts prior) ga gb gx' gy'):=by
 obtain⟨p,q,x,y⟩:=s;simp only at hp hq hx hy wx wy;have cp:=Mj da p ga;have cq:=Mj db q gb;have lp:=Lh p;have lq:=Lh q;obtain⟨-,rp,-,bp⟩:=Ea hp;obtain⟨-,rq,-,bq⟩:=Ea hq;have np:=C6 (Ea hp).1.nn;have nq:=C6 (Ea hq).1.nn;have nx:=hx.k;have ny:=hy.k;have e:Tr.puts prior ⟨p,q,x,y⟩=bif prior then⟨(rowPut p).2,(rowPut q).2,(x.put (rowPut p).1).kept (rowPut q).1.length,(y.kept (rowPut p).1.length).put (rowPut q).1⟩ else⟨(rowPut p).2,(rowPut q).2,(x.kept (rowPut q).1.length).put (rowPut p).1,(y.put (rowPut q).1).kept (rowPut p).1.length⟩:=rfl;rw[e];clear e;obtain⟨⟨a,p'⟩,ha⟩: ∃z,rowPut p=z:=⟨_,rfl⟩;obtain⟨⟨b,q'⟩,hb⟩: ∃z,rowPut q=z:=⟨_,rfl⟩;rw[ha] at cp lp rp bp np ⊢;rw[hb] at cq lq rq bq nq ⊢;simp only at lp rp bp np lq rq bq nq;clear ha hb;refine A9 9 rfl (Ay 300 Tryz.func224 rfl rfl rfl λimps B hi=> ?_);show CallThen _ _ _ _ _ _;refine Ag [1] cp rfl rfl Zq1 rfl rfl rfl ?_;rintro z T1 ⟨rfl,rfl⟩;refine⟨rfl,?_⟩;show CallThen _ _ _ _ _ _;refine Ag [3] cq rfl rfl Zq1 rfl rfl rfl ?_;rintro z T1 ⟨rfl,rfl⟩;refine⟨rfl,?_⟩;refine⟨λg1=>go 300 ?_,λg1=>go 300 ?_⟩
 ·subst g1;show CallThen _ _ _ _ _ _;refine Ag [5,6] (I3 x gx a hx (by omega) (by omega)) rfl rfl Zq2 rfl rfl rfl ?_;rintro z T1 ⟨gx',rfl,rfl⟩;refine⟨rfl,?_⟩;obtain⟨x1,x2⟩:=Mk.put_ok (s:=a) hx;have x3:=Hv x1;have x4:=x1.k;have y3:=Hv hy;obtain⟨y1,y2⟩:=Mk.kept_ok (n:=(a.length:Int)) hy (Aq5 _);refine⟨by constructor<;>(simp only;omega),?_⟩;refine⟨by constructor<;>(simp only;omega),?_⟩;show CallThen _ _ _ _ _ _;refine Ag [7,8] (I3 (y.kept a.length) gy b y1 (by omega) (by omega)) rfl rfl Zq2 rfl rfl rfl ?_;rintro z T1 ⟨gy',rfl,rfl⟩;refine⟨rfl,?_⟩;refine⟨trivial,rfl,rfl,putsT true da db ⟨p',q',(x.put a).kept b.length,(y.kept a.length).put b⟩ ga gb gx' gy',rfl,rfl,?_,rfl,gx',gy',rfl⟩;rw[←Aai true da db p p' q q' _ _ ga gb gx' gy' lp lq];exact Zq9
 ·subst g1;show CallThen _ _ _ _ _ _;refine Ag [7,8] (I3 y gy b hy (by omega) (by omega)) rfl rfl Zq2 rfl rfl rfl ?_;rintro z T1 ⟨gy',rfl,rfl⟩;refine⟨rfl,?_⟩;obtain⟨y1,y2⟩:=Mk.put_ok (s:=b) hy;have y3:=Hv y1;have y4:=y1.k;have x3:=Hv hx;obtain⟨x1,x2⟩:=Mk.kept_ok (n:=(b.length:Int)) hx (Aq5 _);refine⟨by constructor<;>(simp only;omega),?_⟩;refine⟨by constructor<;>(simp only;omega),?_⟩;show CallThen _ _ _ _ _ _;refine Ag [5,6] (I3 (x.kept b.length) gx a x1 (by omega) (by omega)) rfl rfl Zq2 rfl rfl rfl ?_;rintro z T1 ⟨gx',rfl,rfl⟩;refine⟨rfl,?_⟩;refine⟨trivial,rfl,rfl,putsT false da db ⟨p',q',(x.kept b.length).put a,(y.put b).kept a.length⟩ ga gb gx' gy',rfl,rfl,?_,rfl,gx',gy',rfl⟩;rw[←Aai false da db p p' q q' _ _ ga gb gx' gy' lp lq];exact Zq9
def TransV (r:List PieceT×List PieceT×Int):V:=.tup [piecesV r.1,piecesV r.2.1,.int .i64 r.2.2]
theorem transZ {e:Int}{R:List PieceT×List PieceT×Int}(h:R=([],[],e)): ∃y,Wk (.tup [.nilsl,.nilsl,.int .i64 e]) y∧y.pureB=true∧y=TransV R:=⟨TransV ([],[],e),Wk.tup ⟨Wk.nil 3,Wk.nil 3,.refl _,trivial⟩,rfl,by rw[h]⟩
structure TrI where
 f:Nat
 s:Tr
 d1:List PieceT
 d2:List PieceT
 gx:Nat
 gy:Nat
def trT (prior:Bool)(j1 j2:HObj)(ga gb:Nat)(i:TrI):Heap:=
 [some (.box [.bool prior]),some j1,some (rowVec i.d1 i.s.p ga),some j2,some (rowVec i.d2 i.s.q gb),some (boxAt 2 i.d1 i.s.p ga),some (boxAt 4 i.d2 i.s.q gb),some (mkAt 9 i.s.x i.gx),some (mkAt 10 i.s.y i.gy),some (mkVec i.s.x i.gx),some (mkVec i.s.y i.gy)]
theorem Apl (a b:List PieceT)(prior:Bool)(ha:a.length≤1000000)(hb:b.length≤1000000)(pa: ∀p∈a,p.put.length≤1000000000)(pb: ∀p∈b,p.put.length≤1000000000):
  Pure Tryz.prog 210 [piecesV a,piecesV b,.bool prior] (λx=>x=TransV (transP a b prior)):=by
 obtain⟨R,hR⟩: ∃R,transP a b prior=R:=⟨_,rfl⟩;rw[hR];refine Aj (Ad 300 Tryz.func210 rfl rfl rfl λB=> ?_);have bad:(rightP a=false∨rightP b=false)->R=([],[],2):=λh=>by
  rw[←hR];unfold transP
  rcases h with h|h
  ·rw[h];rfl
  ·rw[h];cases rightP a<;>rfl
 show CallThen _ _ _ _ _ _;refine Aa (J5 a ha pa) rfl ?_;rintro x rfl;refine⟨λg1=>go 300 ?_,λg1=>go 300 ?_⟩
 ·exact⟨trivial,rfl,rfl,rfl,transZ (bad (.inl (by simpa using g1)))⟩
 have ra:rightP a=true:=by simpa using g1
 show CallThen _ _ _ _ _ _;refine Aa (J5 b hb pb) rfl ?_;rintro x rfl;refine⟨λg2=>go 300 ?_,λg2=>go 300 ?_⟩
 ·exact⟨trivial,rfl,rfl,rfl,transZ (bad (.inr (by simpa using g2)))⟩
 have rb:rightP b=true:=by simpa using g2
 obtain⟨na,sa⟩:=Ch ra;obtain⟨nb,sb⟩:=Ch rb;obtain⟨oa,wa⟩:=Rx ra;obtain⟨ob,wb⟩:=Rx rb;have la:=Da na;have lb:=Da nb;show CallThen _ _ _ _ _ _;refine Ag [] (Rl a na (by omega) (by omega)) rfl rfl trivial rfl rfl rfl ?_;rintro x T1 ⟨ga,ka,rfl,rfl⟩;refine⟨rfl,?_⟩;show CallThen _ _ _ _ _ _;refine Ag [] (Rl b nb (by omega) (by omega)) rfl rfl trivial rfl rfl rfl ?_;rintro x T1 ⟨gb,kb,rfl,rfl⟩;refine⟨rfl,?_⟩;show Goes _ _ _ _;refine C9 7 0 3 rfl rfl ?_;refine C9 8 0 3 rfl rfl ?_;obtain⟨fin,hfin⟩: ∃fin,Tr.go prior (extN (normP a)+extN (normP b)+1) ⟨normP a,normP b,Mk.nil,Mk.nil⟩=fin:=⟨_,rfl⟩;have good:R=bif !rightP fin.x.l|| !rightP fin.y.l then([],[],3) else(fin.x.l,fin.y.l,0):=by
  rw[←hR];unfold transP;rw[ra,rb,hfin];rfl
 refine Ak (ι:=TrI) (λi=>i.s.Ok∧extN i.s.p+extN i.s.q<i.f∧Tr.go prior i.f i.s=fin) (λi=>i.f)
  (λ_=>[(13,.fn (.func 224) [] [.ptr (.loc 5) 0,.ptr (.loc 6) 0,.ptr (.loc 0) 0,.ptr (.loc 7) 0,.ptr (.loc 8) 0]),(9,.ptr (.loc 5) 0),(10,.ptr (.loc 6) 0),(11,.ptr (.loc 7) 0),(12,.ptr (.loc 8) 0)])
  (trT prior (.box [.osl (.loc 2) ga 0 (normP a).length,.int .i64 ka]) (.box [.osl (.loc 4) gb 0 (normP b).length,.int .i64 kb]) ga gb)
  ⟨extN (normP a)+extN (normP b)+1,⟨normP a,normP b,Mk.nil,Mk.nil⟩,[],[],0,0⟩ 300 (λ_=>rfl) (λ_=>rfl) ⟨⟨⟨oa,ob,Mk.nil_ok,Mk.nil_ok,?_,?_⟩,At7 _,hfin⟩,Zq5,
   Zq11⟩ ?_
 ·show(0:Int)+sumW []+3* (rowR (normP a)+rowR (normP b))≤_;simp only[sumW];omega
 ·show(0:Int)+sumW []+3* (rowR (normP a)+rowR (normP b))≤_;simp only[sumW];omega
 rintro⟨f,s,d1,d2,gx,gy⟩ ⟨k1,k2,k3⟩ next;simp only at k1 k2 k3;obtain⟨f,rfl⟩: ∃f',f=f'+1:=⟨f-1,by omega⟩;have rp:=C6 k1.p.nn;have rq:=C6 k1.q.nn;have wx:=k1.wx;have wy:=k1.wy;obtain⟨o1,e1,e2⟩:=Tr.puts_ok k1 prior;show CallThen _ _ _ _ _ _;refine Ag [5,2,6,4,0,7,9,8,10] (Anq prior d1 d2 s ga gb gx gy k1.p k1.q k1.x k1.y (by omega) (by omega)) rfl rfl
  Zq9 rfl rfl rfl ?_
 rintro z T1 ⟨rfl,gx',gy',rfl⟩;refine⟨rfl,?_⟩;obtain⟨⟨p,q,x,y⟩,hs1⟩: ∃z,s.puts prior=z:=⟨_,rfl⟩;rw[hs1] at o1 e1 e2 ⊢;obtain⟨op,oq,ox,oy,ux,uy⟩:=o1;simp only at op oq ox oy ux uy e1 e2;have rp':=C6 op.nn;have rq':=C6 oq.nn;obtain⟨b1,b2,b3,b4,b5,b6⟩:=Al6 op oq;have cb:=Aqj d1 p d2 q ga gb op oq;obtain⟨⟨⟨n,d,g,any⟩,p',q'⟩,hb1⟩: ∃z,bothR p q=z:=⟨_,rfl⟩;have hgo:=Tr.go_succ (f:=f) hs1 hb1;rw[hb1] at b1 b2 b3 b4 b5 b6 cb;simp only at b1 b2 b3 b4 b5 b6;show CallThen _ _ _ _ _ _;refine Ag [5,2,6,4] cb rfl rfl Zq4 rfl rfl rfl ?_;rintro z T1 ⟨rfl,d1',d2',rfl⟩;refine⟨rfl,?_⟩;refine⟨λg3=>go 300 ?_,λg3=>go 300 ?_⟩
 ·have ha':any=false:=by simpa using g3
  subst ha';have hfx:fin=⟨p',q',x,y⟩:=by rw[←k3,hgo];rfl
  rw[hfx] at good;simp only at good;show CallThen _ _ _ _ _ _;refine Ag [7,9] (Ad4 x gx' ox (by omega)) rfl rfl Zq2 rfl rfl rfl ?_;rintro z T1 ⟨rfl,rfl⟩;refine⟨rfl,?_⟩;show CallThen _ _ _ _ _ _;refine Ag [8,10] (Ad4 y gy' oy (by omega)) rfl rfl Zq2 rfl rfl rfl ?_;rintro z T1 ⟨rfl,rfl⟩;refine⟨rfl,?_⟩;refine⟨λg4=>go 300 ?_,λg4=>go 300 ?_⟩
  ·have g4:rightP x.l=false:=by simpa using g4
   exact⟨trivial,rfl,rfl,rfl,transZ (by rw[good,g4];rfl)⟩
  have g4:rightP x.l=true:=by simpa using g4
  refine⟨λg5=>go 300 ?_,λg5=>go 300 ?_⟩
  ·have g5:rightP y.l=false:=by simpa using g5
   exact⟨trivial,rfl,rfl,rfl,transZ (by rw[good,g4,g5];rfl)⟩
  have g5:rightP y.l=true:=by simpa using g5
  have hres:TransV (x.l,y.l,0)=TransV R:=by rw[good,g4,g5];rfl
  refine⟨trivial,rfl,rfl,?_⟩;refine⟨rfl,?_⟩;refine⟨by simp,?_⟩;refine⟨rfl,?_⟩;refine⟨by simp,?_⟩;refine⟨rfl,?_⟩;exact⟨TransV (x.l,y.l,0),Wk.refl _,rfl,hres⟩
 ·have ha':any=true:=by simpa using g3
  subst ha';have cc:=b5 rfl;have c1:=cc.1;have c2:=cc.2.1;have c3:=cc.2.2;have q1:(Tr.does ⟨p',q',x,y⟩ n d g).Ok:=(Tr.does_ok (p:=p') (q:=q') (x:=x) (y:=y) (n:=n) (R:=rowR p+rowR q) b1 b2 ox oy b3 c2 ux uy d g).1;have hnext:Tr.go prior f (Tr.does ⟨p',q',x,y⟩ n d g)=fin:=by rw[←k3,hgo];rfl
  have hext:extN p'+extN q'<f:=by omega
  refine⟨λg4=>go 300 ?_,λg4=>go 300 ?_⟩
  ·have g4:d=true:=g4;subst g4;refine⟨λg5=>go 300 ?_,λg5=>go 300 ?_⟩
   ·have g5:g=true:=g5;subst g5;show Goes _ _ _ _;refine next ⟨f,⟨p',q',x,y⟩,d1',d2',gx',gy'⟩ _ _ ⟨⟨q1,hext,hnext⟩,At7 _,Zq5,
     Zq11⟩
   ·have g5:g=false:=g5;subst g5;refine⟨λ_=>go 300 ?_,λh=>(by cases h)⟩;show CallThen _ _ _ _ _ _;refine Ag [7,9] (Ih x gx' n ox (by omega) b4) rfl rfl Zq2 rfl rfl rfl ?_;rintro z T1 ⟨gx2,rfl,rfl⟩;refine⟨rfl,?_⟩;show Goes _ _ _ _;refine next ⟨f,⟨p',q',x.drop n,y⟩,d1',d2',gx2,gy'⟩ _ _ ⟨⟨q1,hext,hnext⟩,At7 _,Zq5,
     Zq11⟩
  ·have g4:d=false:=g4;subst g4;refine⟨λh=>(by cases h),λ_=>go 300 ?_⟩;refine⟨λg5=>go 300 ?_,λg5=>go 300 ?_⟩
   ·have g5:g=true:=g5;subst g5;show CallThen _ _ _ _ _ _;refine Ag [8,10] (Ih y gy' n oy (by omega) b4) rfl rfl Zq2 rfl rfl rfl ?_;rintro z T1 ⟨gy2,rfl,rfl⟩;refine⟨rfl,?_⟩;show Goes _ _ _ _;refine next ⟨f,⟨p',q',x,y.drop n⟩,d1',d2',gx',gy2⟩ _ _ ⟨⟨q1,hext,hnext⟩,At7 _,Zq5,
     Zq11⟩
   ·have g5:g=false:=g5;subst g5;have x3:=Hv ox;have y3:=Hv oy;have x4:=ox.k;have y4:=oy.k;refine⟨by constructor<;>(simp only;omega),?_⟩;refine⟨by constructor<;>(simp only;omega),?_⟩;show Goes _ _ _ _;refine next ⟨f,⟨p',q',x.kept n,y.kept n⟩,d1',d2',gx',gy'⟩ _ _ ⟨⟨q1,hext,hnext⟩,At7 _,Zq5,
     Zq11⟩
end Bow
namespace Bow
open Go
theorem bare1 {o:OpT}(h:o.kind=1):bareO o= {noOp 1 with path:=o.path,at_:=o.at_,id:=o.id,leaf:=o.leaf,label:=o.label}:=by unfold bareO;rw[h];rfl
theorem bare2 {o:OpT}(h:o.kind=2):bareO o= {noOp 2 with path:=o.path}:=by unfold bareO;rw[h];rfl
theorem bare3 {o:OpT}(h:o.kind=3):bareO o= {noOp 3 with path:=o.path,at_:=o.at_,to:=o.to}:=by unfold bareO;rw[h];rfl
theorem bare4 {o:OpT}(h:o.kind=4):bareO o= {noOp 4 with path:=o.path,key:=o.key,gone:=o.gone,value:=bif o.gone then [] else o.value}:=by unfold bareO;rw[h];rfl
theorem bare5 {o:OpT}(h:o.kind=5):bareO o= {noOp 5 with path:=o.path,label:=o.label}:=by unfold bareO;rw[h];rfl
theorem bare6 {o:OpT}(h:o.kind=6):bareO o= {noOp 6 with path:=o.path,pieces:=o.pieces}:=by unfold bareO;rw[h];rfl
theorem Y5 {o:OpT}(h1:o.kind≠1)(h2:o.kind≠2)(h3:o.kind≠3)(h4:o.kind≠4)(h5:o.kind≠5)(h6:o.kind≠6):bareO o=noOp o.kind:=by
 have e1:(o.kind==1)=false:=by simpa using h1
 have e2:(o.kind==2)=false:=by simpa using h2
 have e3:(o.kind==3)=false:=by simpa using h3
 have e4:(o.kind==4)=false:=by simpa using h4
 have e5:(o.kind==5)=false:=by simpa using h5
 have e6:(o.kind==6)=false:=by simpa using h6
 unfold bareO;rw[e1,e2,e3,e4,e5,e6];rfl
theorem bare0 {o:OpT}(h1:o.kind≠1)(h2:o.kind≠2)(h3:o.kind≠3)(h4:o.kind≠4)(h5:o.kind≠5)(h6:o.kind≠6):formedB o=false∧formedB (bareO o)=false:=by
 have e:(bareO o).kind=o.kind:=by rw[Y5 h1 h2 h3 h4 h5 h6];rfl
 constructor
 ·unfold formedB;simp[h1,h2,h3,h4,h5,h6]
 ·unfold formedB;rw[e];simp[h1,h2,h3,h4,h5,h6]
theorem kinds (o:OpT):o.kind=1∨o.kind=2∨o.kind=3∨o.kind=4∨o.kind=5∨o.kind=6∨(o.kind≠1∧o.kind≠2∧o.kind≠3∧o.kind≠4∧o.kind≠5∧o.kind≠6):=by omega
theorem Ael (o:OpT):formedB (bareO o)=formedB o:=by
 rcases kinds o with h|h|h|h|h|h| ⟨h1,h2,h3,h4,h5,h6⟩
 ·rw[bare1 h];unfold formedB;rw[h];rfl
 ·rw[bare2 h];unfold formedB;rw[h];rfl
 ·rw[bare3 h];unfold formedB;rw[h];rfl
 ·rw[bare4 h];unfold formedB;rw[h];cases o.gone<;>rfl
 ·rw[bare5 h];unfold formedB;rw[h];rfl
 ·rw[bare6 h];unfold formedB;rw[h];rfl
 ·obtain⟨q1,q2⟩:=bare0 h1 h2 h3 h4 h5 h6;rw[q1,q2]
theorem Vk (t:Tree)(o:OpT):ValidE t (bareO o)=ValidE t o:=by
 unfold ValidE;rw[Ael]
 rcases kinds o with h|h|h|h|h|h| ⟨h1,h2,h3,h4,h5,h6⟩
 ·rw[bare1 h];unfold validE;rw[h];rfl
 ·rw[bare2 h];unfold validE;rw[h];rfl
 ·rw[bare3 h];unfold validE;rw[h];rfl
 ·rw[bare4 h];unfold validE;rw[h];rfl
 ·rw[bare5 h];unfold validE;rw[h];rfl
 ·rw[bare6 h];unfold validE;rw[h];rfl
 ·obtain⟨q1,q2⟩:=bare0 h1 h2 h3 h4 h5 h6;rw[q1];rfl
theorem Vl {t:Tree}{o:OpT}(hv:ValidE t o=0):applyT t (bareO o)=applyT t o:=by
 have hf:=(An hv).2.1
 rcases kinds o with h|h|h|h|h|h| ⟨h1,h2,h3,h4,h5,h6⟩
 ·rw[bare1 h];unfold applyT;rw[h];rfl
 ·rw[bare2 h];unfold applyT;rw[h];rfl
 ·rw[bare3 h];unfold applyT;rw[h];rfl
 ·have e: ∀y,setAT (bareO o) y=setAT o y:=λy=>by
   rw[bare4 h];unfold setAT setA midA;show y.withAttrs (y.attrs.take (posK o.key y.attrs)++ ((bif o.gone then [] else [(o.key,bif o.gone then [] else o.value)])++y.attrs.drop (posK o.key y.attrs+ (bif hasK o.key y.attrs then 1 else 0))))=_;cases o.gone<;>rfl
  have e1:applyT t (bareO o)=changeT (setAT (bareO o)) t o.path:=by rw[bare4 h];unfold applyT;rfl
  have e2:applyT t o=changeT (setAT o) t o.path:=by unfold applyT;rw[h];rfl
  rw[e1,e2,funext e]
 ·rw[bare5 h];unfold applyT;rw[h];rfl
 ·rw[bare6 h];unfold applyT;rw[h];rfl
 ·rw[(bare0 h1 h2 h3 h4 h5 h6).1] at hf;cases hf
theorem Su: ∀a b:List PieceT,putsLen (a++b)=putsLen a+putsLen b
 | [],b=>by simp[putsLen]
 |p::a,b=>by
  have:=Su a b;simp only[Arx,putsLen,List.foldr_cons] at this ⊢;omega
theorem H8 (p:PieceT):putsLen [p]=p.put.length:=by simp[putsLen]
theorem Ec (p:PieceT)(l:List PieceT):putsLen (p::l)=p.put.length+putsLen l:=rfl
theorem Mk.last_puts (m:Mk):putsLen m.last.l=putsLen m.l:=by
 unfold Mk.last;cases decide (0<m.keep)||m.l.isEmpty with
 |true=>simp only[cond_true];rw[Su,H8];rfl
 |false=>rfl
theorem Zc (s:List UInt8): ∀ {l:List PieceT},l≠[]->putsLen (modL (λp=> {p with put:=p.put++s}) l)=putsLen l+s.length
 | [],h=>absurd rfl h
 | [p],_=>by rw[modL,H8,H8,Arb]
 |p::q::r,_=>by
  rw[modL,Ec,Ec p,Zc s (l:=q::r) (by simp)];omega
theorem Vv (n:Int): ∀l:List PieceT,putsLen (modL (λp=> {p with drop:=p.drop+n}) l)=putsLen l
 | []=>rfl
 | [p]=>by rw[modL,H8,H8]
 |p::q::r=>by rw[modL,Ec,Ec p,Vv n (q::r)]
theorem Mk.put_puts (s:List UInt8)(m:Mk):putsLen (m.put s).l=putsLen m.l+s.length:=by
 unfold Mk.put;cases h:s.isEmpty with
 |true=>
  rw[Auw] at h;subst h;rfl
 |false=>
  simp only[cond_false];rw[Zc s m.last_ne,m.last_puts]
theorem Mk.drop_puts (n:Int)(m:Mk):putsLen (m.drop n).l=putsLen m.l:=by
 unfold Mk.drop;cases decide (0<n) with
 |true=>simp only[cond_true];rw[Vv,m.last_puts]
 |false=>rfl
theorem Mk.piece_puts (m:Mk)(p:PieceT):putsLen (m.piece p).l=putsLen m.l+p.put.length:=by
 unfold Mk.piece;rw[Mk.drop_puts,Mk.put_puts];rfl
theorem Vw: ∀(l:List PieceT) (m:Mk),putsLen (l.foldl Mk.piece m).l=putsLen m.l+putsLen l
 | [],m=>by simp[putsLen]
 |p::l,m=>by
  rw[Au2,Vw l,Mk.piece_puts,Ec];omega
theorem Zd (l:List PieceT):putsLen (normP l)=putsLen l:=by
 unfold normP;rw[Vw];simp[Mk.nil,putsLen]
theorem Ng (l:List PieceT):(rowPut l).1.length+putsLen (rowPut l).2=putsLen l:=by
 cases l with
 |nil=>rfl
 |cons p r=>
  have e:rowPut (p::r)=bif decide (0<p.keep)||p.put.isEmpty then([],p::r) else(p.put, {p with put:=[]}::r):=rfl;rw[e];cases decide (0<p.keep)||p.put.isEmpty with
  |true=>simp
  |false=>
   show p.put.length+putsLen ({p with put:=[]}::r)=putsLen (p::r);rw[Ec,Ec];simp
theorem Nh: ∀l:List PieceT,putsLen (rowRun l).2≤putsLen l
 | []=>Ara _
 |p::r=>by
  have ih:=Nh r;rw[rowRun];cases decide (0<p.keep) with
  |true=>exact Ara _
  |false=>
   simp only[cond_false];cases decide (0<p.drop) with
   |true=>exact Ara _
   |false=>simp only[cond_false];rw[Ec];omega
theorem Jd (n:Int)(l:List PieceT):putsLen (rowTake n l)=putsLen l:=by
 cases l with
 |nil=>rfl
 |cons p r=>
  have e:rowTake n (p::r)=bif decide (0<p.keep) then {p with keep:=p.keep-n}::r else {p with drop:=p.drop-n}::r:=rfl;rw[e];cases decide (0<p.keep)<;>rfl
theorem Ag1 (a b:List PieceT):putsLen (bothR a b).2.1≤putsLen a:=by
 have h:=Nh a;unfold bothR;generalize rowRun a=ra at h;generalize rowRun b=rb;obtain⟨⟨n,x,any⟩,a'⟩:=ra;obtain⟨⟨m,y,more⟩,b'⟩:=rb;simp only at h ⊢;cases !any&& !more with
 |true=>exact h
 |false=>simp only[cond_false];rw[Jd];exact h
theorem Ai7 (prior:Bool)(s:Tr):putsLen (s.puts prior).x.l+putsLen (s.puts prior).p=putsLen s.x.l+putsLen s.p:=by
 have h:=Ng s.p;unfold Tr.puts;generalize rowPut s.p=rp at h;generalize rowPut s.q=rq;obtain⟨a,p⟩:=rp;obtain⟨b,q⟩:=rq;simp only at h ⊢;cases prior with
 |true=>
  simp only[cond_true];have:=Mk.put_puts a s.x;unfold Mk.kept;simp only;omega
 |false=>
  simp only[cond_false];have:=Mk.put_puts a (s.x.kept b.length);have e:putsLen (s.x.kept b.length).l=putsLen s.x.l:=rfl;omega
theorem Ai8 (s:Tr)(n:Int)(x y:Bool):putsLen (s.does n x y).x.l=putsLen s.x.l∧(s.does n x y).p=s.p:=by
 unfold Tr.does;cases x<;>cases y
 ·exact⟨rfl,rfl⟩
 ·exact⟨rfl,rfl⟩
 ·exact⟨Mk.drop_puts n s.x,rfl⟩
 ·exact⟨rfl,rfl⟩
theorem Afq (prior:Bool): ∀(f:Nat) (s:Tr),putsLen (Tr.go prior f s).x.l≤putsLen s.x.l+putsLen s.p
 |0,s=>by rw[Tr.go];omega
 |f+1,s=>by
  have h:=Ai7 prior s;rw[Tr.go];generalize s.puts prior=z at h;obtain⟨p,q,x,y⟩:=z;have hb:=Ag1 p q;simp only at h ⊢;generalize bothR p q=rb at hb;obtain⟨⟨n,d,g,any⟩,p',q'⟩:=rb;simp only at hb ⊢;cases any with
  |true=>
   simp only[cond_true];have hd:=Ai8 ⟨p',q',x,y⟩ n d g;have ih:=Afq prior f (Tr.does ⟨p',q',x,y⟩ n d g);rw[hd.1,hd.2] at ih;simp only at ih;omega
  |false=>
   simp only[cond_false];omega
theorem Ag2 (a b:List PieceT)(prior:Bool):putsLen (transP a b prior).1≤putsLen a:=by
 unfold transP;cases !rightP a|| !rightP b with
 |true=>exact Aq4 _
 |false=>
  simp only[cond_false];have h:=Afq prior (extN (normP a)+extN (normP b)+1) ⟨normP a,normP b,Mk.nil,Mk.nil⟩;simp only[Zd] at h;generalize Tr.go prior (extN (normP a)+extN (normP b)+1) ⟨normP a,normP b,Mk.nil,Mk.nil⟩=s at h;obtain⟨p,q,x,y⟩:=s;simp only at h ⊢;have h0:putsLen Mk.nil.l=0:=rfl;cases !rightP x.l|| !rightP y.l with
  |true=>exact Aq4 _
  |false=>simp only[cond_false];omega
theorem Jv (o:OpT):2≤costO o:=by unfold costO;omega
theorem Ai9 (k:Int):costO (noOp k)=2:=rfl
theorem G6 (o:OpT):costO (bareO o)≤costO o:=by
 rcases kinds o with h|h|h|h|h|h| ⟨h1,h2,h3,h4,h5,h6⟩
 ·rw[bare1 h];unfold costO;simp only[noOp,putsLen,Arc,Aue];omega
 ·rw[bare2 h];unfold costO;simp only[noOp,putsLen,Arc,Aue];omega
 ·rw[bare3 h];unfold costO;simp only[noOp,putsLen,Arc,Aue];omega
 ·rw[bare4 h];unfold costO;cases o.gone
  ·simp only[noOp,putsLen,Arc,Aue,cond_false];omega
  ·simp only[noOp,putsLen,Arc,Aue,cond_true];omega
 ·rw[bare5 h];unfold costO;simp only[noOp,putsLen,Arc,Aue];omega
 ·rw[bare6 h];unfold costO;simp only[noOp,Arc];omega
 ·rw[Y5 h1 h2 h3 h4 h5 h6,Ai9];exact Jv o
theorem Acb (b a:OpT)(prior:Bool):costO (shiftedO b a prior)=costO b:=by
 unfold shiftedO;cases decide (b.kind=1) with
 |true=>rfl
 |false=>
  cases decide (b.kind=3) with
  |true=>rfl
  |false=>rfl
theorem Ze (o:OpT):costO (undoO o)=2:=by
 unfold undoO;cases decide (o.kind=3)&&movesO o<;>rfl
theorem Amb (b a:OpT)(prior:Bool): ∀o∈rowO b a prior,costO o≤costO b:=by
 have hs: ∀o∈ [shiftedO b a prior],costO o≤costO b:=λo ho=>by
  rw[Ar5.1 ho,Acb];exact Ara _
 have hn: ∀o∈ ([]:List OpT),costO o≤costO b:=λo ho=>by cases ho
 have hd: ∀p q:List Int,∀o∈ [dropO p,dropO q],costO o≤costO b:=λp q o ho=>by
  have:=Jv b
  rcases Arl.1 ho with rfl|ho
  ·exact this
  ·rw[Ar5.1 ho];exact this
 have hd1: ∀p:List Int,∀o∈ [dropO p],costO o≤costO b:=λp o ho=>by
  rw[Ar5.1 ho];exact Jv b
 have hu: ∀o∈ [undoO a,b],costO o≤costO b:=λo ho=>by
  rcases Arl.1 ho with rfl|ho
  ·rw[Ze];exact Jv b
  ·rw[Ar5.1 ho];exact Ara _
 unfold rowO;cases decide (a.kind=2) with
 |true=>
  cases within a.path b.path with
  |true=>exact hn
  |false=>cases decide (b.kind=3)&&within a.path b.to<;>first|exact hs|exact hd1 _
 |false=>
  cases wonO b a with
  |true=>cases prior<;>first|exact hn|exact hs
  |false=>
   cases decide (a.kind=3) with
   |false=>exact hs
   |true=>
    cases decide (b.kind=2) with
    |true=>cases within b.path a.path&& (!decide (b.path=a.path)&& !within b.path a.to)<;>first|exact hs|exact hd _ _
    |false=>cases decide (b.kind=3)&& (within b.path a.to&&within a.path b.to)<;>first|exact hs| (cases prior<;>first|exact hn|exact hu)
theorem Zf (b a:OpT)(prior:Bool): ∀o∈ (behindX b a prior).1,costO o≤costO b:=by
 unfold behindX;cases bothEdit b a with
 |true=>
  simp only[cond_true];unfold behindE;cases !soundO a|| !soundO b with
  |true=>intro o ho;cases ho
  |false=>
   cases decide ((transP b.pieces a.pieces prior).2.2=0)&&formedB (editO b a prior) with
   |false=>intro o ho;cases ho
   |true=>
    intro o ho;simp only[cond_true,cond_false,Ar5] at ho;subst ho;refine Ark (G6 _) ?_;have:=Ag2 b.pieces a.pieces prior;unfold costO editO;simp only;omega
 |false=>
  simp only[cond_false];unfold behindO;cases !soundO a|| !soundO b with
  |true=>intro o ho;cases ho
  |false=>
   cases(rowO b a prior).all formedB with
   |false=>intro o ho;cases ho
   |true=>
    intro o ho;simp only[cond_true,cond_false,Ato] at ho;obtain⟨z,hz,rfl⟩:=ho;exact Ark (G6 z) (Amb b a prior z hz)
theorem Ag3 (a b:OpT)(prior:Bool): ∀o∈ (bothX a b prior).2.1,costO o≤costO b:=by
 unfold bothX;cases decide ((behindX a b prior).2=0) with
 |false=>intro o ho;cases ho
 |true=>
  cases decide ((behindX b a (!prior)).2=0) with
  |false=>intro o ho;cases ho
  |true=>exact Zf b a (!prior)
structure Cp where
 p:List PieceT
 q:List PieceT
 x:Mk
 fr:List UInt8
def cpStep (s:Cp):Bool×Cp:=
 match rowPut s.q with
 | (u,q)=>bif rowHas s.q then(true,⟨s.p,q,s.x.put u,s.fr⟩)
  else match(bif s.fr.isEmpty then rowPut s.p else(s.fr,s.p)) with
  | (fr,p)=>match rowRun q with
   | ((n,gone,more),q)=>
    bif !fr.isEmpty then
     (true,⟨p,rowTake (min (min (bif more then n else(fr.length:Int)) fr.length) n) q,bif gone then s.x else s.x.put (fr.take (min (bif more then n else(fr.length:Int)) fr.length).toNat),fr.drop (min (bif more then n else(fr.length:Int)) fr.length).toNat⟩)
    else match rowRun p with
     | ((m,dropped,any),p)=>
      bif dropped then(true,⟨rowTake m p,q,s.x.drop m,fr⟩)
      else bif !any&& !more then(false,⟨p,q,s.x,fr⟩)
      else match(bif !more then m else bif any then min n m else n) with
       |k=>(true,⟨rowTake (min k m) p,rowTake (min k n) q,bif gone then s.x.drop k else s.x.kept k,fr⟩)
def cpGo:Nat->Cp->Cp
 |0,s=>s
 |f+1,s=>match cpStep s with
  | (b,s')=>bif b then cpGo f s' else s'
def cpM (s:Cp):Int:=rowR s.p+rowR s.q+s.fr.length
def composeP (a b:List PieceT):List PieceT×Int:=
 bif !rightP a|| !rightP b then([],2)
 else match cpGo ((cpM ⟨normP a,normP b,Mk.nil,[]⟩).toNat+1) ⟨normP a,normP b,Mk.nil,[]⟩ with
  |s=>bif !rightP s.x.l then([],3) else(s.x.l,0)
structure Cp.Ok (s:Cp):Prop where
 p:RowOk s.p
 q:RowOk s.q
 x:s.x.Ok
 w:s.x.w+3*cpM s≤900000000000
def cpP (s:Cp):Nat:=putsLen s.x.l+putsLen s.p+putsLen s.q+s.fr.length
theorem Ag9 {q:List PieceT}(h:rowHas q=true):1≤(rowPut q).1.length:=by
 cases q with
 |nil=>cases h
 |cons p r=>
  have h:(!(decide (0<p.keep)||p.put.isEmpty))=_:=h;rw[rowPut];cases hb:(decide (0<p.keep)||p.put.isEmpty) with
  |true=>rw[hb] at h;cases h
  |false=>
   rw[cond_false];simp only[Asw] at hb;have:p.put≠[]:=by simpa using hb.2
   exact Arw.2 this
theorem Iy {q:List PieceT}(h:rowHas q=false):(rowPut q)=([],q):=by
 cases q with
 |nil=>rfl
 |cons p r=>
  have h:(!(decide (0<p.keep)||p.put.isEmpty))=_:=h;rw[rowPut];cases hb:(decide (0<p.keep)||p.put.isEmpty) with
  |true=>rfl
  |false=>rw[hb] at h;cases h
theorem Fw {n:Int}{x s:Bool}{r:List PieceT}(h:RunIs n x s r):(s=true->1≤n)∧(s=false->n=0∧x=false∧r=[])∧(x=true->s=true):=by
 rcases h with⟨rfl,rfl,rfl,rfl⟩| ⟨rfl,p,l,rfl,h⟩
 ·exact⟨λe=>(by cases e),λ_=>⟨rfl,rfl,rfl⟩,λe=>(by cases e)⟩
 ·refine⟨λ_=> ?_,λe=>(by cases e),λ_=>rfl⟩
  rcases h with⟨-,rfl,h6⟩| ⟨-,rfl,h6,_⟩<;>omega
theorem Zx {n:Int}{x s:Bool}{r:List PieceT}(h:RunIs n x s r):rowRun r=((n,x,s),r):=by
 rcases h with⟨rfl,rfl,rfl,rfl⟩| ⟨rfl,p,l,rfl,h⟩
 ·rfl
 ·rcases h with⟨rfl,rfl,h6⟩| ⟨rfl,rfl,h6,h7⟩
  ·rw[rowRun,decide_eq_true h6];rfl
  ·rw[rowRun,decide_eq_false h7,decide_eq_true h6];rfl
inductive CpTo (s:Cp):Bool×Cp->Prop
 |put (h:rowHas s.q=true):CpTo s (true,⟨s.p,(rowPut s.q).2,s.x.put (rowPut s.q).1,s.fr⟩)
 |old (fr p q n gone more k) (h:rowHas s.q=false) (hf:(bif s.fr.isEmpty then rowPut s.p else(s.fr,s.p))=(fr,p)) (hq:rowRun s.q=((n,gone,more),q)) (hne:fr≠[]) (hk:k=min (bif more then n else(fr.length:Int)) fr.length):
   CpTo s (true,⟨p,rowTake (min k n) q,bif gone then s.x else s.x.put (fr.take k.toNat),fr.drop k.toNat⟩)
 |drop (p q n gone more m any p') (h:rowHas s.q=false) (hf:(bif s.fr.isEmpty then rowPut s.p else(s.fr,s.p))=([],p)) (hq:rowRun s.q=((n,gone,more),q)) (hp:rowRun p=((m,true,any),p')):CpTo s (true,⟨rowTake m p',q,s.x.drop m,[]⟩)
 |fin (p q n gone m p') (h:rowHas s.q=false) (hf:(bif s.fr.isEmpty then rowPut s.p else(s.fr,s.p))=([],p)) (hq:rowRun s.q=((n,gone,false),q)) (hp:rowRun p=((m,false,false),p')):CpTo s (false,⟨p',q,s.x,[]⟩)
 |both (p q n gone more m any p' k) (h:rowHas s.q=false) (hf:(bif s.fr.isEmpty then rowPut s.p else(s.fr,s.p))=([],p)) (hq:rowRun s.q=((n,gone,more),q)) (hp:rowRun p=((m,false,any),p')) (hne:(!any&& !more)=false) (hk:k=(bif !more then m else bif any then min n m else n)):
   CpTo s (true,⟨rowTake (min k m) p',rowTake (min k n) q,bif gone then s.x.drop k else s.x.kept k,[]⟩)
theorem cpTo (s:Cp):CpTo s (cpStep s):=by
 unfold cpStep;cases h:rowHas s.q with
 |true=>exact .put h
 |false=>
  rw[Iy h];simp only[cond_false];obtain⟨⟨fr,p⟩,hf⟩: ∃z,(bif s.fr.isEmpty then rowPut s.p else(s.fr,s.p))=z:=⟨_,rfl⟩;obtain⟨⟨⟨n,gone,more⟩,q⟩,hq⟩: ∃z,rowRun s.q=z:=⟨_,rfl⟩;rw[hf,hq];simp only;cases fr with
  |cons c fr=>exact .old (c::fr) p q n gone more _ h hf hq (by simp) rfl
  |nil=>
   simp only[Avc,Arm,cond_false];obtain⟨⟨⟨m,dropped,any⟩,p'⟩,hp⟩: ∃z,rowRun p=z:=⟨_,rfl⟩;rw[hp];simp only;cases dropped with
   |true=>exact .drop p q n gone more m any p' h hf hq hp
   |false=>
    cases hne:(!any&& !more) with
    |true=>
     simp only[Aq6,Atn] at hne;obtain⟨rfl,rfl⟩:=hne;exact .fin p q n gone m p' h hf hq hp
    |false=>exact .both p q n gone more m any p' _ h hf hq hp hne rfl
theorem CpTo.eq {s:Cp}{r:Bool×Cp}(h:CpTo s r):cpStep s=r:=by
 unfold cpStep;cases h with
 |put h=>simp only[h,cond_true]
 |old fr p q n gone more k h hf hq hne hk=>
  rw[Iy h,h];simp only[cond_false];rw[hf,hq];have:fr.isEmpty=false:=by simpa using hne
  simp only[this,Ash,cond_true,←hk]
 |drop p q n gone more m any p' h hf hq hp=>
  rw[Iy h,h];simp only[cond_false];rw[hf,hq];simp only[Avc,Arm,cond_false,hp,cond_true]
 |fin p q n gone m p' h hf hq hp=>
  rw[Iy h,h];simp only[cond_false];rw[hf,hq];simp only[Avc,Arm,cond_false,hp,Ash,Ast,cond_true]
 |both p q n gone more m any p' k h hf hq hp hne hk=>
  rw[Iy h,h];simp only[cond_false];rw[hf,hq];simp only[Avc,Arm,cond_false,hp,hne,←hk]
theorem D4 {s:Cp}(h:s.Ok){fr:List UInt8}{p:List PieceT}(hf:(bif s.fr.isEmpty then rowPut s.p else(s.fr,s.p))=(fr,p)):RowOk p∧rowR p+fr.length=rowR s.p+s.fr.length∧putsLen p+fr.length=putsLen s.p+s.fr.length:=by
 cases he:s.fr.isEmpty with
 |true=>
  rw[he] at hf;have e:s.fr=[]:=by simpa using he
  obtain⟨h1,h2,_,_⟩:=Ea h.p;have h3:=Ng s.p;rw[cond_true] at hf;rw[hf] at h1 h2 h3;rw[e];simp only at h1 h2 h3;exact⟨h1,by simp;omega,by simp;omega⟩
 |false=>
  rw[he,cond_false] at hf;injection hf with e1 e2
  subst e1 e2;exact⟨h.p,rfl,rfl⟩
theorem Cz {r r':List PieceT}{n:Int}{x s:Bool}(h:RowOk r)(hr:rowRun r=((n,x,s),r')):RowOk r'∧RunIs n x s r'∧rowR r'≤rowR r∧putsLen r'≤putsLen r∧0≤n∧n≤1000000000000:=by
 obtain⟨a1,a2,a3⟩:=Kt h;have b:=Mq r;have c:=(Ov h.nn).1;have d:=Nh r;rw[hr] at a1 a2 a3 b c d;exact⟨a1,b,c,d,a2,a3⟩
theorem R4 {s s':Cp}{b:Bool}(h:s.Ok)(hc:CpTo s (b,s')):s'.Ok∧(b=true->cpM s'<cpM s)∧cpP s'≤cpP s∧0≤cpM s:=by
 have hw:=h.w;have rp:=C6 h.p.nn;have rq:=C6 h.q.nn;have m0:0≤cpM s:=by unfold cpM;omega
 have hcpM:cpM s=rowR s.p+rowR s.q+s.fr.length:=rfl;have hcpP:cpP s=putsLen s.x.l+putsLen s.p+putsLen s.q+s.fr.length:=rfl;refine⟨?_,?_,?_,m0⟩<;>generalize hz:(b,s')=z at hc<;>cases hc
 all_goals injection hz with hz1 hz2;subst hz1 hz2
 case refine_1.put hh=>
  obtain⟨a1,a2,_,_⟩:=Ea h.q;obtain⟨b1,b2⟩:=Mk.put_ok2 (s:=(rowPut s.q).1) h.x;exact⟨h.p,a1,b1,by unfold cpM at*;simp only;omega⟩
 case refine_2.put hh=>
  intro _;obtain⟨a1,a2,_,_⟩:=Ea h.q;have:=Ag9 hh;unfold cpM;simp only;omega
 case refine_3.put hh=>
  have a1:=Ng s.q;unfold cpP;simp only[Mk.put_puts];omega
 case refine_1.old fr p q n gone more k hh hf hq hne hk=>
  obtain⟨f1,f2,f3⟩:=D4 h hf;obtain⟨q1,q2,q3,q4,q5,q6⟩:=Cz h.q hq;obtain⟨p1,p2,p3⟩:=Fw q2;have hl:=Arw.2 hne;have hk1:1≤k∧k≤fr.length∧(more=true->k≤n):=by
   rw[hk];cases more with
   |true=>have:=p1 rfl;simp only[cond_true];omega
   |false=>refine⟨?_,?_,λe=>(by cases e)⟩<;>simp only[cond_false]<;>omega
  obtain⟨t1,t2,_⟩:=B6 (n:=min k n) q1 q2 (by omega) (λ_=>by omega);have hd:((fr.drop k.toNat).length:Int)=fr.length-k:=by rw[Asf];omega
  have ht:((fr.take k.toNat).length:Int)=k:=by rw[Ar1];omega
  have hb:(0:Int)≤bif more then min k n else 0:=by cases more<;>simp<;>omega
  refine⟨f1,t1,?_,?_⟩
  ·cases gone with
   |true=>exact h.x
   |false=>exact(Mk.put_ok2 h.x).1
  ·unfold cpM at*;simp only;rw[hd,t2];cases gone with
   |true=>simp only[cond_true];omega
   |false=>
    have:=(Mk.put_ok2 (s:=fr.take k.toNat) h.x).2;simp only[cond_false];omega
 case refine_2.old fr p q n gone more k hh hf hq hne hk=>
  intro _;obtain⟨f1,f2,f3⟩:=D4 h hf;obtain⟨q1,q2,q3,q4,q5,q6⟩:=Cz h.q hq;obtain⟨p1,p2,p3⟩:=Fw q2;have hl:=Arw.2 hne;have hk1:1≤k∧k≤fr.length:=by
   rw[hk];cases more with
   |true=>have:=p1 rfl;simp only[cond_true];omega
   |false=>simp only[cond_false];omega
  obtain⟨t1,t2,_⟩:=B6 (n:=min k n) q1 q2 (by omega) (λ_=>by omega);have hd:((fr.drop k.toNat).length:Int)=fr.length-k:=by rw[Asf];omega
  have hb:(0:Int)≤bif more then min k n else 0:=by cases more<;>simp<;>omega
  unfold cpM;simp only;rw[hd,t2];omega
 case refine_3.old fr p q n gone more k hh hf hq hne hk=>
  obtain⟨f1,f2,f3⟩:=D4 h hf;obtain⟨q1,q2,q3,q4,q5,q6⟩:=Cz h.q hq;unfold cpP;simp only[Jd,Asf];cases gone with
  |true=>simp only[cond_true];omega
  |false=>simp only[cond_false,Mk.put_puts,Ar1];omega
 case refine_1.drop p q n gone more m any p' hh hf hq hp=>
  obtain⟨f1,f2,f3⟩:=D4 h hf;obtain⟨q1,q2,q3,q4,q5,q6⟩:=Cz h.q hq;obtain⟨r1,r2,r3,r4,r5,r6⟩:=Cz f1 hp;obtain⟨t1,t2,_⟩:=B6 (n:=m) r1 r2 r5 (λ_=>Arr _);obtain⟨d1,d2⟩:=Mk.drop_ok2 (n:=m) h.x r5;have:=(Fw r2).2.2 rfl;subst this;refine⟨t1,q1,d1,?_⟩;unfold cpM at*;simp only[cond_true] at t2;simp only[Arc] at f2 ⊢;omega
 case refine_2.drop p q n gone more m any p' hh hf hq hp=>
  intro _;obtain⟨f1,f2,f3⟩:=D4 h hf;obtain⟨q1,q2,q3,q4,q5,q6⟩:=Cz h.q hq;obtain⟨r1,r2,r3,r4,r5,r6⟩:=Cz f1 hp;obtain⟨t1,t2,_⟩:=B6 (n:=m) r1 r2 r5 (λ_=>Arr _);have e:=(Fw r2).2.2 rfl;have:=(Fw r2).1 e;subst e;unfold cpM at*;simp only[cond_true] at t2;simp only[Arc] at f2 ⊢;omega
 case refine_3.drop p q n gone more m any p' hh hf hq hp=>
  obtain⟨f1,f2,f3⟩:=D4 h hf;obtain⟨q1,q2,q3,q4,q5,q6⟩:=Cz h.q hq;obtain⟨r1,r2,r3,r4,r5,r6⟩:=Cz f1 hp;unfold cpP;simp only[Jd,Mk.drop_puts,Arc] at f3 ⊢;omega
 case refine_1.fin p q n gone m p' hh hf hq hp=>
  obtain⟨f1,f2,f3⟩:=D4 h hf;obtain⟨q1,q2,q3,q4,q5,q6⟩:=Cz h.q hq;obtain⟨r1,r2,r3,r4,r5,r6⟩:=Cz f1 hp;refine⟨r1,q1,h.x,?_⟩;unfold cpM at*;simp only[Arc] at f2 ⊢;omega
 case refine_2.fin p q n gone m p' hh hf hq hp=>exact λe=>by cases e
 case refine_3.fin p q n gone m p' hh hf hq hp=>
  obtain⟨f1,f2,f3⟩:=D4 h hf;obtain⟨q1,q2,q3,q4,q5,q6⟩:=Cz h.q hq;obtain⟨r1,r2,r3,r4,r5,r6⟩:=Cz f1 hp;unfold cpP;simp only[Arc] at f3 ⊢;omega
 case refine_1.both p q n gone more m any p' k hh hf hq hp hne hk=>
  obtain⟨f1,f2,f3⟩:=D4 h hf;obtain⟨q1,q2,q3,q4,q5,q6⟩:=Cz h.q hq;obtain⟨r1,r2,r3,r4,r5,r6⟩:=Cz f1 hp;have hp1:=(Fw r2).1;have hq1:=(Fw q2).1;have hk1:1≤k∧(any=true->k≤m)∧(more=true->k≤n):=by
   rw[hk];cases any<;>cases more<;>simp at hne hp1 hq1 ⊢ <;>omega
  obtain⟨t1,t2,_⟩:=B6 (n:=min k m) r1 r2 (by omega) (λ_=>by omega);obtain⟨u1,u2,_⟩:=B6 (n:=min k n) q1 q2 (by omega) (λ_=>by omega);refine⟨t1,u1,?_,?_⟩
  ·cases gone with
   |true=>exact(Mk.drop_ok2 h.x (by omega)).1
   |false=>exact(Mk.kept_ok h.x (by omega)).1
  ·unfold cpM at*;simp only[Arc] at f2 ⊢;rw[t2,u2];have hsum:k≤(bif any then min k m else 0)+ (bif more then min k n else 0):=by
    cases any<;>cases more<;>simp at hne hk1 ⊢ <;>omega
   cases gone with
   |true=>have:=(Mk.drop_ok2 (n:=k) h.x (by omega)).2;simp only[cond_true];omega
   |false=>have:=(Mk.kept_ok (n:=k) h.x (by omega)).2;simp only[cond_false];omega
 case refine_2.both p q n gone more m any p' k hh hf hq hp hne hk=>
  intro _;obtain⟨f1,f2,f3⟩:=D4 h hf;obtain⟨q1,q2,q3,q4,q5,q6⟩:=Cz h.q hq;obtain⟨r1,r2,r3,r4,r5,r6⟩:=Cz f1 hp;have hp1:=(Fw r2).1;have hq1:=(Fw q2).1;have hk1:1≤k∧(any=true->k≤m)∧(more=true->k≤n):=by
   rw[hk];cases any<;>cases more<;>simp at hne hp1 hq1 ⊢ <;>omega
  obtain⟨t1,t2,_⟩:=B6 (n:=min k m) r1 r2 (by omega) (λ_=>by omega);obtain⟨u1,u2,_⟩:=B6 (n:=min k n) q1 q2 (by omega) (λ_=>by omega);unfold cpM;simp only[Arc] at f2 ⊢;rw[t2,u2];have hsum:k≤(bif any then min k m else 0)+ (bif more then min k n else 0):=by
   cases any<;>cases more<;>simp at hne hk1 ⊢ <;>omega
  omega
 case refine_3.both p q n gone more m any p' k hh hf hq hp hne hk=>
  obtain⟨f1,f2,f3⟩:=D4 h hf;obtain⟨q1,q2,q3,q4,q5,q6⟩:=Cz h.q hq;obtain⟨r1,r2,r3,r4,r5,r6⟩:=Cz f1 hp;unfold cpP;simp only[Jd,Arc] at f3 ⊢;cases gone with
  |true=>simp only[cond_true,Mk.drop_puts];omega
  |false=>simp only[cond_false];show putsLen s.x.l+_+_+0≤_;omega
theorem Mx {f:Nat}{s s':Cp}{b:Bool}(h:cpStep s=(b,s')):cpGo (f+1) s=bif b then cpGo f s' else s':=by rw[cpGo,h]
theorem Anx: ∀(f:Nat) {s:Cp},s.Ok->(cpGo f s).Ok∧cpP (cpGo f s)≤cpP s
 |0,s,h=>⟨h,Ara _⟩
 |f+1,s,h=>by
  obtain⟨⟨b,s'⟩,hs⟩: ∃z,cpStep s=z:=⟨_,rfl⟩;have hc:=cpTo s;rw[hs] at hc;obtain⟨h1,_,h3,_⟩:=R4 h hc;rw[Mx hs];cases b with
  |false=>exact⟨h1,h3⟩
  |true=>
   obtain⟨g1,g2⟩:=Anx f h1;exact⟨g1,Ark g2 h3⟩
theorem Ue {a b:List PieceT}(ha:rightP a=true)(hb:rightP b=true):Cp.Ok ⟨normP a,normP b,Mk.nil,[]⟩∧cpM ⟨normP a,normP b,Mk.nil,[]⟩≤80000000000:=by
 obtain⟨oa,wa⟩:=Rx ha;obtain⟨ob,wb⟩:=Rx hb;have:cpM ⟨normP a,normP b,Mk.nil,[]⟩≤80000000000:=by unfold cpM;simp only[Arc];omega
 refine⟨⟨oa,ob,Mk.nil_ok,?_⟩,this⟩;show(0:Int)+sumW []+_≤_;simp only[sumW];omega
theorem Ac1 (a b:List PieceT):putsLen (composeP a b).1≤putsLen a+putsLen b:=by
 unfold composeP;cases hr: !rightP a|| !rightP b with
 |true=>exact Aq4 _
 |false=>
  simp only[Asw,Aul] at hr;have h:=(Anx ((cpM ⟨normP a,normP b,Mk.nil,[]⟩).toNat+1) (Ue hr.1 hr.2).1).2;have h0:cpP ⟨normP a,normP b,Mk.nil,[]⟩=putsLen a+putsLen b:=by
   unfold cpP;simp only[Zd,Arc];show 0+_+_+0=_;omega
  rw[h0] at h;simp only[cond_false];generalize cpGo _ _=s at h ⊢;cases rightP s.x.l with
  |false=>exact Aq4 _
  |true=>
   unfold cpP at h;simp only[Arm,cond_false];omega
theorem La {a b l:List PieceT}(h:composeP a b=(l,0)):rightP l=true:=by
 unfold composeP at h;cases hr: !rightP a|| !rightP b with
 |true=>rw[hr] at h;simp at h
 |false=>
  rw[hr] at h;simp only[cond_false] at h;generalize cpGo _ _=s at h;cases hl:rightP s.x.l with
  |false=>rw[hl] at h;simp at h
  |true=>
   rw[hl] at h;simp only[Arm,cond_false,Prod.mk.injEq] at h;rw[←h.1];exact hl
def normR (l:List PieceT):List PieceT:=bif rightP l then normP l else []
def idleO (o:OpT):Bool:=formedB o&& (bif decide (o.kind=6) then decide ((normR o.pieces).length=0) else bif decide (o.kind=3) then !o.path.isEmpty&& (decide (o.path.dropLast=o.to)&& (decide (o.at_=lastP o.path)||decide (o.at_=lastP o.path+1))) else false)
def busyO (o:OpT):Bool:=formedB o&& !idleO o
def pairO (a b:OpT):Option (Option OpT):=
 bif !busyO a|| !busyO b then none
 else bif decide (a.kind=1)&&decide (a.path++ [a.at_]=b.path)&&decide (b.kind=2) then some none
 else bif decide (a.kind=1)&&decide (a.path++ [a.at_]=b.path)&&decide (b.kind=5) then some (some (bareO {a with label:=b.label}))
 else bif !decide (a.kind=b.kind)|| !decide (a.path=b.path) then none
 else bif decide (a.kind=5) then some (some (bareO b))
 else bif decide (a.kind=4) then(bif decide (a.key=b.key) then some (some (bareO b)) else none)
 else bif decide (a.kind=6) then(bif !decide ((composeP a.pieces b.pieces).2=0) then none else bif decide ((composeP a.pieces b.pieces).1.length=0) then some none else some (some (bareO {b with pieces:=(composeP a.pieces b.pieces).1})))
 else none
def pushO:List OpT->OpT->List OpT
 | [],x=>[x]
 | [a],x=>match pairO a x with
  |none=>[x,a]
  |some (some z)=>[z]
  |some none=>[]
 |a::y::rest,x=>match pairO a x with
  |none=>x::a::y::rest
  |some (some z)=>pushO (y::rest) z
  |some none=>pushO rest y
def sqz:List OpT->List OpT
 | []=>[]
 |x::rest=>pushO rest x
def listR:List OpT->List OpT->List OpT
 | [],s=>s
 |o::l,s=>bif idleO o then listR l s else listR l (pushO s (bareO o))
def listS (l:List OpT):List OpT:=(listR l []).reverse
theorem Kz (a:OpT)(rest:List OpT)(x:OpT):pushO (a::rest) x=match pairO a x with
  |none=>x::a::rest
  |some (some z)=>pushO rest z
  |some none=>sqz rest:=by
 cases rest with
 |nil=>
  rw[pushO];cases pairO a x with
  |none=>rfl
  |some z=>cases z<;>rfl
 |cons y rest=>
  rw[pushO];cases pairO a x with
  |none=>rfl
  |some z=>cases z<;>rfl
theorem Aop (a b:OpT)(rest:List OpT):sqz (b::a::rest)=match pairO a b with
  |none=>b::a::rest
  |some (some z)=>sqz (z::rest)
  |some none=>sqz rest:=by
 exact Kz a rest b
theorem B7 (o:OpT)(l:List OpT):costs (o::l)=costO o+costs l:=by rw[costs]
theorem Cb:costs []=0:=by rw[costs]
theorem Iz: ∀a b:List OpT,costs (a++b)=costs a+costs b
 | [],b=>by rw[Ar9,Cb];omega
 |x::a,b=>by rw[Arx,B7,B7,Iz a b];omega
theorem Aju {a b z:OpT}(h:pairO a b=some (some z)):costO z≤costO a+costO b:=by
 have hb:=λo=>G6 o;unfold pairO at h;cases h1: !busyO a|| !busyO b with
 |true=>rw[h1] at h;cases h
 |false=>
 rw[h1,cond_false] at h;cases h2:decide (a.kind=1)&&decide (a.path++ [a.at_]=b.path)&&decide (b.kind=2) with
 |true=>rw[h2] at h;simp at h
 |false=>
 rw[h2,cond_false] at h;cases h3:decide (a.kind=1)&&decide (a.path++ [a.at_]=b.path)&&decide (b.kind=5) with
 |true=>
  rw[h3,cond_true] at h;injection h with h
  injection h with h
  rw[←h];refine Ark (hb _) ?_;unfold costO;simp only;omega
 |false=>
 rw[h3,cond_false] at h;cases h4: !decide (a.kind=b.kind)|| !decide (a.path=b.path) with
 |true=>rw[h4] at h;cases h
 |false=>
 rw[h4,cond_false] at h;cases h5:decide (a.kind=5) with
 |true=>
  rw[h5,cond_true] at h;injection h with h
  injection h with h
  rw[←h];exact Ark (hb _) (by omega)
 |false=>
 rw[h5,cond_false] at h;cases h6:decide (a.kind=4) with
 |true=>
  rw[h6,cond_true] at h;cases h7:decide (a.key=b.key) with
  |false=>rw[h7] at h;cases h
  |true=>
   rw[h7,cond_true] at h;injection h with h
   injection h with h
   rw[←h];exact Ark (hb _) (by omega)
 |false=>
 rw[h6,cond_false] at h;cases h7:decide (a.kind=6) with
 |false=>rw[h7] at h;cases h
 |true=>
 rw[h7,cond_true] at h;have hp:=Ac1 a.pieces b.pieces;generalize composeP a.pieces b.pieces=r at h hp;obtain⟨l,e⟩:=r;simp only at h hp;cases h8: !decide (e=0) with
 |true=>rw[h8] at h;cases h
 |false=>
 rw[h8,cond_false] at h;cases h9:decide (l.length=0) with
 |true=>rw[h9] at h;simp at h
 |false=>
 rw[h9,cond_false] at h;injection h with h
 injection h with h
 rw[←h];refine Ark (hb _) ?_;unfold costO;simp only;omega
theorem My: ∀(n:Nat) (s:List OpT) (x:OpT),s.length≤n->costs (pushO s x)≤costs s+costO x∧(pushO s x).length≤s.length+1
 |_,[],x,_=>by rw[pushO,B7,Cb];exact⟨by omega,by simp⟩
 |n+1,a::rest,x,hn=>by
  rw[Kz,B7];cases h:pairO a x with
  |none=>simp only[B7,Aq8];omega
  |some z=>
   cases z with
   |some z=>
    have:=My n rest z (by simp at hn;omega);have:=Aju h;simp only[Aq8];omega
   |none=>
    simp only;cases rest with
    |nil=>show costs []≤_∧_;rw[Cb];simp[sqz]
    |cons y rest=>
     have:=My n rest y (by simp at hn;omega);show costs (pushO rest y)≤_∧(pushO rest y).length≤_;simp only[B7,Aq8];omega
 |0,a::rest,x,hn=>by simp at hn
theorem Pf: ∀(l s:List OpT),costs (listR l s)≤costs l+costs s
 | [],s=>by rw[listR,Cb];omega
 |o::l,s=>by
  rw[listR,B7];cases idleO o with
  |true=>have:=Pf l s;simp only[cond_true];omega
  |false=>
   have h1:=Pf l (pushO s (bareO o));have h2:=(My _ s (bareO o) (Ara _)).1;have h3:=G6 o;simp only[cond_false];omega
theorem Aa2 (l:List OpT):costs l.reverse=costs l:=by
 induction l with
 |nil=>rfl
 |cons o l ih=>rw[Aur,Iz,ih,B7,B7,Cb];omega
theorem Aha (l:List OpT):costs (listS l)≤costs l:=by
 unfold listS;rw[Aa2];exact Pf l []
theorem Q1: ∀(l s:List OpT),(listR l s).length≤l.length+s.length
 | [],s=>by rw[listR];simp
 |o::l,s=>by
  rw[listR];cases idleO o with
  |true=>have:=Q1 l s;simp;omega
  |false=>
   have h1:=Q1 l (pushO s (bareO o));have h2:=(My _ s (bareO o) (Ara _)).2;simp;omega
theorem Zy (l:List OpT):(listS l).length≤l.length:=by
 unfold listS;rw[Au1];exact Q1 l []
section
variable {c:Cx} {ops:Array Oper} {i:Nat} {o:Oper} {E:Env} {T:Heap} {gs:List Tmp}
theorem Ca {f:Operand}{args:Array Operand}{ts:Array TypeId}{g:FuncId}{first cap args':List V}{x:V}{g1 g2 s1 s2:Nat}{xs ys:List V}(kn:Nat)(hg:Guarded ops o E gs true)(ho:ops[i]?=some o)
  (hop:o.op=.call {callee:=.value f,args:=args,argTypes:=ts}) (hf:opd E f=.fn (.func g) first cap) (hT:T[kn]?=some (some (.vec g1 s1 xs))) (hD:c.D.all (λk=> !memN [kn] k)=true)
  (hfun:Fun c.P g [some (.vec g1 s1 xs)] args' (λy T1=>y=x∧T1=[some (.vec g2 s2 ys)])) (ha:first++args.toList.map (opd E)++cap=V.renL [kn] args') (hsc:V.scBL 1 args'=true) (hx: ∀ρ,x.ren ρ=x):
  Fact c ops i E T ⟨o.dst,gs++tmpsOf o.op.operands.toList,[kn],x,[(kn,some (.vec g2 s2 ys))],none⟩:=by
 refine Jt ho hg hop hf λE' T' hl hT'=> ?_;have hk:T'[kn]?=some (some (.vec g1 s1 xs)):=(hT' kn (by simp)).trans hT;have hlt:=Ab hk;rw[ha];refine Ag [kn] hfun rfl (by simp only[subB,Avs,Nat.blt,Nat.ble_eq];exact hlt) ⟨⟨by rw[Af];exact hk,rfl⟩,trivial⟩ rfl hsc hD ?_;rintro y T1 ⟨rfl,rfl⟩;refine⟨rfl,?_⟩;rw[I6];refine⟨hx _,?_⟩;show(⟨E',setAll _ [kn] [some (.vec g2 s2 ys)] T',c.B,c.D⟩:St)=_;simp only[setAll,omap,HObj.ren,Ate,Asc,app]
theorem Bl {f:Operand}{args:Array Operand}{ts:Array TypeId}{g:FuncId}{first cap ws:List V}{x:V}(s:Nat)(tc:List Nat)(hg:Guarded ops o E gs true)(ho:ops[i]?=some o)
  (hop:o.op=.call {callee:=.value f,args:=args,argTypes:=ts}) (hf:opd E f=.fn (.func g) first cap) (hfun:Pure c.P g ws (λy=>y=x)) (hz: ∀T':Heap,(∀k∈tc,T'[k]?=T[k]?)->LtL T' s (first++args.toList.map (opd E)++cap) ws) (hp:V.pureL ws=true) (hx:x.apart [s]=true):
  Fact c ops i E T ⟨o.dst,gs++tmpsOf o.op.operands.toList,tc,x,[],none⟩:=by
 refine Jt ho hg hop hf λE' T' hl hT'=> ?_;exact Hf s hfun (hz T' hT') hp (by rintro _ rfl;exact hx) λy hy=>⟨hy,rfl⟩
theorem Gi {f:Operand}{args:Array Operand}{ts:Array TypeId}{g:FuncId}{first cap ws:List V}{p sz:Nat}{xs:List V}(s:Nat)(tc:List Nat)(hg:Guarded ops o E gs true)(ho:ops[i]?=some o)
  (hop:o.op=.call {callee:=.value f,args:=args,argTypes:=ts}) (hf:opd E f=.fn (.func g) first cap) (hd:T[p]?=some (some (.vec 0 0 []))) (hfun:Fun c.P g [] ws (λx T1=> ∃g0,x=.osl (.loc 0) g0 0 xs.length∧T1=[some (.vec g0 sz xs)]))
  (hz: ∀T':Heap,(∀k∈tc,T'[k]?=T[k]?)->LtL T' s (first++args.toList.map (opd E)++cap) ws) (hp:V.pureL ws=true) (hx:V.apartL [s] xs=true):
  Fact c ops i E T ⟨o.dst,gs++tmpsOf o.op.operands.toList,p::tc,.osl (.loc p) 2 0 xs.length,[(p,some (.vec 2 sz xs))],some p⟩:=by
 refine Qc ho hg hop hf hd λE' T' hl hT'=> ?_;refine Dm s hfun (hz T' λk hk=>hT' k (Are _ hk)) hp ?_ ?_
 ·rintro x T1 ⟨g0,rfl,rfl⟩;exact⟨rfl,by simp only[rowsB,hx,Ast]⟩
 ·rintro x T1 ⟨g0,rfl,rfl⟩;rw[Rs];exact⟨g0,rfl,rfl⟩
theorem Qe {t e:TypeId}{x hi mx:Operand}{kk kk':IntKind}{ti:TypeInfo}{kn g off l sz h:Nat}{xs:List V}(hg:Guarded ops o E gs true)(ho:ops[i]?=some o)(hop:o.op=.slice t x none (some hi) (some mx))(hx:opd E x=.osl (.loc kn) g off l)(hh:opd E hi=.int kk h)(hmx:opd E mx=.int kk' h)(ht:tyU c.P t=some (.slice e))(hi':tyI c.P e=some ti)
  (hk:T[kn]?=some (some (.vec g sz xs))) (hle:h≤l):Fact c ops i E T ⟨o.dst,gs++tmpsOf o.op.operands.toList,[kn],.osl (.loc kn) g off h,[],none⟩:=by
 refine Afh ho hg (λcl e=>by rw[hop] at e;cases e) λE' T' h1 _ h2=> ?_;have h3: ∀z,z∈o.op.operands.toList->opd E' z=opd E z:=h1;rw[hop] at h3 ⊢;exact Ais ((h3 x (by simp[Op.operands])).trans hx) ((h3 hi (by simp[Op.operands])).trans hh) ((h3 mx (by simp[Op.operands])).trans hmx) ht hi' ((h2 kn (by simp)).trans hk) hle
theorem Oj {t e:TypeId}{x lo:Operand}{kk:IntKind}{ti:TypeInfo}{kn g off l sz h:Nat}{xs:List V}(hg:Guarded ops o E gs true)(ho:ops[i]?=some o)(hop:o.op=.slice t x (some lo) none none)(hx:opd E x=.osl (.loc kn) g off l)(hh:opd E lo=.int kk h)(ht:tyU c.P t=some (.slice e))(hi':tyI c.P e=some ti)(hsz:ti.size=sz)
  (hk:T[kn]?=some (some (.vec g sz xs))) (hle:h≤l):Fact c ops i E T ⟨o.dst,gs++tmpsOf o.op.operands.toList,[kn],.osl (.loc kn) g (off+h) (l-h),[],none⟩:=by
 refine Afh ho hg (λcl e=>by rw[hop] at e;cases e) λE' T' h1 _ h2=> ?_;have h3: ∀z,z∈o.op.operands.toList->opd E' z=opd E z:=h1;rw[hop] at h3 ⊢;exact Ags ((h3 x (by simp[Op.operands])).trans hx) ((h3 lo (by simp[Op.operands])).trans hh) ht hi' hsz ((h2 kn (by simp)).trans hk) hle
end
theorem Lt.cut {T:Heap}{s k g off len:Nat}{xs ys:List V}(h:T[k]?=some (some (.vec g s xs)))(hlen:off+len≤xs.length)(hx:V.apartL [] xs=true)(e:(xs.drop off).take len=ys):Lt T s (.osl (.loc k) g off len) (.sl s ys):=e▸ .part k g off len xs h hlen hx
end Bow
namespace Bow
open Go Go.Proofs
theorem X7 {n:Int}{x y:V}{a b:Bool}(h1:x=.tt∧a=true∨x=.ff∧a=false)(h2:y=.tt∧b=true∨y=.ff∧b=false):Wk (.tup [.int .i64 n,x,y]) (runV (n,a,b)):=by
 rcases h1 with⟨rfl,rfl⟩| ⟨rfl,rfl⟩<;>rcases h2 with⟨rfl,rfl⟩| ⟨rfl,rfl⟩<;>exact Wk.tup ⟨.refl _,by first|exact Wk.tt|exact Wk.ff,by first|exact Wk.tt|exact Wk.ff,trivial⟩
theorem Ap9 (r0:List PieceT):Fun Tryz.prog 180 [some (.box [piecesV r0])] [.ptr (.loc 0) 0] (λx T=>x=runV (rowRun r0).1∧T=[some (.box [piecesV (rowRun r0).2])]):=by
 refine L7 (A9 1 rfl (Ay 300 Tryz.func180 rfl rfl rfl λimps B hi=> ?_));show Goes _ _ _ _;refine Ak (ι:=List PieceT) (λr=>rowRun r=rowRun r0) (λr=>r.length) (λ_=>[(0,.ptr (.loc 0) 0)]) (λr=>[some (.box [piecesV r])]) r0 300 (λ_=>rfl) (λ_=>by rw[hi];rfl)
  ⟨rfl,Zq1,Zq1⟩ ?_
 rintro r k2 next;cases r with
 |nil=>
  refine⟨λg1=>absurd (Au g1) (by simp),λg1=>go 300 ?_⟩;have e:rowRun r0=((0,false,false),[]):=k2.symm;rw[e];exact⟨trivial,rfl,rfl,[some (.box [piecesV []])],rfl,rfl,Zq1,_,X7 (.inr ⟨rfl,rfl⟩) (.inr ⟨rfl,rfl⟩),rfl,rfl,rfl,rfl⟩
 |cons p r=>
  refine⟨λg1=>go 300 ?_,λg1=>absurd (Ah g1) (by simp)⟩;refine⟨by decide,pieceV p,rfl,?_⟩;refine⟨λg2=>go 300 ?_,λg2=>go 300 ?_⟩
  ·have e:rowRun r0=((p.keep,false,true),p::r):=by rw[←k2,rowRun,g2];rfl
   rw[e];exact⟨trivial,rfl,rfl,[some (.box [piecesV (p::r)])],rfl,rfl,Zq1,_,X7 (.inr ⟨rfl,rfl⟩) (.inl ⟨rfl,rfl⟩),rfl,rfl,rfl,rfl⟩
  ·refine⟨λg3=>go 300 ?_,λg3=>go 300 ?_⟩
   ·have e:rowRun r0=((p.drop,true,true),p::r):=by rw[←k2,rowRun,g2,g3];rfl
    rw[e];exact⟨trivial,rfl,rfl,[some (.box [piecesV (p::r)])],rfl,rfl,Zq1,_,X7 (.inl ⟨rfl,rfl⟩) (.inl ⟨rfl,rfl⟩),rfl,rfl,rfl,rfl⟩
   ·have e:rowRun r=rowRun r0:=by rw[←k2,rowRun,g2,g3];rfl
    refine⟨by decide,by simp;omega,Arr _,?_⟩;show Goes _ _ _ _;refine next r _ _ ⟨e,by simp,Zq1,⟨⟨?_,rfl⟩,trivial⟩⟩;show some (HObj.box [V.sl 3 (List.take _ (List.map pieceV r))])=_;rw[Ars (by simp)];rfl
theorem Aka (r:List PieceT):Pure Tryz.prog 182 [piecesV r] (λx=>x=.int .i64 (rowRun r).1.1):=by
 refine Ad 60 Tryz.func182 rfl rfl rfl λB=> ?_;show CallThen _ _ _ _ _ _;refine Ag [0] (Ap9 r) rfl rfl Zq1 rfl rfl rfl ?_;rintro x T1 ⟨rfl,rfl⟩;refine⟨rfl,?_⟩;exact⟨trivial,rfl,rfl,rfl,rfl⟩
theorem Aqa (l:List PieceT)(hl:l.length≤1000000)(hp: ∀p∈l,p.put.length≤1000000000):Pure Tryz.prog 146 [piecesV l] (λx=>x=piecesV (normR l)):=by
 refine Aj (Ad 60 Tryz.func146 rfl rfl rfl λB=> ?_);show CallThen _ _ _ _ _ _;refine Aa (J5 l hl hp) rfl ?_;rintro x rfl;unfold normR;refine⟨λg1=>go 60 ?_,λg1=>go 60 ?_⟩
 ·have g1:rightP l=false:=by simpa using g1
  rw[g1];exact⟨trivial,rfl,rfl,rfl,piecesV [],Wk.nil 3,rfl,rfl⟩
 have ra:rightP l=true:=by simpa using g1
 rw[ra];obtain⟨na,sa⟩:=Ch ra;have la:=Da na;show CallThen _ _ _ _ _ _;refine Ag [] (Rl l na (by omega) (by omega)) rfl rfl trivial rfl rfl rfl ?_;rintro x T1 ⟨ga,ka,rfl,rfl⟩;refine⟨rfl,?_⟩;exact⟨trivial,rfl,rfl,rfl,by simp,rfl,piecesV (normP l),.refl _,rfl,rfl⟩
def ComposeV (r:List PieceT×Int):V:=.tup [piecesV r.1,.int .i64 r.2]
theorem composeZ {e:Int}{R:List PieceT×Int}(h:R=([],e)): ∃y,Wk (.tup [.nilsl,.int .i64 e]) y∧y.pureB=true∧y=ComposeV R:=⟨ComposeV ([],e),Wk.tup ⟨Wk.nil 3,.refl _,trivial⟩,rfl,by rw[h]⟩
structure CpI where
 f:Nat
 s:Cp
 d1:List PieceT
 d2:List PieceT
 gx:Nat
def cpT (j1 j2:HObj)(ga gb:Nat)(i:CpI):Heap:=
 [some j1,some (rowVec i.d1 i.s.p ga),some j2,some (rowVec i.d2 i.s.q gb),some (boxAt 1 i.d1 i.s.p ga),some (boxAt 3 i.d2 i.s.q gb),some (mkAt 7 i.s.x i.gx),some (mkVec i.s.x i.gx)]
theorem Cq (a b:Int):(if b<a then b else a)=min a b:=by omega
theorem Cr (d r:List PieceT):(((d++r).map pieceV).drop d.length).take r.length=r.map pieceV:=by
 rw[Asr,Atm (by simp),At9 (by simp),Ar9,Ars (by simp)]
theorem Be: ∀l:List PieceT,V.apartL [] (l.map pieceV)=true
 | []=>rfl
 |p::l=>by rw[Asa,V.apartL,Be l];rfl
end Bow
namespace Bow
open Go
section
variable {c:Cx} {ops:Array Oper} {i:Nat} {o:Oper} {rest:List Nat} {k:List Item} {E:Env} {T:Heap}
theorem U6 {t t' e:TypeId}{x:Operand}{off:Nat}{cs:List V}(n:Nat)(ho:lget ops.toList i=some o)(hg:o.guard=none)(hop:o.op=.binOp .eql t x (.const (.pointer none)) t')(hx:opd E x=.iptr cs off)(ht:tyU c.P t=some (.pointer e))
  (h:putE c.nt o.dst .ff E False λE'=>evp c n (.inRegion ops rest::k) E' T):Goes c (.inRegion ops (i::rest)::k) E T:=by
 refine Dr n ho hg hop (OpTo.still λo hop w β H m a hs=>⟨.bool false,?_,.ff⟩) (λcl h=>by cases h) h;have hr:=Ae hs x;simp only[hx,V.conv] at hr;generalize hq:a.eval x=q at hr;cases hr with
 |iptr _ _ ad vals hown hlt hc hr=>
  have e2:a.eval (.const (.pointer none))=.pointer none:=rfl;have hgd:(eqGuard .eql t x (.const (.pointer none)) (.pointer (some (ad.add off))) (.pointer none)).run c.P w=.ok () w:=by simp[eqGuard]
  simp only[execOp,hop,hq,e2,Sem.run_bind,hgd,Result.andThen_ok,(Ko (Al ht) (some (ad.add off)) w).1];rfl
theorem Agp {t t' e:TypeId}{x:Operand}{kb off j s:Nat}{cs:List V}{oj:Oper}(n:Nat)(ho:lget ops.toList i=some o)(hg:o.guard=some (j,false))(hoj:lget ops.toList j=some oj)(hdj:oj.dst=some s)(hsj:lk E s=.ff)(hop:o.op=.binOp .eql t x (.const (.pointer none)) t')(hx:opd E x=.ptr (.loc kb) off)(hk:lget T kb=some (some (.box cs)))(ht:tyU c.P t=some (.pointer e))
  (h:putE c.nt o.dst .ff E False λE'=>evp c n (.inRegion ops rest::k) E' T):Goes c (.inRegion ops (i::rest)::k) E T:=by
 rw[Af] at hk;rw[Af,Asm] at ho hoj;obtain⟨E',h,hd⟩:=(D8 h).resolve_left id;refine Ls (u:=.ff) (T':=T) ho (λw β H m a hs=> ?_) ?_ (λcl hc=>by rw[hop] at hc;cases hc) hd (Av _ _ _ _ _ h)
 ·have hv:a.tmps.getD s Go.undef=.bool false:=by
   have:=Ae hs (.tmp s);simp only[opd,hsj] at this;exact Kq this
  simp only[Region.wanted,hg,F8 hoj hdj,hv];rfl
 ·refine OpTo.still λo2 hop2 w β H m a hs=>⟨.bool false,?_,.ff⟩;rw[hop] at hop2;have hr:=Ae hs x;obtain⟨r,hrm,hH⟩:=hs.at hk;simp only[hx,V.conv,Ref.conv,hrm] at hr;generalize hq:a.eval x=q at hr;cases hr with
  |ptrLive _ _ b N cs' hH' hβ=>
   have e2:a.eval (.const (.pointer none))=.pointer none:=rfl;have hgd:(eqGuard .eql t x (.const (.pointer none)) (.pointer (some ⟨b,off,none⟩)) (.pointer none)).run c.P w=.ok () w:=by simp[eqGuard]
   simp only[execOp,hop2,hq,e2,Sem.run_bind,hgd,Result.andThen_ok,(Ko (Al ht) (some ⟨b,off,none⟩) w).1];rfl
  |ptrDead _ _ _ hd=>rw[hH] at hd;cases hd
end
def HTo (T T':Heap):Prop:= ∀(imps:List Nat) (nt:Nat) (w:World) (β:Nat->Loc) (H:Heap) (m:List Nat) (B:Base) (a:Act),SRel imps nt w β H m ⟨[],T,B,[]⟩ a-> ∃(β':Nat->Loc) (H':Heap) (m':List Nat),SRel imps nt w β' H' m' ⟨[],T',B,[]⟩ a∧Fr w β H w β' H'∧m<+:m'
theorem HTo.refl (T:Heap):HTo T T:=λ_ _ _ β H m _ _ h=>⟨β,H,m,h,Fr.refl _ _ _,Ar6 _⟩
theorem HTo.trans {T T' T'':Heap}(h:HTo T T')(k:HTo T' T''):HTo T T'':=λimps nt w β H m B a hs=>by
 obtain⟨β1,H1,m1,a1,a2,a3⟩:=h imps nt w β H m B a hs;obtain⟨β2,H2,m2,b1,b2,b3⟩:=k imps nt w β1 H1 m1 B a a1;exact⟨β2,H2,m2,b1,a2.trans b2,a3.trans b3⟩
theorem HTo.ownCell {T:Heap}{cs:List V}(kb j sz:Nat)(hk:T[kb]?=some (some (.box cs)))(hj:cs[j]?=some .nilsl):HTo T (List.set (T++ [some (HObj.vec 0 sz [])]) kb (some (HObj.box (cs.set j (.osl (.loc T.length) 0 0 0))))):=by
 intro imps nt w β H m B a hs;obtain⟨β',H',k1,k2,k3⟩:=hs.newNil 0 sz none;have hk2:(T++ [some (HObj.vec 0 sz [])])[kb]?=some (some (.box cs)):=by rw[Aq9 (Ab hk)];exact hk
 obtain⟨r,hr,hH⟩:=k1.at hk2;have hob:=k1.hrel.obj r _ hH;have hfr:Fr w β' H' w β' (H'.set r (some ((HObj.box (cs.set j (.osl (.loc T.length) 0 0 0))).conv (m++ [H.length])))):=Fr.swap hH trivial;have hrel:HRel w β' (H'.set r (some ((HObj.box (cs.set j (.osl (.loc T.length) 0 0 0))).conv (m++ [H.length])))):=by
  refine k1.hrel.swap hH trivial ?_;simp only[HObj.conv];cases hβ:β' r with
  |none=>trivial
  |nil=>rw[hβ] at hob;exact hob
  |blk bb N=>
   rw[hβ] at hob;obtain⟨vs,e,q1,q2,q3,q4⟩:=hob;refine⟨vs,e,q1,q2,by rw[Fy,Atp];exact q3,λi x v hi hv=> ?_⟩;rw[Fy,As3] at hi;split at hi
   ·rename_i hji;subst hji;split at hi
    ·injection hi with hi
     subst hi;have h0:=q4 j .nilsl v (by rw[Kn,hj];rfl) hv;cases h0;exact k3.mono hfr
    ·cases hi
   ·exact(q4 i x v hi hv).mono hfr
 have hset:=k1.setAt (o':=some (.box (cs.set j (.osl (.loc T.length) 0 0 0)))) (w':=w) hr (λo1 e1=>by
   injection e1 with e1
   subst e1;have hm:m.length=T.length:=hs.mlen;have hsc:=hs.scT kb _ hk;show V.scL _ _;rw[V.scL_iff];have hsc':=(V.scL_iff _ _).1 hsc;intro v hv
   rcases Atw hv with hv|hv
   ·exact V.sc_mono (by simp;omega) v (hsc' v hv)
   ·subst hv;show T.length< (m++ [H.length]).length;simp only[Arb,Aut];omega)
  (λhm=>absurd hm (k1.notD hk2 (by simp))) hfr hrel
 exact⟨β',_,m++ [H.length],hset,k2.trans hfr,Atl _ _⟩
theorem HTo.wkCell {T:Heap}{cs:List V}{x y:V}(kb j:Nat)(hk:T[kb]?=some (some (.box cs)))(hj:cs[j]?=some x)(hx:x.pureB=true)(hy:y.pureB=true)(hw:Wk x y):HTo T (T.set kb (some (.box (cs.set j y)))):=by
 intro imps nt w β H m B a hs;obtain⟨r,hr,hH⟩:=hs.at hk;have hob:=hs.hrel.obj r _ hH;have hfr:Fr w β H w β (H.set r (some ((HObj.box (cs.set j y)).conv m))):=Fr.swap hH trivial;have hrel:HRel w β (H.set r (some ((HObj.box (cs.set j y)).conv m))):=by
  refine hs.hrel.swap hH trivial ?_;simp only[HObj.conv];cases hβ:β r with
  |none=>trivial
  |nil=>rw[hβ] at hob;exact hob
  |blk bb N=>
   rw[hβ] at hob;obtain⟨vs,e,q1,q2,q3,q4⟩:=hob;refine⟨vs,e,q1,q2,by rw[Fy,Atp];exact q3,λi z v hi hv=> ?_⟩;rw[Fy,As3] at hi;split at hi
   ·rename_i hji;subst hji;split at hi
    ·injection hi with hi
     subst hi;have h0:=q4 j _ v (by rw[Kn,hj];rfl) hv;rw[Ao _ _ hx] at h0;rw[Ao _ _ hy];exact(hw w β H v h0).mono hfr
    ·cases hi
   ·exact(q4 i z v hi hv).mono hfr
 have hset:=hs.setAt (o':=some (.box (cs.set j y))) (w':=w) hr (λo1 e1=>by
   injection e1 with e1
   subst e1;have hm:m.length=T.length:=hs.mlen;have hsc:=hs.scT kb _ hk;show V.scL _ _;rw[V.scL_iff];have hsc':=(V.scL_iff _ _).1 hsc;intro v hv
   rcases Atw hv with hv|hv
   ·exact V.sc_mono (by simp;omega) v (hsc' v hv)
   ·subst hv;exact pureSc _ _ hy)
  (λhm=>absurd hm (hs.notD hk (by simp))) hfr hrel
 exact⟨β,_,m,hset,hfr,Ar6 _⟩
theorem HTo.into {T:Heap}{cs xs ys:List V}{g g2 sz sz2 n:Nat}(kb j jn k:Nat)(hkb:T[kb]?=some (some (.box cs)))(hcj:cs[j]?=some (.osl (.loc jn) g 0 n))(hjn:T[jn]?=some (some (.vec g sz xs)))(hk:T[k]?=some (some (.vec g2 sz2 ys)))(hs2:Nat.beq sz2 0=false)(hne:Nat.beq k jn=false)(hn:n≤xs.length):
  HTo T (((T.set k (some (.vec (bump g2) sz (xs.take n)))).set jn none).set kb (some (.box (cs.set j (.osl (.loc k) (bump g2) 0 n))))):=by
 have hne:k≠jn:=Aun hne;have hs2:sz2≠0:=Aun hs2;intro imps nt w β H m B a hs;obtain⟨rk,hmk,hHk⟩:=hs.at hk;obtain⟨rj,hmj,hHj⟩:=hs.at hjn;obtain⟨k1,k2⟩:=hs.takeOver hk hs2 hjn hne hmk hmj hn;have hkb1:kb≠k:=λe=>by rw[e,hk] at hkb;cases hkb
 have hkb2:kb≠jn:=λe=>by rw[e,hjn] at hkb;cases hkb
 have hk2:((T.set k (some (.vec (bump g2) sz (xs.take n)))).set jn none)[kb]?=some (some (.box cs)):=by
  rw[Arj (λx=>hkb2 x.symm),Arj (λx=>hkb1 x.symm)];exact hkb
 obtain⟨r,hr,hH⟩:=k1.at hk2;have hr0:=hs.loc kb r _ hr hkb;have hrk:(upd β rk (β rj)) r=β r:=Am λe=>hkb1 (hs.inj hr (e▸hmk));have hob0:=hs.hrel.obj r _ hr0;have hob:=k1.hrel.obj r _ hH;have hrkl:=hs.lt hmk;have hrne:rk≠rj:=λe=>hne (hs.inj hmk (by rw[e];exact hmj));generalize hβ1:upd β rk (β rj)=β1 at*;generalize hH1:(H.set rk (some (.vec (bump g2) sz (xs.take n)))).set rj none=H1 at*;have hfr:Fr w β1 H1 w β1 (H1.set r (some ((HObj.box (cs.set j (.osl (.loc k) (bump g2) 0 n))).conv m))):=Fr.swap hH trivial;have hnew:H1[rk]?=some (some (.vec (bump g2) sz (xs.take n))):=by
  rw[←hH1,Arj (λx=>hrne x.symm)];simp[hrkl]
 have hrep: ∀v,Rep w β H ((V.osl (.loc jn) g 0 n).conv m) v->Rep w β1 H1 ((V.osl (.loc k) (bump g2) 0 n).conv m) v:=λv hv=>by
  have hβk:β1 rk=β rj:=by rw[←hβ1];exact Aq _ _ _
  simp only[V.conv,Ref.conv,hmj] at hv;simp only[V.conv,Ref.conv,hmk];have hHj:H[rj]?=some (some (.vec g sz xs)):=hHj;cases hv with
  |oslNil _ _ sz2 xs2 ad hH' hβ=>exact .oslNil rk _ sz _ _ hnew (hβk.trans hβ)
  |oslBlk _ _ _ _ sz2 xs2 b N ad cap hH' hβ hl hN hcap ha hlen=>
   rw[hHj] at hH';injection hH' with hH'
   injection hH' with hH'
   injection hH' with _ e1 e2
   subst e1 e2;exact .oslBlk rk _ 0 n sz _ b N _ _ hnew (hβk.trans hβ) hl hN hcap ha (by simp;omega)
  |oslStale _ _ _ _ g' sz' xs' _ hH' hg=>
   rw[hHj] at hH';injection hH' with hH'
   injection hH' with hH'
   injection hH' with e0 _ _
   omega
  |oslDead _ _ _ _ _ hd=>rw[hHj] at hd;cases hd
 have hrel:HRel w β1 (H1.set r (some ((HObj.box (cs.set j (.osl (.loc k) (bump g2) 0 n))).conv m))):=by
  refine k1.hrel.swap hH trivial ?_;simp only[HObj.conv] at hob0 ⊢;rw[hrk];rw[hrk] at hob;cases hβ:β r with
  |none=>trivial
  |nil=>rw[hβ] at hob0;exact hob0
  |blk bb N=>
   rw[hβ] at hob hob0;obtain⟨vs,e,q1,q2,q3,q4⟩:=hob;obtain⟨vs',e',p1,p2,p3,p4⟩:=hob0;rw[q1] at p1;injection p1 with p1
   injection p1 with p1 _ _
   subst p1;refine⟨vs,e,q1,q2,by rw[Fy,Atp];exact q3,λi x v hi hv=> ?_⟩;rw[Fy,As3] at hi;split at hi
   ·rename_i hji;subst hji;split at hi
    ·injection hi with hi
     subst hi;have h0:=p4 j _ v (by rw[Kn,hcj];rfl) hv;exact(hrep v h0).mono hfr
    ·cases hi
   ·exact(q4 i x v hi hv).mono hfr
 have hset:=k1.setAt (o':=some (.box (cs.set j (.osl (.loc k) (bump g2) 0 n)))) (w':=w) hr (λo1 e1=>by
   injection e1 with e1
   subst e1;have hm:m.length=T.length:=hs.mlen;have hsc:=hs.scT kb _ hkb;show V.scL _ _;rw[V.scL_iff];have hsc':=(V.scL_iff _ _).1 hsc;intro v hv
   rcases Atw hv with hv|hv
   ·exact V.sc_mono (by simp;omega) v (hsc' v hv)
   ·subst hv;show k<m.length;exact Ab hmk)
  (λhm=>absurd hm (k1.notD hk2 (by simp))) hfr hrel
 exact⟨β1,_,m,hset,k2.trans hfr,Ar6 _⟩
theorem L9 {P:Program}{f:FuncId}{T:Heap}{args:List V}{Q:V->Heap->Prop}(h:Fun P f T args λx T'=> ∃T'',HTo T' T''∧Q x T''):Fun P f T args Q:=by
 unfold Fun at*;refine⟨h.1,λw β H m B vals cs hs hl hr=> ?_⟩;obtain⟨x,T',v,w',β',H',m',fr,⟨T'',hto,hq⟩,k1,k2,k3,k4⟩:=h.2 w β H m B vals cs hs hl hr;obtain⟨β2,H2,m2,e1,e2,⟨l,rfl⟩⟩:=hto m 0 w' β' H' m' B bare k1;refine⟨x,T'',v,w',β2,H2,m'++l,fr,hq,e1,k2.trans e2,?_,k4⟩;rw[V.conv_ext (Ara _) x (De x k3)];exact k3.mono e2
theorem Ol {P:Program}{f:FuncId}{T:Heap}{args:List V}{Q:V->Heap->Prop}(h:Fun P f T args λx T'=>frz x T' False λy T''=>y.pureB=true∧Q y T''):Fun P f T args Q:=by
 unfold Fun at*;refine⟨h.1,λw β H m B vals cs hs hl hr=> ?_⟩;obtain⟨x,T',v,w',β',H',m',fr,hq,k1,k2,k3,k4⟩:=h.2 w β H m B vals cs hs hl hr;have hfz:frzAll [x] T' False λvs T1=>match vs with
   | [y]=>y.pureB=true∧Q y T1
   |_=>False:=by
  rw[frzAll,Bq];exact hq
 rcases Dq (F:=False) _ _ _ hfz with h'| ⟨vs',T1,hk,hto⟩
 ·exact h'.elim
 match vs',hk,hto with
 | [y],hk,hto=>
  obtain⟨H1,q1,q2,q3⟩:=hto.2 _ _ _ _ _ _ _ _ _ _ k1;exact⟨y,T1,v,w',β',H1,m',fr,hk.2,q1,k2.trans q2,by rw[Ao _ _ hk.1];exact q3 0 _ _ _ rfl rfl k3,k4⟩
section
variable {c:Cx} {E:Env} {T:Heap} {ops:Array Oper} {i:Nat} {rest:List Nat} {k:List Item} {o:Oper}
theorem Aei {t e:TypeId}{x hi:Operand}{kk:IntKind}{ti:TypeInfo}{kn g off l sz h j s:Nat}{xs:List V}{oj:Oper}(n:Nat)(ho:lget ops.toList i=some o)(hg:o.guard=some (j,true))(hoj:lget ops.toList j=some oj)(hdj:oj.dst=some s)(hsj:lk E s=.tt)(hop:o.op=.slice t x none (some hi) none)(hx:opd E x=.osl (.loc kn) g off l)(hh:opd E hi=.int kk h)(ht:tyU c.P t=some (.slice e))(hi':tyI c.P e=some ti)
  (hk:lget T kn=some (some (.vec g sz xs))) (hle:h≤l)
  (hn:putE c.nt o.dst (.osl (.loc kn) g off h) E False λE'=>evp c n (.inRegion ops rest::k) E' T):Goes c (.inRegion ops (i::rest)::k) E T:=by
 rw[Af] at hk;rw[Af,Asm] at ho hoj;obtain⟨E',h',hd⟩:=(D8 hn).resolve_left id;refine Ls (u:=.osl (.loc kn) g off h) (T':=T) ho (λw β H m a hs=> ?_) ?_ (λcl hc=>by rw[hop] at hc;cases hc) hd (Av _ _ _ _ _ h')
 ·have hv:a.tmps.getD s Go.undef=.bool true:=by
   have:=Ae hs (.tmp s);simp only[opd,hsj] at this;exact Kp this
  simp only[Region.wanted,hg,F8 hoj hdj,hv];rfl
 ·rw[hop];exact Agr hx hh ht hi' hk hle
end
theorem Ax {c:Cx}{g:FuncId}{args args':List V}{E:Env}{T T1:Heap}{K:V->St->Prop}{Q:V->Heap->Prop}(ks:List Nat)(hf:Fun c.P g T1 args' Q)(hnd:nodupB ks=true)(hlt:subB ks T.length=true)(ho:objsAre ks T ks T1)(ha:args=V.renL ks args')(hsc:V.scBL ks.length args'=true)
  (hD:c.D.all (λk=> !memN ks k)=true)
  (h: ∀x T1',Q x T1'->allLive (ldrop T1' ks.length)=true∧ ∃(T2:Heap) (y:V),setAll (subρ ks T.length T1') ks T1' T=T2∧x.ren (subρ ks T.length T1')=y∧K y ⟨E,T2,c.B,c.D⟩):CallThen c g args E T K:=
 Ag ks hf hnd hlt ho ha hsc hD λx T1' hq=>by
  obtain⟨h1,T2,y,rfl,rfl,h2⟩:=h x T1' hq;exact⟨h1,by rw[I6];exact h2⟩
section
variable {c:Cx} {ops:Array Oper} {i:Nat} {o:Oper} {E:Env} {T:Heap} {gs:List Tmp}
theorem F0 {f:Operand}{args:Array Operand}{ts:Array TypeId}{g:FuncId}{first cap args':List V}{x:V}(k0 k1 k2:Nat){a0 a1 a2 b0 b1 b2:HObj}(hg:Guarded ops o E gs true)(ho:ops[i]?=some o)
  (hop:o.op=.call {callee:=.value f,args:=args,argTypes:=ts}) (hf:opd E f=.fn (.func g) first cap) (h0:T[k0]?=some (some (a0.ren [k0,k1,k2]))) (h1:T[k1]?=some (some (a1.ren [k0,k1,k2]))) (h2:T[k2]?=some (some (a2.ren [k0,k1,k2])))
  (hnd:nodupB [k0,k1,k2]=true) (hD:c.D.all (λk=> !memN [k0,k1,k2] k)=true) (hs:(a0.scB 3&& (a1.scB 3&&a2.scB 3))=true)
  (hfun:Fun c.P g [some a0,some a1,some a2] args' (λy T1=>y=x∧T1=[some b0,some b1,some b2])) (ha:first++args.toList.map (opd E)++cap=V.renL [k0,k1,k2] args') (hsc:V.scBL 3 args'=true) (hx: ∀ρ,x.ren ρ=x):
  Fact c ops i E T ⟨o.dst,gs++tmpsOf o.op.operands.toList,[k0,k1,k2],x,[(k0,some (b0.ren [k0,k1,k2])),(k1,some (b1.ren [k0,k1,k2])),(k2,some (b2.ren [k0,k1,k2]))],none⟩:=by
 simp only[Aq6] at hs;refine Jt ho hg hop hf λE' T' hl hT'=> ?_;have e0:=(hT' k0 (by simp)).trans h0;have e1:=(hT' k1 (by simp)).trans h1;have e2:=(hT' k2 (by simp)).trans h2;have l0:=Ab e0;have l1:=Ab e1;have l2:=Ab e2;rw[ha];refine Ag [k0,k1,k2] hfun hnd (by simp only[subB,Avs,Aq6,Nat.blt,Nat.ble_eq];exact⟨l0,l1,l2⟩) ⟨⟨by rw[Af];exact e0,hs.1⟩,⟨by rw[Af];exact e1,hs.2.1⟩,⟨by rw[Af];exact e2,hs.2.2⟩,trivial⟩ rfl hsc hD ?_;rintro y T1 ⟨rfl,rfl⟩;refine⟨rfl,?_⟩;rw[I6];refine⟨hx _,?_⟩;simp only[setAll,omap,subρ,lcount,Aub,rangeFrom,Asc,Ate,app]
theorem Ait {t t':TypeId}{x y:Operand}{ik:IntKind}{a b:Int}{rest:List Nat}{k:List Item}(n:Nat)(ho:lget ops.toList i=some o)(hg:o.guard=none)(hop:o.op=.binOp .rem t x y t')(hx:opd E x=.int ik a)(hy:opd E y=.int ik b)(hb:b≠0)
  (h:putE c.nt o.dst (.int ik (a.tmod b)) E False λE'=>evp c n (.inRegion ops rest::k) E' T):Goes c (.inRegion ops (i::rest)::k) E T:=by
 refine Dr n ho hg hop (λo hop w β H m a hs=> ?_) (λcl h=>by cases h) h;have e1:=A8 (by have:=Ae hs x;rwa [hx] at this);have e2:=A8 (by have:=Ae hs y;rwa [hy] at this);refine⟨_,_,w,β,H,m,?_,.inl rfl,hs,Fr.refl w β H,.int _ _,Ar6 m⟩;simp[execOp,hop,e1,e2,eqGuard,binOp,Op.intDiv,hb]
end
theorem Agt {c:Cx}{ops:Array Oper}{i:Nat}{o:Oper}{E:Env}{T:Heap}{t t':TypeId}{x y:Operand}{ik:IntKind}{a b:Int}{rest:List Nat}{k:List Item}{j s:Nat}{oj:Oper}(n:Nat)(ho:lget ops.toList i=some o)(hg:o.guard=some (j,false))(hoj:lget ops.toList j=some oj)(hdj:oj.dst=some s)(hsj:lk E s=.ff)
  (hop:o.op=.binOp .rem t x y t') (hx:opd E x=.int ik a) (hy:opd E y=.int ik b) (hb:b≠0)
  (h:putE c.nt o.dst (.int ik (a.tmod b)) E False λE'=>evp c n (.inRegion ops rest::k) E' T):Goes c (.inRegion ops (i::rest)::k) E T:=by
 rw[Af,Asm] at ho hoj;obtain⟨E',h,hd⟩:=(D8 h).resolve_left id;refine Ls (u:=.int ik (a.tmod b)) (T':=T) ho (λw β H m a hs=> ?_) ?_ (λcl hc=>by rw[hop] at hc;cases hc) hd (Av _ _ _ _ _ h)
 ·have hv:a.tmps.getD s Go.undef=.bool false:=by
   have:=Ae hs (.tmp s);simp only[opd,hsj] at this;exact Kq this
  simp only[Region.wanted,hg,F8 hoj hdj,hv];rfl
 ·intro o2 hop2 w β H m act hs;rw[hop] at hop2;have e1:=A8 (by have:=Ae hs x;rwa [hx] at this);have e2:=A8 (by have:=Ae hs y;rwa [hy] at this);refine⟨_,_,w,β,H,m,?_,.inl rfl,hs,Fr.refl w β H,.int _ _,Ar6 m⟩;simp[execOp,hop2,e1,e2,eqGuard,binOp,Op.intDiv,hb]
theorem Abk {c:Cx}{ops:Array Oper}{i:Nat}{o:Oper}{E:Env}{T:Heap}{t t' e:TypeId}{x:Operand}{rest:List Nat}{k:List Item}{j s:Nat}{oj:Oper}(n:Nat)(ho:lget ops.toList i=some o)(hg:o.guard=some (j,true))(hoj:lget ops.toList j=some oj)(hdj:oj.dst=some s)(hsj:lk E s=.tt)
  (hop:o.op=.binOp .eql t x (.const (.pointer none)) t') (hx:opd E x=.nilp) (ht:tyU c.P t=some (.pointer e))
  (h:putE c.nt o.dst .tt E False λE'=>evp c n (.inRegion ops rest::k) E' T):Goes c (.inRegion ops (i::rest)::k) E T:=by
 rw[Af,Asm] at ho hoj;obtain⟨E',h,hd⟩:=(D8 h).resolve_left id;refine Ls (u:=.tt) (T':=T) ho (λw β H m a hs=> ?_) ?_ (λcl hc=>by rw[hop] at hc;cases hc) hd (Av _ _ _ _ _ h)
 ·have hv:a.tmps.getD s Go.undef=.bool true:=by
   have:=Ae hs (.tmp s);simp only[opd,hsj] at this;exact Kp this
  simp only[Region.wanted,hg,F8 hoj hdj,hv];rfl
 ·refine OpTo.still λo2 hop2 w β H m a hs=>⟨.bool true,?_,.tt⟩;rw[hop] at hop2;have hr:=Ae hs x;simp only[hx,V.conv] at hr;generalize hq:a.eval x=q at hr;cases hr;have e2:a.eval (.const (.pointer none))=.pointer none:=rfl;have hgd:(eqGuard .eql t x (.const (.pointer none)) (.pointer none) (.pointer none)).run c.P w=.ok () w:=by simp[eqGuard]
  simp only[execOp,hop2,hq,e2,Sem.run_bind,hgd,Result.andThen_ok,(Ko (Al ht) none w).1];rfl
theorem Abl {c:Cx}{todo:List Item}{E:Env}{T:Heap}(T':Heap)(hD:c.D=[])(h:HTo T T')(k:Goes c todo E T'):Goes c todo E T:=by
 refine Bw λw β H m a b cs hs _ _ _=> ?_;have hs0:SRel c.imps c.nt w β H m ⟨[],T,c.B,[]⟩ a:=⟨hs.hrel,hs.size,λk=>by simp[lk,V.conv];exact .undef _,hs.mlen,hs.nodup,hs.loc,hs.imp,hs.base,hs.fut,hs.own,by simp,hs.scT,by have:=hs.defs;rw[hD] at this;exact this,by simp⟩;obtain⟨β',H',m',k1,k2,⟨l,rfl⟩⟩:=h _ _ _ _ _ _ _ _ hs0;refine⟨w,β',H',m++l,a,todo,⟨E,T',c.B,c.D⟩,.refl _ _,⟨k1.hrel,k1.size,λi=> ?_,k1.mlen,k1.nodup,k1.loc,k1.imp,k1.base,k1.fut,k1.own,λp hp=> ?_,k1.scT,by rw[hD];exact k1.defs,by rw[hD];simp⟩,k2,k⟩
 ·have h1:=hs.env i;rw[V.conv_ext (Ara _) (lk E i) (De (lk E i) h1)];exact h1.mono k2
 ·refine V.sc_mono ?_ _ (hs.scE p hp);have e1:=hs.mlen;have e2:=k1.mlen;rw[Arb] at e2;simp only at e1 e2 ⊢;omega
theorem Y0 {c:Cx}{i:Item}{k:List Item}{E:Env}{T:Heap}{ι:Type}(Inv:ι->Prop)(Eo:ι->Env)(To:ι->Heap)(hD: ∀i,c.D.all (Nat.blt · (To i).length)=true)(hi: ∀i,Nat.ble c.imps.length (To i).length=true)(hJ: ∀j,Inv j->Goes c k (Eo j) (To j))
  (h:(∀j E' T',Inv j∧envIs (To j).length E' (Eo j)∧heapIs (To j).length T' (To j)->Goes c k E' T')->Goes c (i::k) E T):Goes c (i::k) E T:=
 h λj _ _ ⟨h1,h2,h3⟩=>Ft (Eo j) (To j) (hD j) (Arp (hi j)) h2 h3 (hJ j h1)
end Bow
namespace Bow
open Go Go.Proofs
theorem Akb (a b:List PieceT)(ha:a.length≤1000000)(hb:b.length≤1000000)(pa: ∀p∈a,p.put.length≤1000000000)(pb: ∀p∈b,p.put.length≤1000000000):
  Pure Tryz.prog 151 [piecesV a,piecesV b] (λx=>x=ComposeV (composeP a b)):=by
 obtain⟨R,hR⟩: ∃R,composeP a b=R:=⟨_,rfl⟩;rw[hR];refine Aj (Ad 60 Tryz.func151 rfl rfl rfl λB=> ?_);have bad:(rightP a=false∨rightP b=false)->R=([],2):=λh=>by
  rw[←hR];unfold composeP
  rcases h with h|h
  ·rw[h];rfl
  ·rw[h];cases rightP a<;>rfl
 show CallThen _ _ _ _ _ _;refine Aa (J5 a ha pa) rfl ?_;rintro x rfl;refine⟨λg1=>go 60 ?_,λg1=>go 60 ?_⟩
 ·exact⟨trivial,rfl,rfl,rfl,composeZ (bad (.inl (by simpa using g1)))⟩
 have ra:rightP a=true:=by simpa using g1
 show CallThen _ _ _ _ _ _;refine Aa (J5 b hb pb) rfl ?_;rintro x rfl;refine⟨λg2=>go 60 ?_,λg2=>go 60 ?_⟩
 ·exact⟨trivial,rfl,rfl,rfl,composeZ (bad (.inr (by simpa using g2)))⟩
 have rb:rightP b=true:=by simpa using g2
 obtain⟨na,sa⟩:=Ch ra;obtain⟨nb,sb⟩:=Ch rb;have la:=Da na;have lb:=Da nb;show CallThen _ _ _ _ _ _;refine Ag [] (Rl a na (by omega) (by omega)) rfl rfl trivial rfl rfl rfl ?_;rintro x T1 ⟨ga,ka,rfl,rfl⟩;refine⟨rfl,?_⟩;show CallThen _ _ _ _ _ _;refine Ag [] (Rl b nb (by omega) (by omega)) rfl rfl trivial rfl rfl rfl ?_;rintro x T1 ⟨gb,kb,rfl,rfl⟩;refine⟨rfl,?_⟩;show Goes _ _ _ _;refine C9 6 0 3 rfl rfl ?_;obtain⟨fin,hfin⟩: ∃fin,cpGo ((cpM ⟨normP a,normP b,Mk.nil,[]⟩).toNat+1) ⟨normP a,normP b,Mk.nil,[]⟩=fin:=⟨_,rfl⟩;have good:R=bif !rightP fin.x.l then([],3) else(fin.x.l,0):=by
  rw[←hR];unfold composeP;rw[ra,rb,hfin];rfl
 obtain⟨ok0,_⟩:=Ue ra rb;refine Ak (ι:=CpI) (λi=>i.s.Ok∧(cpM i.s).toNat<i.f∧cpGo i.f i.s=fin) (λi=>i.f)
  (λi=>[(9,.str i.s.fr),(6,.ptr (.loc 4) 0),(7,.ptr (.loc 5) 0),(8,.ptr (.loc 6) 0)])
  (cpT (.box [.osl (.loc 1) ga 0 (normP a).length,.int .i64 ka]) (.box [.osl (.loc 3) gb 0 (normP b).length,.int .i64 kb]) ga gb)
  ⟨(cpM ⟨normP a,normP b,Mk.nil,[]⟩).toNat+1,⟨normP a,normP b,Mk.nil,[]⟩,[],[],0⟩ 60 (λ_=>rfl) (λ_=>rfl) ⟨⟨ok0,At7 _,hfin⟩,Zq4,
   Zq8⟩ ?_
 rintro⟨f,⟨p,q,x,fr⟩,d1,d2,gx⟩ ⟨k1,k2,k3⟩ next;simp only at k1 k2 k3;obtain⟨f,rfl⟩: ∃f',f=f'+1:=⟨f-1,by omega⟩;have hto:=cpTo ⟨p,q,x,fr⟩;have okp:=k1.p;have okq:=k1.q;have okx:=k1.x;have wx:=k1.w;have rp:=C6 okp.nn;have rq:=C6 okq.nn;have hcpM:cpM ⟨p,q,x,fr⟩=rowR p+rowR q+fr.length:=rfl;simp only at okp okq okx wx rp rq;have again: ∀(s':Cp) (d1' d2':List PieceT) (g':Nat),CpTo ⟨p,q,x,fr⟩ (true,s')-> ∀E T,envIs 8 E [(9,.str s'.fr),(6,.ptr (.loc 4) 0),(7,.ptr (.loc 5) 0),(8,.ptr (.loc 6) 0)]->
   heapIs 8 T (cpT (.box [.osl (.loc 1) ga 0 (normP a).length,.int .i64 ka]) (.box [.osl (.loc 3) gb 0 (normP b).length,.int .i64 kb]) ga gb ⟨f,s',d1',d2',g'⟩)->Goes _ _ E T:=λs' d1' d2' g' h2 E T hE hT=>by
  obtain⟨o1,o2,_,o4⟩:=R4 k1 h2;have o2:=o2 rfl;rw[Mx h2.eq] at k3;refine next ⟨f,s',d1',d2',g'⟩ E T ⟨⟨o1,?_,k3⟩,At7 _,hE,hT⟩;have o5:0≤cpM s':=by
   have:=C6 o1.p.nn;have:=C6 o1.q.nn;unfold cpM;omega
  simp only;omega
 have last: ∀s',CpTo ⟨p,q,x,fr⟩ (false,s')->fin=s':=λs' h2=>by
  rw[Mx h2.eq] at k3;exact k3.symm
 clear next k2 k3;cases hh:rowHas q with
 |true=>
  obtain⟨b1,b2⟩:=Mk.put_ok2 (s:=(rowPut q).1) okx;obtain⟨o1,o2,_,o4⟩:=Ea okq;have cq:=Mj d2 q gb;rw[hh] at cq;show CallThen _ _ _ _ _ _;refine Ag [3] cq rfl rfl Zq1 rfl rfl rfl ?_;rintro z T1 ⟨rfl,rfl⟩;refine⟨rfl,?_⟩;refine⟨λg3=>go 60 ?_,λg3=>(by cases g3)⟩;show CallThen _ _ _ _ _ _;refine Ag [6,7] (I3 x gx (rowPut q).1 okx (by omega) (by omega)) rfl rfl Zq2 rfl rfl rfl ?_;rintro z T1 ⟨g',rfl,rfl⟩;refine⟨rfl,?_⟩;show Goes _ _ _ _;refine again _ d1 d2 g' (CpTo.put (s:=⟨p,q,x,fr⟩) hh) _ _ Zq4 ⟨⟨rfl,rfl⟩,⟨rfl,rfl⟩,⟨rfl,rfl⟩,⟨rfl,rfl⟩,⟨rfl,rfl⟩,⟨?_,rfl⟩,⟨rfl,rfl⟩,⟨rfl,rfl⟩,trivial⟩;simp only[boxAt,Lh]
 |false=>
  have cq:=Mj d2 q gb;rw[Iy hh,hh] at cq;obtain⟨⟨u,p1⟩,hf⟩: ∃z,(bif fr.isEmpty then rowPut p else(fr,p))=z:=⟨_,rfl⟩;obtain⟨f1,f2,f3⟩:=D4 k1 hf;simp only at f2 f3;have wx0:0≤x.w:=by
   have:=Da okx.l;have:=okx.k;unfold Mk.w;omega
  obtain⟨⟨⟨n,gone,more⟩,q1⟩,hq⟩: ∃z,rowRun q=z:=⟨_,rfl⟩;obtain⟨q1ok,qis,q3,q4,q5,q6⟩:=Cz okq hq;have rp1:=C6 f1.nn;have cr:=Pv d2 q gb;rw[hq] at cr;have cp:=Mj d1 p ga;have hlp:p.length=p1.length:=by
   cases he:fr.isEmpty with
   |true=>rw[he,cond_true] at hf;rw[←Lh p,hf]
   |false=>rw[he,cond_false] at hf;injection hf with _ e;rw[e]
  have cl:Pure Tryz.prog 182 [piecesV q1] (λx=>x=.int .i64 n):=by
   have:=Aka q1;rw[Zx qis] at this;exact this
  obtain⟨k,hk⟩: ∃k:Int,k=min (bif more then n else(u.length:Int)) u.length:=⟨_,rfl⟩;obtain⟨⟨⟨m,dropped,any⟩,p2⟩,hp⟩: ∃z,rowRun p1=z:=⟨_,rfl⟩;obtain⟨p2ok,pis,p3,p4,p5,p6⟩:=Cz f1 hp;have cr1:=Pv d1 p1 ga;rw[hp] at cr1;have cl1:Pure Tryz.prog 182 [piecesV p2] (λx=>x=.int .i64 m):=by
   have:=Aka p2;rw[Zx pis] at this;exact this
  obtain⟨j,hj⟩: ∃j:Int,j=(bif !more then m else bif any then min n m else n):=⟨_,rfl⟩;have hj0:0≤j∧j≤1000000000000:=by rw[hj];cases more<;>cases any<;>simp only[Arm,Ash,cond_true,cond_false]<;>omega
  have rp2:=C6 p2ok.nn;have rq1:=C6 q1ok.nn;have hmw:dropped=true->m≤rowR p2:=λe=>by
   subst e;have e2:=(Fw pis).2.2 rfl;subst e2;have:=(B6 (n:=m) p2ok pis p5 λ_=>Arr _);have h2:=C6 this.1.nn;have h3:=this.2.1;simp only[cond_true] at h3;omega
  have h2n: ∀b:Bool,(!b)=true->b=false:=by decide
  have h2t: ∀b:Bool,(!b)=false->b=true:=by decide
  show CallThen _ _ _ _ _ _;refine Ag [3] cq rfl rfl Zq1 rfl rfl rfl ?_;rintro z T1 ⟨rfl,rfl⟩;refine⟨rfl,?_⟩;refine⟨λg3=>(by cases g3),λg3=>go 2 ?_⟩;refine Y0 (ι:=Unit) (λ_=>True) (λ_=>[(9,.str u),(6,.ptr (.loc 4) 0),(7,.ptr (.loc 5) 0),(8,.ptr (.loc 6) 0)]) (λ_=>cpT (.box [.osl (.loc 1) ga 0 (normP a).length,.int .i64 ka]) (.box [.osl (.loc 3) gb 0 (normP b).length,.int .i64 kb]) ga gb ⟨f,⟨p1,q,x,u⟩,d1,d2,gx⟩) (λ_=>rfl) (λ_=>rfl) ?_ ?_
  rotate_left
  ·intro tail;refine go 60 ?_
   by_cases he:fr=[]
   ·subst he;have hf':rowPut p=(u,p1):=hf;rw[hf'] at cp;refine⟨λ_=>go 8 ?_,λg4=>absurd rfl (of_decide_eq_false g4)⟩;refine Ag [1] cp rfl rfl Zq1 rfl rfl rfl ?_;rintro z T1 ⟨rfl,rfl⟩;refine⟨rfl,?_⟩;exact tail () _ _ ⟨trivial,Zq4,⟨⟨rfl,rfl⟩,⟨rfl,rfl⟩,⟨rfl,rfl⟩,⟨rfl,rfl⟩,⟨congrArg (λz=>some (HObj.box [V.osl (.loc 1) ga d1.length z])) hlp,rfl⟩,⟨rfl,rfl⟩,⟨rfl,rfl⟩,⟨rfl,rfl⟩,trivial⟩⟩
   ·have hemp:fr.isEmpty=false:=by simpa using he
    obtain⟨rfl,rfl⟩:u=fr∧p1=p:=by
     have hf0:=hf;rw[hemp,cond_false] at hf0;injection hf0 with e1 e2
     exact⟨e1.symm,e2.symm⟩
    refine⟨λg4=>absurd (of_decide_eq_true g4) he,λg4=>go 1 ?_⟩;exact tail () _ _ ⟨trivial,Zq4,Zq8⟩
  intro _ _;clear cp;replace hlp:p1.length=p1.length:=rfl;refine go 60 ?_;show CallThen _ _ _ _ _ _;refine Ag [5,3] cr rfl rfl Zq2 rfl rfl rfl ?_;rintro z T1 ⟨rfl,e2,-,rfl⟩;refine⟨rfl,?_⟩;refine⟨λg5=>go 60 ?_,λg5=>go 60 ?_⟩
  ·have hu:u≠[]:=by simpa using g5
   have hl:=Arw.2 hu;have hn1:=(Fw qis).1;have hk1:1≤k∧k≤u.length:=by
    rw[hk];cases more with
    |true=>have:=hn1 rfl;simp only[cond_true];omega
    |false=>simp only[cond_false];omega
   have hk2:(u.length:Int)≤300000000000:=by omega
   cases more with
   |true=>
    have ek:(if(u.length:Int)<n then(u.length:Int) else n)=k:=by rw[hk];exact Cq _ _
    refine⟨λg=>absurd (show false=true from g) Atc,λ_=>go 60 ?_⟩;cases gone with
    |true=>
     refine⟨λg=>absurd (show false=true from g) Atc,λ_=>go 60 ?_⟩;refine⟨by(try simp only);omega,by(try simp only);omega,Arr _,?_⟩;show Goes _ _ _ _;refine Ac [(3,false),(5,false)] 60 ?_;refine⟨[3],.int .i64 n,[],λgs hg=>Bl 3 [3] hg rfl rfl rfl cl (λT' hT=>⟨.cut ((hT 3 (by simp)).trans rfl) (by simp) (Be _) (Cr e2 q1),trivial⟩) rfl rfl,trivial,?_⟩;refine⟨[3],.tup [],[(3,some (rowVec e2 (rowTake (min k n) q1) gb))],λgs hg=>Ca 3 hg rfl rfl rfl rfl rfl (Bf e2 q1 gb (min k n) (by omega) q1ok.p) (congrArg (λz=>[V.osl (.loc 3) gb e2.length q1.length,V.int .i64 z]) ((Cq _ _).trans (congrArg (λz=>min z n) ek))) rfl (λ_=>rfl),trivial,?_⟩;refine⟨by kernel_rfl,?_⟩;show Goes _ _ _ _;refine again _ d1 e2 gx (CpTo.old (s:=⟨_,q,x,_⟩) u p1 q1 n true _ k hh hf hq hu hk) _ _ ⟨⟨?_,rfl⟩,⟨rfl,rfl⟩,⟨rfl,rfl⟩,⟨rfl,rfl⟩,trivial⟩ ⟨⟨rfl,rfl⟩,⟨rfl,rfl⟩,⟨rfl,rfl⟩,⟨rfl,rfl⟩,⟨congrArg (λz=>some (HObj.box [V.osl (.loc 1) ga d1.length z])) hlp,rfl⟩,⟨?_,rfl⟩,⟨rfl,rfl⟩,⟨rfl,rfl⟩,trivial⟩
     ·exact congrArg V.str ((congrArg (λz:Int=>(u.drop z.toNat).take (((u.length:Int)).toNat-z.toNat)) ek).trans (Ars (by simp)))
     ·show some (HObj.box [V.osl (.loc 3) gb e2.length q1.length])=some (boxAt 3 e2 (rowTake (min k n) q1) gb);rw[boxAt,Bh]
    |false=>
     refine⟨λ_=>go 60 ?_,λg=>absurd (show true=false from g) Atf.mp⟩;refine⟨Arr _,by(try simp only);omega,by(try simp only);omega,?_⟩;show CallThen _ _ _ _ _ _;refine Ag [6,7] (I3 x gx (u.take k.toNat) okx (by omega) (by rw[Ar1];omega)) rfl rfl Zq2 (congrArg (λz:Int=>[V.ptr (.loc 6) 0,V.str (u.take z.toNat)]) ek) rfl rfl ?_;rintro z T1 ⟨g',rfl,rfl⟩;refine⟨rfl,?_⟩;refine⟨by(try simp only);omega,by(try simp only);omega,Arr _,?_⟩;show Goes _ _ _ _;refine Ac [(3,false),(5,false)] 60 ?_;refine⟨[3],.int .i64 n,[],λgs hg=>Bl 3 [3] hg rfl rfl rfl cl (λT' hT=>⟨.cut ((hT 3 (by simp)).trans rfl) (by simp) (Be _) (Cr e2 q1),trivial⟩) rfl rfl,trivial,?_⟩;refine⟨[3],.tup [],[(3,some (rowVec e2 (rowTake (min k n) q1) gb))],λgs hg=>Ca 3 hg rfl rfl rfl rfl rfl (Bf e2 q1 gb (min k n) (by omega) q1ok.p) (congrArg (λz=>[V.osl (.loc 3) gb e2.length q1.length,V.int .i64 z]) ((Cq _ _).trans (congrArg (λz=>min z n) ek))) rfl (λ_=>rfl),trivial,?_⟩;refine⟨by kernel_rfl,?_⟩;show Goes _ _ _ _;refine again _ d1 e2 g' (CpTo.old (s:=⟨_,q,x,_⟩) u p1 q1 n false _ k hh hf hq hu hk) _ _ ⟨⟨?_,rfl⟩,⟨rfl,rfl⟩,⟨rfl,rfl⟩,⟨rfl,rfl⟩,trivial⟩ ⟨⟨rfl,rfl⟩,⟨rfl,rfl⟩,⟨rfl,rfl⟩,⟨rfl,rfl⟩,⟨congrArg (λz=>some (HObj.box [V.osl (.loc 1) ga d1.length z])) hlp,rfl⟩,⟨?_,rfl⟩,⟨rfl,rfl⟩,⟨rfl,rfl⟩,trivial⟩
     ·exact congrArg V.str ((congrArg (λz:Int=>(u.drop z.toNat).take (((u.length:Int)).toNat-z.toNat)) ek).trans (Ars (by simp)))
     ·show some (HObj.box [V.osl (.loc 3) gb e2.length q1.length])=some (boxAt 3 e2 (rowTake (min k n) q1) gb);rw[boxAt,Bh]
   |false=>
    have ek:(if(u.length:Int)<u.length then(u.length:Int) else u.length)=k:=by rw[hk];exact Cq _ _
    refine⟨λ_=>go 60 ?_,λg=>absurd (show true=false from g) Atf.mp⟩;cases gone with
    |true=>
     refine⟨λg=>absurd (show false=true from g) Atc,λ_=>go 60 ?_⟩;refine⟨by(try simp only);omega,by(try simp only);omega,Arr _,?_⟩;show Goes _ _ _ _;refine Ac [(3,false),(5,false)] 60 ?_;refine⟨[3],.int .i64 n,[],λgs hg=>Bl 3 [3] hg rfl rfl rfl cl (λT' hT=>⟨.cut ((hT 3 (by simp)).trans rfl) (by simp) (Be _) (Cr e2 q1),trivial⟩) rfl rfl,trivial,?_⟩;refine⟨[3],.tup [],[(3,some (rowVec e2 (rowTake (min k n) q1) gb))],λgs hg=>Ca 3 hg rfl rfl rfl rfl rfl (Bf e2 q1 gb (min k n) (by omega) q1ok.p) (congrArg (λz=>[V.osl (.loc 3) gb e2.length q1.length,V.int .i64 z]) ((Cq _ _).trans (congrArg (λz=>min z n) ek))) rfl (λ_=>rfl),trivial,?_⟩;refine⟨by kernel_rfl,?_⟩;show Goes _ _ _ _;refine again _ d1 e2 gx (CpTo.old (s:=⟨_,q,x,_⟩) u p1 q1 n true _ k hh hf hq hu hk) _ _ ⟨⟨?_,rfl⟩,⟨rfl,rfl⟩,⟨rfl,rfl⟩,⟨rfl,rfl⟩,trivial⟩ ⟨⟨rfl,rfl⟩,⟨rfl,rfl⟩,⟨rfl,rfl⟩,⟨rfl,rfl⟩,⟨congrArg (λz=>some (HObj.box [V.osl (.loc 1) ga d1.length z])) hlp,rfl⟩,⟨?_,rfl⟩,⟨rfl,rfl⟩,⟨rfl,rfl⟩,trivial⟩
     ·exact congrArg V.str ((congrArg (λz:Int=>(u.drop z.toNat).take (((u.length:Int)).toNat-z.toNat)) ek).trans (Ars (by simp)))
     ·show some (HObj.box [V.osl (.loc 3) gb e2.length q1.length])=some (boxAt 3 e2 (rowTake (min k n) q1) gb);rw[boxAt,Bh]
    |false=>
     refine⟨λ_=>go 60 ?_,λg=>absurd (show true=false from g) Atf.mp⟩;refine⟨Arr _,by(try simp only);omega,by(try simp only);omega,?_⟩;show CallThen _ _ _ _ _ _;refine Ag [6,7] (I3 x gx (u.take k.toNat) okx (by omega) (by rw[Ar1];omega)) rfl rfl Zq2 (congrArg (λz:Int=>[V.ptr (.loc 6) 0,V.str (u.take z.toNat)]) ek) rfl rfl ?_;rintro z T1 ⟨g',rfl,rfl⟩;refine⟨rfl,?_⟩;refine⟨by(try simp only);omega,by(try simp only);omega,Arr _,?_⟩;show Goes _ _ _ _;refine Ac [(3,false),(5,false)] 60 ?_;refine⟨[3],.int .i64 n,[],λgs hg=>Bl 3 [3] hg rfl rfl rfl cl (λT' hT=>⟨.cut ((hT 3 (by simp)).trans rfl) (by simp) (Be _) (Cr e2 q1),trivial⟩) rfl rfl,trivial,?_⟩;refine⟨[3],.tup [],[(3,some (rowVec e2 (rowTake (min k n) q1) gb))],λgs hg=>Ca 3 hg rfl rfl rfl rfl rfl (Bf e2 q1 gb (min k n) (by omega) q1ok.p) (congrArg (λz=>[V.osl (.loc 3) gb e2.length q1.length,V.int .i64 z]) ((Cq _ _).trans (congrArg (λz=>min z n) ek))) rfl (λ_=>rfl),trivial,?_⟩;refine⟨by kernel_rfl,?_⟩;show Goes _ _ _ _;refine again _ d1 e2 g' (CpTo.old (s:=⟨_,q,x,_⟩) u p1 q1 n false _ k hh hf hq hu hk) _ _ ⟨⟨?_,rfl⟩,⟨rfl,rfl⟩,⟨rfl,rfl⟩,⟨rfl,rfl⟩,trivial⟩ ⟨⟨rfl,rfl⟩,⟨rfl,rfl⟩,⟨rfl,rfl⟩,⟨rfl,rfl⟩,⟨congrArg (λz=>some (HObj.box [V.osl (.loc 1) ga d1.length z])) hlp,rfl⟩,⟨?_,rfl⟩,⟨rfl,rfl⟩,⟨rfl,rfl⟩,trivial⟩
     ·exact congrArg V.str ((congrArg (λz:Int=>(u.drop z.toNat).take (((u.length:Int)).toNat-z.toNat)) ek).trans (Ars (by simp)))
     ·show some (HObj.box [V.osl (.loc 3) gb e2.length q1.length])=some (boxAt 3 e2 (rowTake (min k n) q1) gb);rw[boxAt,Bh]
  ·have hu:u=[]:=by simpa using g5
   have hf2:(bif _ then rowPut _ else(_,_))=(([]:List UInt8),p1):=hf.trans (by rw[hu]);show CallThen _ _ _ _ _ _;refine Ag [4,1] cr1 rfl rfl ⟨⟨congrArg (λz=>some (some (HObj.box [V.osl (.loc 1) ga d1.length z]))) hlp,rfl⟩,⟨rfl,rfl⟩,trivial⟩ rfl rfl rfl ?_;rintro z T1 ⟨rfl,e1,-,rfl⟩;refine⟨rfl,?_⟩;cases dropped with
   |true=>
    have hm3:=hmw rfl;refine⟨λ_=>go 60 ?_,λg=>absurd (show true=false from g) Atf.mp⟩;show CallThen _ _ _ _ _ _;refine Ag [6,7] (Ih x gx m okx (by omega) (by omega)) rfl rfl Zq2 rfl rfl rfl ?_;rintro z T1 ⟨g',rfl,rfl⟩;refine⟨rfl,?_⟩;show CallThen _ _ _ _ _ _;refine Ag [1] (Bf e1 p2 ga m ⟨p5,p6⟩ p2ok.p) rfl rfl Zq1 rfl rfl rfl ?_;rintro z T1 ⟨rfl,rfl⟩;refine⟨rfl,?_⟩;show Goes _ _ _ _;refine again _ e1 e2 g' (CpTo.drop (s:=⟨_,q,x,_⟩) p1 q1 n gone more m any p2 hh hf2 hq hp) _ _ ⟨⟨congrArg V.str hu,rfl⟩,⟨rfl,rfl⟩,⟨rfl,rfl⟩,⟨rfl,rfl⟩,trivial⟩ ⟨⟨rfl,rfl⟩,⟨rfl,rfl⟩,⟨rfl,rfl⟩,⟨rfl,rfl⟩,⟨?_,rfl⟩,⟨rfl,rfl⟩,⟨rfl,rfl⟩,⟨rfl,rfl⟩,trivial⟩;show some (HObj.box [V.osl (.loc 1) ga e1.length p2.length])=some (boxAt 1 e1 (rowTake m p2) ga);rw[boxAt,Bh]
   |false=>
    refine⟨λg=>absurd (show false=true from g) Atc,λ_=>go 60 ?_⟩;cases any with
    |false=>
     refine⟨λ_=>go 60 ?_,λg=>absurd (show true=false from g) Atf.mp⟩;cases more with
     |false=>
      refine⟨λ_=>go 60 ?_,λg=>absurd (show true=false from g) Atf.mp⟩;have hfx:=last _ (CpTo.fin (s:=⟨_,q,x,_⟩) p1 q1 n gone m p2 hh hf2 hq hp);have good:R=bif !rightP x.l then([],3) else(x.l,0):=by rw[good,hfx]
      show CallThen _ _ _ _ _ _;refine Ag [6,7] (Ad4 x gx okx (by omega)) rfl rfl Zq2 rfl rfl rfl ?_;rintro z T1 ⟨rfl,rfl⟩;refine⟨rfl,?_⟩;refine⟨λg4=>go 60 ?_,λg4=>go 60 ?_⟩
      ·have g4:rightP x.l=false:=by simpa using g4
       exact⟨trivial,rfl,rfl,rfl,composeZ (by rw[good,g4];rfl)⟩
      have g4:rightP x.l=true:=by simpa using g4
      have hres:ComposeV (x.l,0)=ComposeV R:=by rw[good,g4];rfl
      refine⟨trivial,rfl,rfl,?_⟩;refine⟨rfl,?_⟩;refine⟨by simp,?_⟩;exact⟨rfl,ComposeV (x.l,0),Wk.refl _,rfl,hres⟩
     |true=>
      refine⟨λg=>absurd (show false=true from g) Atc,λ_=>go 60 ?_⟩;refine⟨λg=>absurd (show false=true from g) Atc,λ_=>go 60 ?_⟩;refine⟨λg=>absurd (show false=true from g) Atc,λ_=>go 60 ?_⟩;have ej:n=j:=hj.symm;cases gone with
      |true=>
       refine⟨λ_=>go 60 ?_,λg=>absurd (show true=false from g) Atf.mp⟩;show CallThen _ _ _ _ _ _;refine Ag [6,7] (Ih x gx j okx (by omega) (by omega)) rfl rfl Zq2 (congrArg (λz:Int=>[V.ptr (.loc 6) 0,V.int .i64 z]) ej) rfl rfl ?_;rintro z T1 ⟨g',rfl,rfl⟩;refine⟨rfl,?_⟩;show Goes _ _ _ _;refine Ac [(3,false),(5,false)] 60 ?_;refine⟨[1],.int .i64 m,[],λgs hg=>Bl 3 [1] hg rfl rfl rfl cl1 (λT' hT=>⟨.cut ((hT 1 (by simp)).trans rfl) (by simp) (Be _) (Cr e1 p2),trivial⟩) rfl rfl,trivial,?_⟩;refine⟨[1],.tup [],[(1,some (rowVec e1 (rowTake (min j m) p2) ga))],λgs hg=>Ca 1 hg rfl rfl rfl rfl rfl (Bf e1 p2 ga (min j m) (by omega) p2ok.p) (congrArg (λz=>[V.osl (.loc 1) ga e1.length p2.length,V.int .i64 z]) ((Cq _ _).trans (congrArg (λz=>min z m) ej))) rfl (λ_=>rfl),trivial,?_⟩;refine⟨by kernel_rfl,?_⟩;show Goes _ _ _ _;refine Ac [(3,false),(5,false)] 60 ?_;refine⟨[3],.int .i64 n,[],λgs hg=>Bl 3 [3] hg rfl rfl rfl cl (λT' hT=>⟨.cut ((hT 3 (by simp)).trans rfl) (by simp) (Be _) (Cr e2 q1),trivial⟩) rfl rfl,trivial,?_⟩;refine⟨[3],.tup [],[(3,some (rowVec e2 (rowTake (min j n) q1) gb))],λgs hg=>Ca 3 hg rfl rfl rfl rfl rfl (Bf e2 q1 gb (min j n) (by omega) q1ok.p) (congrArg (λz=>[V.osl (.loc 3) gb e2.length q1.length,V.int .i64 z]) ((Cq _ _).trans (congrArg (λz=>min z n) ej))) rfl (λ_=>rfl),trivial,?_⟩;refine⟨by kernel_rfl,?_⟩;show Goes _ _ _ _;refine again _ e1 e2 g' (CpTo.both (s:=⟨_,q,x,_⟩) p1 q1 n true true m false p2 j hh hf2 hq hp rfl hj) _ _ ⟨⟨congrArg V.str hu,rfl⟩,⟨rfl,rfl⟩,⟨rfl,rfl⟩,⟨rfl,rfl⟩,trivial⟩ ⟨⟨rfl,rfl⟩,⟨rfl,rfl⟩,⟨rfl,rfl⟩,⟨rfl,rfl⟩,⟨?_,rfl⟩,⟨?_,rfl⟩,⟨rfl,rfl⟩,⟨rfl,rfl⟩,trivial⟩
       ·show some (HObj.box [V.osl (.loc 1) ga e1.length p2.length])=some (boxAt 1 e1 (rowTake (min j m) p2) ga);rw[boxAt,Bh]
       ·show some (HObj.box [V.osl (.loc 3) gb e2.length q1.length])=some (boxAt 3 e2 (rowTake (min j n) q1) gb);rw[boxAt,Bh]
      |false=>
       refine⟨λg=>absurd (show false=true from g) Atc,λ_=>go 60 ?_⟩;have x3:=Hv okx;have x4:=okx.k;refine⟨by constructor<;>(simp only;omega),?_⟩;show Goes _ _ _ _;refine Ac [(3,false),(5,false)] 60 ?_;refine⟨[1],.int .i64 m,[],λgs hg=>Bl 3 [1] hg rfl rfl rfl cl1 (λT' hT=>⟨.cut ((hT 1 (by simp)).trans rfl) (by simp) (Be _) (Cr e1 p2),trivial⟩) rfl rfl,trivial,?_⟩;refine⟨[1],.tup [],[(1,some (rowVec e1 (rowTake (min j m) p2) ga))],λgs hg=>Ca 1 hg rfl rfl rfl rfl rfl (Bf e1 p2 ga (min j m) (by omega) p2ok.p) (congrArg (λz=>[V.osl (.loc 1) ga e1.length p2.length,V.int .i64 z]) ((Cq _ _).trans (congrArg (λz=>min z m) ej))) rfl (λ_=>rfl),trivial,?_⟩;refine⟨by kernel_rfl,?_⟩;show Goes _ _ _ _;refine Ac [(3,false),(5,false)] 60 ?_;refine⟨[3],.int .i64 n,[],λgs hg=>Bl 3 [3] hg rfl rfl rfl cl (λT' hT=>⟨.cut ((hT 3 (by simp)).trans rfl) (by simp) (Be _) (Cr e2 q1),trivial⟩) rfl rfl,trivial,?_⟩;refine⟨[3],.tup [],[(3,some (rowVec e2 (rowTake (min j n) q1) gb))],λgs hg=>Ca 3 hg rfl rfl rfl rfl rfl (Bf e2 q1 gb (min j n) (by omega) q1ok.p) (congrArg (λz=>[V.osl (.loc 3) gb e2.length q1.length,V.int .i64 z]) ((Cq _ _).trans (congrArg (λz=>min z n) ej))) rfl (λ_=>rfl),trivial,?_⟩;refine⟨by kernel_rfl,?_⟩;show Goes _ _ _ _;refine again _ e1 e2 gx (CpTo.both (s:=⟨_,q,x,_⟩) p1 q1 n false true m false p2 j hh hf2 hq hp rfl hj) _ _ ⟨⟨congrArg V.str hu,rfl⟩,⟨rfl,rfl⟩,⟨rfl,rfl⟩,⟨rfl,rfl⟩,trivial⟩ ⟨⟨rfl,rfl⟩,⟨rfl,rfl⟩,⟨rfl,rfl⟩,⟨rfl,rfl⟩,⟨?_,rfl⟩,⟨?_,rfl⟩,⟨?_,rfl⟩,⟨rfl,rfl⟩,trivial⟩
       ·show some (HObj.box [V.osl (.loc 1) ga e1.length p2.length])=some (boxAt 1 e1 (rowTake (min j m) p2) ga);rw[boxAt,Bh]
       ·show some (HObj.box [V.osl (.loc 3) gb e2.length q1.length])=some (boxAt 3 e2 (rowTake (min j n) q1) gb);rw[boxAt,Bh]
       ·exact congrArg (λz:Int=>some (HObj.box [V.osl (.loc 7) gx 0 x.l.length,V.int .i64 (x.keep+z)])) ej
    |true=>
     refine⟨λg=>absurd (show false=true from g) Atc,λ_=>go 60 ?_⟩;cases more with
     |false=>
      refine⟨λ_=>go 60 ?_,λg=>absurd (show true=false from g) Atf.mp⟩;have ej:m=j:=hj.symm;cases gone with
      |true=>
       refine⟨λ_=>go 60 ?_,λg=>absurd (show true=false from g) Atf.mp⟩;show CallThen _ _ _ _ _ _;refine Ag [6,7] (Ih x gx j okx (by omega) (by omega)) rfl rfl Zq2 (congrArg (λz:Int=>[V.ptr (.loc 6) 0,V.int .i64 z]) ej) rfl rfl ?_;rintro z T1 ⟨g',rfl,rfl⟩;refine⟨rfl,?_⟩;show Goes _ _ _ _;refine Ac [(3,false),(5,false)] 60 ?_;refine⟨[1],.int .i64 m,[],λgs hg=>Bl 3 [1] hg rfl rfl rfl cl1 (λT' hT=>⟨.cut ((hT 1 (by simp)).trans rfl) (by simp) (Be _) (Cr e1 p2),trivial⟩) rfl rfl,trivial,?_⟩;refine⟨[1],.tup [],[(1,some (rowVec e1 (rowTake (min j m) p2) ga))],λgs hg=>Ca 1 hg rfl rfl rfl rfl rfl (Bf e1 p2 ga (min j m) (by omega) p2ok.p) (congrArg (λz=>[V.osl (.loc 1) ga e1.length p2.length,V.int .i64 z]) ((Cq _ _).trans (congrArg (λz=>min z m) ej))) rfl (λ_=>rfl),trivial,?_⟩;refine⟨by kernel_rfl,?_⟩;show Goes _ _ _ _;refine Ac [(3,false),(5,false)] 60 ?_;refine⟨[3],.int .i64 n,[],λgs hg=>Bl 3 [3] hg rfl rfl rfl cl (λT' hT=>⟨.cut ((hT 3 (by simp)).trans rfl) (by simp) (Be _) (Cr e2 q1),trivial⟩) rfl rfl,trivial,?_⟩;refine⟨[3],.tup [],[(3,some (rowVec e2 (rowTake (min j n) q1) gb))],λgs hg=>Ca 3 hg rfl rfl rfl rfl rfl (Bf e2 q1 gb (min j n) (by omega) q1ok.p) (congrArg (λz=>[V.osl (.loc 3) gb e2.length q1.length,V.int .i64 z]) ((Cq _ _).trans (congrArg (λz=>min z n) ej))) rfl (λ_=>rfl),trivial,?_⟩;refine⟨by kernel_rfl,?_⟩;show Goes _ _ _ _;refine again _ e1 e2 g' (CpTo.both (s:=⟨_,q,x,_⟩) p1 q1 n true false m true p2 j hh hf2 hq hp rfl hj) _ _ ⟨⟨congrArg V.str hu,rfl⟩,⟨rfl,rfl⟩,⟨rfl,rfl⟩,⟨rfl,rfl⟩,trivial⟩ ⟨⟨rfl,rfl⟩,⟨rfl,rfl⟩,⟨rfl,rfl⟩,⟨rfl,rfl⟩,⟨?_,rfl⟩,⟨?_,rfl⟩,⟨rfl,rfl⟩,⟨rfl,rfl⟩,trivial⟩
       ·show some (HObj.box [V.osl (.loc 1) ga e1.length p2.length])=some (boxAt 1 e1 (rowTake (min j m) p2) ga);rw[boxAt,Bh]
       ·show some (HObj.box [V.osl (.loc 3) gb e2.length q1.length])=some (boxAt 3 e2 (rowTake (min j n) q1) gb);rw[boxAt,Bh]
      |false=>
       refine⟨λg=>absurd (show false=true from g) Atc,λ_=>go 60 ?_⟩;have x3:=Hv okx;have x4:=okx.k;refine⟨by constructor<;>(simp only;omega),?_⟩;show Goes _ _ _ _;refine Ac [(3,false),(5,false)] 60 ?_;refine⟨[1],.int .i64 m,[],λgs hg=>Bl 3 [1] hg rfl rfl rfl cl1 (λT' hT=>⟨.cut ((hT 1 (by simp)).trans rfl) (by simp) (Be _) (Cr e1 p2),trivial⟩) rfl rfl,trivial,?_⟩;refine⟨[1],.tup [],[(1,some (rowVec e1 (rowTake (min j m) p2) ga))],λgs hg=>Ca 1 hg rfl rfl rfl rfl rfl (Bf e1 p2 ga (min j m) (by omega) p2ok.p) (congrArg (λz=>[V.osl (.loc 1) ga e1.length p2.length,V.int .i64 z]) ((Cq _ _).trans (congrArg (λz=>min z m) ej))) rfl (λ_=>rfl),trivial,?_⟩;refine⟨by kernel_rfl,?_⟩;show Goes _ _ _ _;refine Ac [(3,false),(5,false)] 60 ?_;refine⟨[3],.int .i64 n,[],λgs hg=>Bl 3 [3] hg rfl rfl rfl cl (λT' hT=>⟨.cut ((hT 3 (by simp)).trans rfl) (by simp) (Be _) (Cr e2 q1),trivial⟩) rfl rfl,trivial,?_⟩;refine⟨[3],.tup [],[(3,some (rowVec e2 (rowTake (min j n) q1) gb))],λgs hg=>Ca 3 hg rfl rfl rfl rfl rfl (Bf e2 q1 gb (min j n) (by omega) q1ok.p) (congrArg (λz=>[V.osl (.loc 3) gb e2.length q1.length,V.int .i64 z]) ((Cq _ _).trans (congrArg (λz=>min z n) ej))) rfl (λ_=>rfl),trivial,?_⟩;refine⟨by kernel_rfl,?_⟩;show Goes _ _ _ _;refine again _ e1 e2 gx (CpTo.both (s:=⟨_,q,x,_⟩) p1 q1 n false false m true p2 j hh hf2 hq hp rfl hj) _ _ ⟨⟨congrArg V.str hu,rfl⟩,⟨rfl,rfl⟩,⟨rfl,rfl⟩,⟨rfl,rfl⟩,trivial⟩ ⟨⟨rfl,rfl⟩,⟨rfl,rfl⟩,⟨rfl,rfl⟩,⟨rfl,rfl⟩,⟨?_,rfl⟩,⟨?_,rfl⟩,⟨?_,rfl⟩,⟨rfl,rfl⟩,trivial⟩
       ·show some (HObj.box [V.osl (.loc 1) ga e1.length p2.length])=some (boxAt 1 e1 (rowTake (min j m) p2) ga);rw[boxAt,Bh]
       ·show some (HObj.box [V.osl (.loc 3) gb e2.length q1.length])=some (boxAt 3 e2 (rowTake (min j n) q1) gb);rw[boxAt,Bh]
       ·exact congrArg (λz:Int=>some (HObj.box [V.osl (.loc 7) gx 0 x.l.length,V.int .i64 (x.keep+z)])) ej
     |true=>
      refine⟨λg=>absurd (show false=true from g) Atc,λ_=>go 60 ?_⟩;refine⟨λ_=>go 60 ?_,λg=>absurd (show true=false from g) Atf.mp⟩;have ej:(if m<n then m else n)=j:=by rw[hj];exact Cq _ _
      cases gone with
      |true=>
       refine⟨λ_=>go 60 ?_,λg=>absurd (show true=false from g) Atf.mp⟩;show CallThen _ _ _ _ _ _;refine Ag [6,7] (Ih x gx j okx (by omega) (by omega)) rfl rfl Zq2 (congrArg (λz:Int=>[V.ptr (.loc 6) 0,V.int .i64 z]) ej) rfl rfl ?_;rintro z T1 ⟨g',rfl,rfl⟩;refine⟨rfl,?_⟩;show Goes _ _ _ _;refine Ac [(3,false),(5,false)] 60 ?_;refine⟨[1],.int .i64 m,[],λgs hg=>Bl 3 [1] hg rfl rfl rfl cl1 (λT' hT=>⟨.cut ((hT 1 (by simp)).trans rfl) (by simp) (Be _) (Cr e1 p2),trivial⟩) rfl rfl,trivial,?_⟩;refine⟨[1],.tup [],[(1,some (rowVec e1 (rowTake (min j m) p2) ga))],λgs hg=>Ca 1 hg rfl rfl rfl rfl rfl (Bf e1 p2 ga (min j m) (by omega) p2ok.p) (congrArg (λz=>[V.osl (.loc 1) ga e1.length p2.length,V.int .i64 z]) ((Cq _ _).trans (congrArg (λz=>min z m) ej))) rfl (λ_=>rfl),trivial,?_⟩;refine⟨by kernel_rfl,?_⟩;show Goes _ _ _ _;refine Ac [(3,false),(5,false)] 60 ?_;refine⟨[3],.int .i64 n,[],λgs hg=>Bl 3 [3] hg rfl rfl rfl cl (λT' hT=>⟨.cut ((hT 3 (by simp)).trans rfl) (by simp) (Be _) (Cr e2 q1),trivial⟩) rfl rfl,trivial,?_⟩;refine⟨[3],.tup [],[(3,some (rowVec e2 (rowTake (min j n) q1) gb))],λgs hg=>Ca 3 hg rfl rfl rfl rfl rfl (Bf e2 q1 gb (min j n) (by omega) q1ok.p) (congrArg (λz=>[V.osl (.loc 3) gb e2.length q1.length,V.int .i64 z]) ((Cq _ _).trans (congrArg (λz=>min z n) ej))) rfl (λ_=>rfl),trivial,?_⟩;refine⟨by kernel_rfl,?_⟩;show Goes _ _ _ _;refine again _ e1 e2 g' (CpTo.both (s:=⟨_,q,x,_⟩) p1 q1 n true true m true p2 j hh hf2 hq hp rfl hj) _ _ ⟨⟨congrArg V.str hu,rfl⟩,⟨rfl,rfl⟩,⟨rfl,rfl⟩,⟨rfl,rfl⟩,trivial⟩ ⟨⟨rfl,rfl⟩,⟨rfl,rfl⟩,⟨rfl,rfl⟩,⟨rfl,rfl⟩,⟨?_,rfl⟩,⟨?_,rfl⟩,⟨rfl,rfl⟩,⟨rfl,rfl⟩,trivial⟩
       ·show some (HObj.box [V.osl (.loc 1) ga e1.length p2.length])=some (boxAt 1 e1 (rowTake (min j m) p2) ga);rw[boxAt,Bh]
       ·show some (HObj.box [V.osl (.loc 3) gb e2.length q1.length])=some (boxAt 3 e2 (rowTake (min j n) q1) gb);rw[boxAt,Bh]
      |false=>
       refine⟨λg=>absurd (show false=true from g) Atc,λ_=>go 60 ?_⟩;have x3:=Hv okx;have x4:=okx.k;refine⟨by constructor<;>(simp only;omega),?_⟩;show Goes _ _ _ _;refine Ac [(3,false),(5,false)] 60 ?_;refine⟨[1],.int .i64 m,[],λgs hg=>Bl 3 [1] hg rfl rfl rfl cl1 (λT' hT=>⟨.cut ((hT 1 (by simp)).trans rfl) (by simp) (Be _) (Cr e1 p2),trivial⟩) rfl rfl,trivial,?_⟩;refine⟨[1],.tup [],[(1,some (rowVec e1 (rowTake (min j m) p2) ga))],λgs hg=>Ca 1 hg rfl rfl rfl rfl rfl (Bf e1 p2 ga (min j m) (by omega) p2ok.p) (congrArg (λz=>[V.osl (.loc 1) ga e1.length p2.length,V.int .i64 z]) ((Cq _ _).trans (congrArg (λz=>min z m) ej))) rfl (λ_=>rfl),trivial,?_⟩;refine⟨by kernel_rfl,?_⟩;show Goes _ _ _ _;refine Ac [(3,false),(5,false)] 60 ?_;refine⟨[3],.int .i64 n,[],λgs hg=>Bl 3 [3] hg rfl rfl rfl cl (λT' hT=>⟨.cut ((hT 3 (by simp)).trans rfl) (by simp) (Be _) (Cr e2 q1),trivial⟩) rfl rfl,trivial,?_⟩;refine⟨[3],.tup [],[(3,some (rowVec e2 (rowTake (min j n) q1) gb))],λgs hg=>Ca 3 hg rfl rfl rfl rfl rfl (Bf e2 q1 gb (min j n) (by omega) q1ok.p) (congrArg (λz=>[V.osl (.loc 3) gb e2.length q1.length,V.int .i64 z]) ((Cq _ _).trans (congrArg (λz=>min z n) ej))) rfl (λ_=>rfl),trivial,?_⟩;refine⟨by kernel_rfl,?_⟩;show Goes _ _ _ _;refine again _ e1 e2 gx (CpTo.both (s:=⟨_,q,x,_⟩) p1 q1 n false true m true p2 j hh hf2 hq hp rfl hj) _ _ ⟨⟨congrArg V.str hu,rfl⟩,⟨rfl,rfl⟩,⟨rfl,rfl⟩,⟨rfl,rfl⟩,trivial⟩ ⟨⟨rfl,rfl⟩,⟨rfl,rfl⟩,⟨rfl,rfl⟩,⟨rfl,rfl⟩,⟨?_,rfl⟩,⟨?_,rfl⟩,⟨?_,rfl⟩,⟨rfl,rfl⟩,trivial⟩
       ·show some (HObj.box [V.osl (.loc 1) ga e1.length p2.length])=some (boxAt 1 e1 (rowTake (min j m) p2) ga);rw[boxAt,Bh]
       ·show some (HObj.box [V.osl (.loc 3) gb e2.length q1.length])=some (boxAt 3 e2 (rowTake (min j n) q1) gb);rw[boxAt,Bh]
       ·exact congrArg (λz:Int=>some (HObj.box [V.osl (.loc 7) gx 0 x.l.length,V.int .i64 (x.keep+z)])) ej
set_option pp.maxSteps 300 in
theorem Aqm (b a:OpT)(prior:Bool)(ha:a.Ok)(_hb:b.Ok)(sa:soundO a=true)(sb:soundO b=true)(he:bothEdit b a=true):
  Fun Tryz.prog 202 [] [opV b,opV a,.bool prior] (λx T=> ∃g,x=.tup [.osl (.loc 2) g 0 1,.int .i64 (transP b.pieces a.pieces prior).2.2]∧T=[some (.box (opV (editO b a prior)).cells),some (.box (opV a).cells),some (.vec g 11 [opV (editO b a prior)])]):=by
 unfold bothEdit at he;simp only[Aq6,decide_eq_true_eq] at he;obtain⟨k1,k2,k3⟩:=he;have fa:formedB a=true:=by unfold soundO at sa;rw[Aq6] at sa;exact sa.1
 have fb:formedB b=true:=by unfold soundO at sb;rw[Aq6] at sb;exact sb.1
 have pa:=Ey (Bc fa);obtain⟨l1,l2⟩:=Jc (K8 fa k1);obtain⟨l3,l4⟩:=Jc (K8 fb k2);have hw:wonO b a=false:=by unfold wonO;simp[k1,k2]
 have ct:=Apl b.pieces a.pieces prior (by omega) (by omega) l4 l2;have ee:editO b a prior= {b with pieces:=(transP b.pieces a.pieces prior).1}:=rfl;rw[ee];clear ee;obtain⟨⟨r1,r2,e⟩,hr⟩: ∃r,transP b.pieces a.pieces prior=r:=⟨_,rfl⟩;rw[hr] at ct ⊢;refine Ay 300 Tryz.func202 rfl rfl rfl λimps B hi=> ?_;have:imps=[]:=Ard.1 hi;subst this;refine⟨λg1=>absurd (Aw g1) (by omega),λg1=>go 300 ?_⟩;show CallThen _ _ _ _ _ _;refine Aa (An0 b a ha) rfl ?_;rw[hw];rintro x rfl;refine⟨λg2=>(by cases g2),λg2=>go 300 ?_⟩;refine⟨λg3=>go 300 ?_,λg3=>absurd (Bk g3) (by omega)⟩;refine⟨λg4=>go 300 ?_,λg4=>absurd k1 (Bg g4)⟩;refine⟨λg5=>go 300 ?_,λg5=>absurd k2 (Bg g5)⟩;show CallThen _ _ _ _ _ _;refine Aa (Cg a.path b.path (by omega)) rfl ?_;rw[decide_eq_true k3];rintro x rfl;refine⟨λg6=>go 300 ?_,λg6=>(by cases g6)⟩;show CallThen _ _ _ _ _ _;refine Aa ct rfl ?_;rintro x rfl;refine⟨⟨rfl,trivial⟩,?_⟩;exact⟨trivial,rfl,rfl,_,rfl,rfl⟩
theorem Apm {b a:OpT}{prior:Bool}(hb:b.Ok):(editO b a prior).Lt 1000000∧ ∀p∈ (editO b a prior).pieces,p.put.length≤1000000000:=by
 obtain⟨h1,h2⟩:=Jc (Sr b.pieces a.pieces prior).1;exact⟨⟨hb.lt.path,hb.lt.to,hb.lt.label,hb.lt.key,hb.lt.value,by show(transP b.pieces a.pieces prior).1.length≤_;omega⟩,h2⟩
theorem behZ' {e:Int}{R:List OpT×Int}(h:R=([],e)): ∃y,Wk (.tup [.nilsl,.int .i64 e]) y∧y.pureB=true∧y=BehV R:=⟨BehV ([],e),Wk.tup ⟨Wk.nil 11,.refl _,trivial⟩,rfl,by rw[h]⟩
set_option pp.maxSteps 300 in
theorem Alg (b a:OpT)(prior:Bool)(ha:a.Ok)(hb:b.Ok)(he:bothEdit b a=true):
  Pure Tryz.prog 188 [opV b,opV a,.bool prior] (λx=>x=BehV (behindE b a prior)):=by
 obtain⟨R,hR⟩: ∃R,behindE b a prior=R:=⟨_,rfl⟩;rw[hR];obtain⟨hlt,hput⟩:=Apm (a:=a) (prior:=prior) hb;refine Aj (Ad 300 Tryz.func188 rfl rfl rfl λB=> ?_);show CallThen _ _ _ _ _ _;refine Aa (R9 a ha) rfl ?_;rintro x rfl;refine⟨λg1=>go 300 ?_,λg1=>go 300 ?_⟩
 ·have g1:soundO a=false:=by simpa using g1
  exact⟨trivial,rfl,rfl,rfl,behZ' (by rw[←hR];unfold behindE;rw[g1];rfl)⟩
 have sa:soundO a=true:=by simpa using g1
 show CallThen _ _ _ _ _ _;refine Aa (R9 b hb) rfl ?_;rintro x rfl;refine⟨λg2=>go 300 ?_,λg2=>go 300 ?_⟩
 ·have g2:soundO b=false:=by simpa using g2
  exact⟨trivial,rfl,rfl,rfl,behZ' (by rw[←hR];unfold behindE;rw[sa,g2];rfl)⟩
 have sb:soundO b=true:=by simpa using g2
 have hrow:=Aqm b a prior ha hb sa sb he;have e0:R=bif decide ((transP b.pieces a.pieces prior).2.2=0)&&formedB (editO b a prior) then([bareO (editO b a prior)],0) else([],3):=by
  rw[←hR];unfold behindE;rw[sa,sb];rfl
 obtain⟨o,ho⟩: ∃o,editO b a prior=o:=⟨_,rfl⟩;obtain⟨e,hee⟩: ∃e,(transP b.pieces a.pieces prior).2.2=e:=⟨_,rfl⟩;rw[ho,hee] at hrow e0;rw[ho] at hlt hput;show CallThen _ _ _ _ _ _;refine Ag [] hrow rfl rfl trivial rfl rfl rfl ?_;rintro x T1 ⟨G,rfl,rfl⟩;refine⟨rfl,?_⟩;refine⟨λg3=>go 300 ?_,λg3=>go 300 ?_⟩
 ·have g3:=A7 g3;exact⟨trivial,rfl,rfl,rfl,behZ' (by rw[e0,decide_eq_false g3];rfl)⟩
 have g3:=Bk g3;rw[decide_eq_true g3] at e0;refine⟨rfl,?_⟩;show Goes _ _ _ _;refine P5 ?_;refine go 300 ?_;refine⟨λ_=>go 300 ?_,λh=>absurd (Ah h) (by decide)⟩;refine⟨rfl,by decide,by decide,rfl,_,rfl,?_⟩;show CallThen _ _ _ _ _ _;refine Aa (Ha o hlt hput) rfl ?_;rintro x rfl;refine⟨λg4=>go 300 ?_,λg4=>go 300 ?_⟩
 ·have g4:formedB o=false:=by simpa using g4
  exact⟨trivial,rfl,rfl,rfl,behZ' (by rw[e0,g4];rfl)⟩
 have g4:formedB o=true:=by simpa using g4
 rw[g4] at e0;show CallThen _ _ _ _ _ _;refine Aa (Hb o hlt) rfl ?_;rintro x rfl;refine⟨rfl,by decide,by decide,rfl,_,rfl,?_⟩;refine⟨⟨by decide,by decide⟩,?_⟩;show Goes _ _ _ _;refine Aea ?_;refine go 300 ?_;refine⟨λh=>absurd (Au h) (by decide),λ_=>go 300 ?_⟩;have hres:BehV ([bareO o],0)=BehV R:=by rw[e0];rfl
 exact⟨trivial,rfl,rfl,rfl,rfl,rfl,BehV ([bareO o],0),Wk.refl _,rfl,hres⟩
theorem Aaj (b a:OpT)(prior:Bool)(ha:a.Ok)(hb:b.Ok)(hto:a.to.length≤1000∧b.to.length≤1000):
  Pure Tryz.prog 188 [opV b,opV a,.bool prior] (λx=>x=BehV (behindX b a prior)):=by
 unfold behindX;cases he:bothEdit b a with
 |true=>exact Alg b a prior ha hb he
 |false=>exact Anp b a prior ha hb he hto
theorem Apn (a b:OpT)(prior:Bool)(ha:a.Ok)(hb:b.Ok)(hto:a.to.length≤1000∧b.to.length≤1000):
  Pure Tryz.prog 154 [opV a,opV b,.bool prior] (λx=>x=BothV (bothX a b prior)):=by
 refine Aj (Ad 300 Tryz.func154 rfl rfl rfl λB=> ?_);show CallThen _ _ _ _ _ _;refine Aa (Aaj a b prior hb ha ⟨hto.2,hto.1⟩) rfl ?_;rintro x rfl;refine⟨λg1=>go 300 ?_,λg1=>go 300 ?_⟩
 ·have g1:(behindX a b prior).2≠0:=A7 g1;have e:bothX a b prior=([],[],(behindX a b prior).2):=by unfold bothX;rw[decide_eq_false g1];rfl
  rw[e];exact⟨trivial,rfl,rfl,rfl,bothZ _⟩
 have g1:(behindX a b prior).2=0:=Bk g1;show CallThen _ _ _ _ _ _;refine Aa (Aaj b a (!prior) ha hb hto) rfl ?_;rintro x rfl;refine⟨λg2=>go 300 ?_,λg2=>go 300 ?_⟩
 ·have g2:(behindX b a (!prior)).2≠0:=A7 g2;have e:bothX a b prior=([],[],(behindX b a (!prior)).2):=by unfold bothX;rw[decide_eq_true g1,decide_eq_false g2];rfl
  rw[e];exact⟨trivial,rfl,rfl,rfl,bothZ _⟩
 have g2:(behindX b a (!prior)).2=0:=Bk g2;have e:bothX a b prior=((behindX a b prior).1,(behindX b a (!prior)).1,0):=by unfold bothX;rw[decide_eq_true g1,decide_eq_true g2];rfl
 rw[e];exact⟨trivial,rfl,rfl,rfl,BothV ((behindX a b prior).1,(behindX b a (!prior)).1,0),Wk.refl _,rfl,rfl⟩
theorem Wz (xs ys:List PieceT)(hl:xs.length≤1000000):Pure Tryz.prog 102 [piecesV xs,piecesV ys] (λx=>x=.bool (decide (xs=ys))):=by
 refine Aj (Ad 300 Tryz.func102 rfl rfl rfl λB=> ?_);refine⟨λg1=>go 300 ?_,λg1=>go 300 ?_⟩
 ·have g1:=A7 g1;exact⟨trivial,rfl,rfl,rfl,Ar (decide_eq_false λe=>g1 (by rw[e]))⟩
 have g1:xs.length=ys.length:=by have:=Bk g1;simp at this;omega
 show Goes _ _ _ _;refine Ak (ι:=Nat) (λi=>i≤xs.length∧(xs.drop i=ys.drop i↔xs=ys)) (λi=>xs.length-i) (λi=>[(5,.int .i64 i),(0,piecesV xs),(1,piecesV ys)]) (λ_=>[]) 0 300 (λ_=>rfl) (λ_=>rfl) ⟨⟨Aq4 _,by simp⟩,Zq3,trivial⟩ ?_;rintro i ⟨k1,k2⟩ next;refine⟨λhlt=>go 300 ?_,λhge=>go 300 ?_⟩
 ·have hi:i<xs.length:=by simpa using hlt
  have hi':i<ys.length:=by omega
  have hx:(xs.map pieceV)[i]?=some (pieceV xs[i]):=by simp[hi]
  have hy:(ys.map pieceV)[i]?=some (pieceV ys[i]):=by simp[hi']
  rw[Wy hi hi'] at k2;show Goes _ _ _ _;refine Ac [] 300 ⟨Aq5 i,_,hx,Aq5 i,_,hy,?_⟩;refine⟨by kernel_rfl,?_⟩;refine⟨by kernel_rfl,?_⟩;refine⟨λg2=>go 300 ?_,λg2=>go 300 ?_⟩
  ·refine⟨trivial,rfl,rfl,rfl,Ar (decide_eq_false λe=> ?_)⟩;have:=(k2.2 e).1;rw[this] at g2;simp at g2
  ·refine⟨by constructor<;>omega,?_⟩;have he:xs[i]=ys[i]:=by
    simp at g2;exact PieceT.ext g2.1 g2.2.1 g2.2.2
   exact next (i+1) _ _ ⟨⟨hi,by rw[←k2];exact⟨λh=>⟨he,h⟩,λh=>h.2⟩⟩,by omega,Zq3,trivial⟩
 ·have hi:i=xs.length:=by have:xs.length≤i:=(by simpa using hge);omega
  subst hi;refine⟨trivial,rfl,rfl,rfl,Cu (decide_eq_true (k2.1 ?_))⟩;rw[Aro (Ara _),Aro (by omega)]
def eqO (x y:OpT):Bool:=decide (x.kind=y.kind)&& (decide (x.path=y.path)&& (decide (x.at_=y.at_)&& (decide (x.to=y.to)&& (decide (x.id=y.id)&& ((x.leaf==y.leaf)&& (decide (x.label=y.label)&& (decide (x.key=y.key)&& (decide (x.value=y.value)&& ((x.gone==y.gone)&&decide (x.pieces=y.pieces))))))))))
def sameO (a b:OpT):Bool:=eqO (bareO a) (bareO b)
theorem Ah3 (a b:OpT)(ha:a.Lt 1000000)(hb:b.Lt 1000000):Pure Tryz.prog 61 [opV a,opV b] (λx=>x=.bool (sameO a b)):=by
 have la:=X6 ha;have h1:=Aaa (bareO a).path (bareO b).path la.path;have h2:=Aaa (bareO a).to (bareO b).to la.to;have h3:=Wz (bareO a).pieces (bareO b).pieces la.pieces;refine Aj (Ad 300 Tryz.func61 rfl rfl rfl λB=> ?_);show CallThen _ _ _ _ _ _;refine Aa (Z0 a ha) rfl ?_;rintro z rfl;show CallThen _ _ _ _ _ _;refine Aa (Z0 b hb) rfl ?_;rintro z rfl
 repeat' first
  | (refine⟨λ_=>go 300 ?_,λ_=>go 300 ?_⟩)
  | (show CallThen _ _ _ _ _ _;refine Aa h1 rfl ?_;rintro z rfl)
  | (show CallThen _ _ _ _ _ _;refine Aa h2 rfl ?_;rintro z rfl)
  | (show CallThen _ _ _ _ _ _;refine Aa h3 rfl ?_;rintro z rfl)
  | (refine⟨trivial,rfl,rfl,rfl,Ar ?_⟩)
  | (refine⟨trivial,rfl,rfl,rfl,B8 ?_⟩)
  |fail
 all_goals (unfold sameO eqO;simp_all)
end Bow
