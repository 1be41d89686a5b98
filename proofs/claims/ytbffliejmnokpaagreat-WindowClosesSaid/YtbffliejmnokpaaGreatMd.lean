/- The library, part 4: SP22, SP23, SP29, SP24, SP25, SP26, SP30, AE36, AE37, AE38, AE39, AE40, AE41, AE42, W1, W2, W3, W4, W5, W6, W7, W8, W9, W10, W11, W12, W13, W14, W15. -/
import Derived.Test.YtbffliejmnokpaaGreatMc
import Derived.ChangeArms
import Derived.ChangeOld
import Derived.DataReads
import Derived.Laws.Shifts
import Derived.Test.YtbffliejmnokpaaGreatRows
import Derived.KernelRfl
/- SP22: edits made normal; two edits behind each other (leaftext), in plain Lean. -/
namespace Bow
open Go
structure Mk where
 l : List PieceT
 keep : Int
def Mk.nil : Mk:=⟨[],0⟩
def modL (f : PieceT → PieceT) : List PieceT → List PieceT
 | [] => []
 | [p] => [f p]
 | p :: q :: r => p :: modL f (q :: r)
def Mk.last (m : Mk) : Mk:=bif decide (0 < m.keep) || m.l.isEmpty then ⟨m.l ++ [⟨m.keep,0,[]⟩],0⟩ else m
def Mk.put (s : List UInt8) (m : Mk) : Mk:=bif s.isEmpty then m else ⟨modL (fun p => { p with put:=p.put ++ s }) m.last.l,m.last.keep⟩
def Mk.drop (n : Int) (m : Mk) : Mk:=bif decide (0 < n) then ⟨modL (fun p => { p with drop:=p.drop + n }) m.last.l,m.last.keep⟩ else m
def Mk.kept (n : Int) (m : Mk) : Mk:=⟨m.l,m.keep + n⟩
def Mk.piece (m : Mk) (p : PieceT) : Mk:=((m.kept p.keep).put p.put).drop p.drop
def normP (l : List PieceT) : List PieceT:=(l.foldl Mk.piece Mk.nil).l
def rowHas : List PieceT → Bool
 | [] => false
 | p :: _ => !(decide (0 < p.keep) || p.put.isEmpty)
def rowPut : List PieceT → List UInt8 × List PieceT
 | [] => ([],[])
 | p :: r => bif decide (0 < p.keep) || p.put.isEmpty then ([],p :: r) else (p.put,{ p with put:=[] } :: r)
def rowRun : List PieceT → (Int × Bool × Bool) × List PieceT
 | [] => ((0,false,false),[])
 | p :: r => bif decide (0 < p.keep) then ((p.keep,false,true),p :: r) else bif decide (0 < p.drop) then ((p.drop,true,true),p :: r) else rowRun r
def rowTake (n : Int) : List PieceT → List PieceT
 | [] => []
 | p :: r => bif decide (0 < p.keep) then { p with keep:=p.keep - n } :: r else { p with drop:=p.drop - n } :: r
def bothR (a b : List PieceT) : (Int × Bool × Bool × Bool) × List PieceT × List PieceT :=
 match rowRun a,rowRun b with
 | ((n,x,any),a'),((m,y,more),b') =>
  bif !any && !more then ((0,false,false,false),a',b')
  else match bif !any then m else bif more then min n m else n with
   | k => ((k,x,y,true),rowTake k a',rowTake k b')
structure Tr where
 p : List PieceT
 q : List PieceT
 x : Mk
 y : Mk
def Tr.puts (prior : Bool) (s : Tr) : Tr :=
 match rowPut s.p,rowPut s.q with
 | (a,p),(b,q) => bif prior then ⟨p,q,(s.x.put a).kept b.length,(s.y.kept a.length).put b⟩ else ⟨p,q,(s.x.kept b.length).put a,(s.y.put b).kept a.length⟩
def Tr.does (s : Tr) (n : Int) (x y : Bool) : Tr :=
 bif x then (bif y then s else { s with x:=s.x.drop n }) else bif y then { s with y:=s.y.drop n } else { s with x:=s.x.kept n,y:=s.y.kept n }
def Tr.go (prior : Bool) : Nat → Tr → Tr
 | 0,s => s
 | f + 1,s => match s.puts prior with
  | ⟨p,q,x,y⟩ => match bothR p q with
   | ((n,d,g,any),p',q') => bif any then Tr.go prior f (Tr.does ⟨p',q',x,y⟩ n d g) else ⟨p',q',x,y⟩
def extN : List PieceT → Nat
 | [] => 0
 | p :: l => p.keep.toNat + p.drop.toNat + extN l
def transP (a b : List PieceT) (prior : Bool) : List PieceT × List PieceT × Int :=
 bif !rightP a || !rightP b then ([],[],2)
 else match Tr.go prior (extN (normP a) + extN (normP b) + 1) ⟨normP a,normP b,Mk.nil,Mk.nil⟩ with
  | ⟨_,_,x,y⟩ => bif !rightP x.l || !rightP y.l then ([],[],3) else (x.l,y.l,0)
structure PieceT.Nn (p : PieceT) : Prop where
 k : 0 ≤ p.keep
 d : 0 ≤ p.drop
def PieceT.w (p : PieceT) : Int:=p.keep + p.drop + p.put.length + 1
def sumW : List PieceT → Int
 | [] => 0
 | p :: l => p.w + sumW l
def Mk.w (m : Mk) : Int:=m.keep + sumW m.l
structure Mk.Ok (m : Mk) : Prop where
 k : 0 ≤ m.keep
 l : ∀ p ∈ m.l,p.Nn
theorem Mk.nil_ok : Mk.nil.Ok:=⟨by decide,by simp [Mk.nil]⟩
theorem sumW_append (a b : List PieceT) : sumW (a ++ b) = sumW a + sumW b:=by
 induction a with
 | nil => simp [sumW]
 | cons p a ih => simp only [List.cons_append,sumW,ih];omega
theorem PieceT.Nn.w_pos {p : PieceT} (h : p.Nn) : 1 ≤ p.w:=by
 have:=h.k
 have:=h.d
 unfold PieceT.w
 omega
theorem sumW_len : ∀ {l : List PieceT},(∀ p ∈ l,p.Nn) → (l.length : Int) ≤ sumW l
 | [],_ => by simp [sumW]
 | p :: l,h => by
  have h1:=(h p List.mem_cons_self).w_pos
  have h2:=sumW_len fun q hq => h q (List.mem_cons_of_mem _ hq)
  simp only [List.length_cons,sumW]
  omega
theorem sumW_mem : ∀ {l : List PieceT},(∀ p ∈ l,p.Nn) → ∀ p ∈ l,p.w ≤ sumW l
 | [],_,p,hp => by cases hp
 | q :: l,h,p,hp => by
  have h1:=(h q List.mem_cons_self).w_pos
  have h3:=sumW_len fun q hq => h q (List.mem_cons_of_mem _ hq)
  simp only [sumW]
  rcases List.mem_cons.1 hp with rfl | hp
  ·omega
  ·have h2:=sumW_mem (fun q hq => h q (List.mem_cons_of_mem _ hq)) p hp
   omega
theorem modL_ne {f : PieceT → PieceT} : ∀ {l : List PieceT},l ≠ [] → modL f l ≠ []
 | [],h => absurd rfl h
 | [p],_ => by simp [modL]
 | p :: q :: r,_ => by simp [modL]
theorem modL_len (f : PieceT → PieceT) : ∀ l : List PieceT,(modL f l).length = l.length
 | [] => rfl
 | [p] => rfl
 | p :: q :: r => by rw [modL,List.length_cons,modL_len f (q :: r)];rfl
theorem modL_set (f : PieceT → PieceT) : ∀ (l : List PieceT) (h : l.length - 1 < l.length),modL f l = l.set (l.length - 1) (f l[l.length - 1])
 | [],h => by simp at h
 | [p],_ => rfl
 | p :: q :: r,_ => by
  rw [modL,modL_set f (q :: r) (by simp)]
  simp
theorem modL_nn {f : PieceT → PieceT} (hf : ∀ p,p.Nn → (f p).Nn) : ∀ {l : List PieceT},(∀ p ∈ l,p.Nn) → ∀ p ∈ modL f l,p.Nn
 | [],_,p,hp => by cases hp
 | [q],h,p,hp => by
  rw [modL,List.mem_singleton] at hp
  exact hp ▸ hf q (h q List.mem_cons_self)
 | q :: q' :: r,h,p,hp => by
  rw [modL] at hp
  rcases List.mem_cons.1 hp with rfl | hp
  ·exact h _ List.mem_cons_self
  ·exact modL_nn hf (fun z hz => h z (List.mem_cons_of_mem _ hz)) p hp
theorem modL_w {f : PieceT → PieceT} {k : Int} (hf : ∀ p : PieceT,(f p).w = p.w + k) : ∀ {l : List PieceT},l ≠ [] → sumW (modL f l) = sumW l + k
 | [],h => absurd rfl h
 | [p],_ => by simp only [modL,sumW,hf];omega
 | p :: q :: r,_ => by
  have ih:=modL_w hf (l:=q :: r) (by simp)
  rw [modL,sumW,ih,sumW]
  simp only [sumW]
  omega
theorem Mk.last_ne (m : Mk) : m.last.l ≠ []:=by
 unfold Mk.last
 cases h : decide (0 < m.keep) || m.l.isEmpty with
 | true => simp
 | false =>
  intro e
  rw [cond_false] at e
  rw [e] at h
  simp at h
theorem Mk.last_ok {m : Mk} (h : m.Ok) : m.last.Ok ∧ m.last.w ≤ m.w + 1:=by
 unfold Mk.last
 cases decide (0 < m.keep) || m.l.isEmpty with
 | true =>
  refine ⟨⟨Int.le_refl 0,fun p hp => ?_⟩,?_⟩
  ·rcases List.mem_append.1 hp with hp | hp
   ·exact h.l p hp
   ·rw [List.mem_singleton] at hp
    exact hp ▸ ⟨h.k,Int.le_refl _⟩
  ·show (0 : Int) + sumW (m.l ++ [_]) ≤ _
   rw [sumW_append]
   simp only [sumW,PieceT.w,Mk.w,List.length_nil]
   omega
 | false => exact ⟨h,by rw [cond_false];omega⟩
theorem Mk.put_ok {m : Mk} {s : List UInt8} (h : m.Ok) : (m.put s).Ok ∧ (m.put s).w ≤ m.w + s.length + 1:=by
 unfold Mk.put
 cases hs : s.isEmpty with
 | true => exact ⟨h,by rw [cond_true];omega⟩
 | false =>
  obtain ⟨h1,h2⟩:=Mk.last_ok h
  refine ⟨⟨h1.k,modL_nn (f:=fun p => { p with put:=p.put ++ s }) (fun p hp => ⟨hp.k,hp.d⟩) h1.l⟩,?_⟩
  have:=modL_w (f:=fun p => { p with put:=p.put ++ s }) (k:=s.length) (fun p => by simp [PieceT.w];omega) m.last_ne
  unfold Mk.w at h2 ⊢
  simp only [cond_false]
  omega
theorem Mk.drop_ok {m : Mk} {n : Int} (h : m.Ok) (hn : 0 ≤ n) : (m.drop n).Ok ∧ (m.drop n).w ≤ m.w + n + 1:=by
 unfold Mk.drop
 cases hs : decide (0 < n) with
 | false => exact ⟨h,by rw [cond_false];omega⟩
 | true =>
  obtain ⟨h1,h2⟩:=Mk.last_ok h
  refine ⟨⟨h1.k,modL_nn (f:=fun p => { p with drop:=p.drop + n }) (fun p hp => ⟨hp.k,by have:=hp.d;show 0 ≤ p.drop + n;omega⟩) h1.l⟩,?_⟩
  have:=modL_w (f:=fun p => { p with drop:=p.drop + n }) (k:=n) (fun p => by simp [PieceT.w];omega) m.last_ne
  unfold Mk.w at h2 ⊢
  simp only [cond_true]
  omega
theorem Mk.kept_ok {m : Mk} {n : Int} (h : m.Ok) (hn : 0 ≤ n) : (m.kept n).Ok ∧ (m.kept n).w = m.w + n:=by
 refine ⟨⟨by have:=h.k;show 0 ≤ m.keep + n;omega,h.l⟩,?_⟩
 unfold Mk.w Mk.kept
 simp only
 omega
theorem Mk.piece_ok {m : Mk} {p : PieceT} (h : m.Ok) (hp : p.Nn) : (m.piece p).Ok ∧ (m.piece p).w ≤ m.w + p.w + 1:=by
 obtain ⟨a1,a2⟩:=Mk.kept_ok h hp.k
 obtain ⟨b1,b2⟩:=Mk.put_ok (s:=p.put) a1
 obtain ⟨c1,c2⟩:=Mk.drop_ok b1 hp.d
 refine ⟨c1,?_⟩
 unfold PieceT.w Mk.piece
 omega
theorem foldl_ok : ∀ {l : List PieceT} {m : Mk},m.Ok → (∀ p ∈ l,p.Nn) → (l.foldl Mk.piece m).Ok ∧ (l.foldl Mk.piece m).w ≤ m.w + 2 * sumW l
 | [],m,h,_ => ⟨h,by simp [sumW]⟩
 | p :: l,m,h,hl => by
  have hp:=hl p List.mem_cons_self
  obtain ⟨h1,h2⟩:=Mk.piece_ok h hp
  obtain ⟨k1,k2⟩:=foldl_ok (l:=l) h1 fun q hq => hl q (List.mem_cons_of_mem _ hq)
  refine ⟨k1,?_⟩
  have:=hp.w_pos
  simp only [List.foldl_cons,sumW]
  omega
theorem right_nn {l : List PieceT} (h : rightP l = true) : (∀ p ∈ l,p.Nn) ∧ sumW l ≤ 20000000000:=by
 unfold rightP at h
 rw [Bool.and_eq_true,decide_eq_true_eq] at h
 obtain ⟨h1,h2⟩:=h
 have key : ∀ (l : List PieceT) (n : Nat),rightGo n l = true → (∀ p ∈ l,p.Nn) ∧ sumW l ≤ 3200000 * l.length:=by
  intro l
  induction l with
  | nil => intro n _;exact ⟨by simp,by simp [sumW]⟩
  | cons p l ih =>
   intro n h
   rw [rightGo] at h
   simp only [Bool.and_eq_true,decide_eq_true_eq] at h
   obtain ⟨⟨⟨⟨⟨q1,q2⟩,q3⟩,q4⟩,q5⟩,q6⟩:=h
   obtain ⟨i1,i2⟩:=ih _ q6
   refine ⟨fun z hz => ?_,?_⟩
   ·rcases List.mem_cons.1 hz with rfl | hz
    ·exact ⟨q1,q3⟩
    ·exact i1 z hz
   ·simp only [sumW,PieceT.w,List.length_cons]
    omega
 obtain ⟨k1,k2⟩:=key l 0 h2
 exact ⟨k1,by omega⟩
theorem norm_nn {l : List PieceT} (h : rightP l = true) : (∀ p ∈ normP l,p.Nn) ∧ sumW (normP l) ≤ 40000000000:=by
 obtain ⟨h1,h2⟩:=right_nn h
 obtain ⟨k1,k2⟩:=foldl_ok (l:=l) Mk.nil_ok h1
 have:=k1.k
 have e : Mk.nil.w = 0:=rfl
 unfold Mk.w at k2
 unfold Mk.w at e
 exact ⟨k1.l,by unfold normP;omega⟩
end Bow
/- SP23: bounds of two edits that go on alike, in plain Lean. -/
namespace Bow
open Go
structure RowOk (r : List PieceT) : Prop where
 p : ∀ p ∈ r,p.Nn ∧ p.w ≤ 1000000000000
 l : r.length ≤ 1000000000000
theorem rowRun_split : ∀ (r : List PieceT),∃ e,r = e ++ (rowRun r).2
 | [] => ⟨[],rfl⟩
 | p :: r => by
  rw [rowRun]
  cases decide (0 < p.keep) with
  | true => exact ⟨[],rfl⟩
  | false =>
   cases decide (0 < p.drop) with
   | true => exact ⟨[],rfl⟩
   | false =>
    obtain ⟨e,h⟩:=rowRun_split r
    exact ⟨p :: e,by rw [cond_false,cond_false,List.cons_append,← h]⟩
theorem rowRun_ok {r : List PieceT} (h : RowOk r) : RowOk (rowRun r).2 ∧ 0 ≤ (rowRun r).1.1 ∧ (rowRun r).1.1 ≤ 1000000000000:=by
 obtain ⟨e,he⟩:=rowRun_split r
 have h1 : RowOk (rowRun r).2:=by
  have hl:=congrArg List.length he
  rw [List.length_append] at hl
  exact ⟨fun p hp => h.p p (he ▸ List.mem_append_right _ hp),by have:=h.l;omega⟩
 refine ⟨h1,?_⟩
 have key : ∀ (r : List PieceT),(∀ p ∈ r,p.Nn ∧ p.w ≤ 1000000000000) → 0 ≤ (rowRun r).1.1 ∧ (rowRun r).1.1 ≤ 1000000000000:=by
  intro r
  induction r with
  | nil => intro _;exact ⟨by decide,by decide⟩
  | cons p r ih =>
   intro h
   obtain ⟨h2,h3⟩:=h p List.mem_cons_self
   have h4:=h2.k
   have h5:=h2.d
   unfold PieceT.w at h3
   rw [rowRun]
   cases decide (0 < p.keep) with
   | true => exact ⟨h4,by rw [cond_true];simp only;omega⟩
   | false =>
    cases decide (0 < p.drop) with
    | true => exact ⟨h5,by rw [cond_false,cond_true];simp only;omega⟩
    | false => exact ih fun q hq => h q (List.mem_cons_of_mem _ hq)
 exact key r h.p
def rowR : List PieceT → Int
 | [] => 0
 | p :: l => p.keep + p.drop + p.put.length + rowR l
theorem rowR_le : ∀ {l : List PieceT},rowR l ≤ sumW l
 | [] => by simp [rowR,sumW]
 | p :: l => by
  have:=rowR_le (l:=l)
  simp only [rowR,sumW,PieceT.w]
  omega
theorem rowR_nn : ∀ {l : List PieceT},(∀ p ∈ l,p.Nn) → 0 ≤ rowR l
 | [],_ => by simp [rowR]
 | p :: l,h => by
  have h1:=h p List.mem_cons_self
  have:=h1.k
  have:=h1.d
  have:=rowR_nn fun q hq => h q (List.mem_cons_of_mem _ hq)
  simp only [rowR]
  omega
theorem RowOk.nn {r : List PieceT} (h : RowOk r) : ∀ p ∈ r,p.Nn:=fun p hp => (h.p p hp).1
theorem rowPut_len (r : List PieceT) : (rowPut r).2.length = r.length:=by
 cases r with
 | nil => rfl
 | cons p r =>
  rw [rowPut]
  cases decide (0 < p.keep) || p.put.isEmpty <;> rfl
theorem rowTake_len (n : Int) (r : List PieceT) : (rowTake n r).length = r.length:=by
 cases r with
 | nil => rfl
 | cons p r =>
  rw [rowTake]
  cases decide (0 < p.keep) <;> rfl
theorem rowPut_ok {r : List PieceT} (h : RowOk r) : RowOk (rowPut r).2 ∧ rowR (rowPut r).2 = rowR r - (rowPut r).1.length ∧ extN (rowPut r).2 = extN r ∧ ((rowPut r).1.length : Int) ≤ 1000000000000:=by
 cases r with
 | nil => exact ⟨h,by simp [rowPut,rowR],rfl,by simp [rowPut]⟩
 | cons p r =>
  rw [rowPut]
  cases decide (0 < p.keep) || p.put.isEmpty with
  | true => exact ⟨h,by simp,rfl,by simp⟩
  | false =>
   obtain ⟨h1,h2⟩:=h.p p List.mem_cons_self
   have h3:=h1.k
   have h4:=h1.d
   unfold PieceT.w at h2
   refine ⟨⟨fun q hq => ?_,h.l⟩,?_,rfl,?_⟩
   ·rcases List.mem_cons.1 hq with rfl | hq
    ·exact ⟨⟨h3,h4⟩,by unfold PieceT.w;simp only [List.length_nil];omega⟩
    ·exact h.p q (List.mem_cons_of_mem _ hq)
   ·simp only [cond_false,rowR,List.length_nil]
    omega
   ·simp only [cond_false]
    omega
theorem rowRun_R : ∀ {r : List PieceT},(∀ p ∈ r,p.Nn) → rowR (rowRun r).2 ≤ rowR r ∧ extN (rowRun r).2 ≤ extN r
 | [],_ => ⟨Int.le_refl _,Nat.le_refl _⟩
 | p :: r,h => by
  have h1:=h p List.mem_cons_self
  have:=h1.k
  have:=h1.d
  obtain ⟨i1,i2⟩:=rowRun_R fun q hq => h q (List.mem_cons_of_mem _ hq)
  rw [rowRun]
  cases decide (0 < p.keep) with
  | true => exact ⟨Int.le_refl _,Nat.le_refl _⟩
  | false =>
   cases decide (0 < p.drop) with
   | true => exact ⟨Int.le_refl _,Nat.le_refl _⟩
   | false =>
    simp only [cond_false,rowR,extN]
    constructor <;> omega
def RunIs (n : Int) (x s : Bool) (r : List PieceT) : Prop :=
 (s = false ∧ x = false ∧ n = 0 ∧ r = []) ∨ (s = true ∧ ∃ p l,r = p :: l ∧ ((x = false ∧ n = p.keep ∧ 0 < p.keep) ∨ (x = true ∧ n = p.drop ∧ 0 < p.drop ∧ ¬ 0 < p.keep)))
theorem rowRun_is : ∀ (r : List PieceT),RunIs (rowRun r).1.1 (rowRun r).1.2.1 (rowRun r).1.2.2 (rowRun r).2
 | [] => .inl ⟨rfl,rfl,rfl,rfl⟩
 | p :: r => by
  rw [rowRun]
  cases h1 : decide (0 < p.keep) with
  | true => exact .inr ⟨rfl,p,r,rfl,.inl ⟨rfl,rfl,of_decide_eq_true h1⟩⟩
  | false =>
   cases h2 : decide (0 < p.drop) with
   | true => exact .inr ⟨rfl,p,r,rfl,.inr ⟨rfl,rfl,of_decide_eq_true h2,of_decide_eq_false h1⟩⟩
   | false => exact rowRun_is r
theorem rowTake_ok {n m : Int} {x s : Bool} {r : List PieceT} (h : RowOk r) (hr : RunIs m x s r) (hn : 0 ≤ n) (hm : s = true → n ≤ m) : RowOk (rowTake n r) ∧ rowR (rowTake n r) = rowR r - (bif s then n else 0) ∧ (extN (rowTake n r) : Int) = extN r - (bif s then n else 0):=by
 rcases hr with ⟨rfl,-,-,rfl⟩ | ⟨rfl,p,l,rfl,hp⟩
 ·exact ⟨h,by simp [rowTake,rowR],by simp [rowTake,extN]⟩
 ·obtain ⟨h1,h2⟩:=h.p p List.mem_cons_self
  have h3:=h1.k
  have h4:=h1.d
  have h5:=hm rfl
  unfold PieceT.w at h2
  rcases hp with ⟨-,rfl,h6⟩ | ⟨-,rfl,h6,h7⟩
  ·rw [rowTake,decide_eq_true h6]
   refine ⟨⟨fun q hq => ?_,h.l⟩,?_,?_⟩
   ·rcases List.mem_cons.1 hq with rfl | hq
    ·exact ⟨⟨by show 0 ≤ p.keep - n;omega,h4⟩,by unfold PieceT.w;simp only;omega⟩
    ·exact h.p q (List.mem_cons_of_mem _ hq)
   ·simp only [cond_true,rowR]
    omega
   ·simp only [cond_true,extN]
    omega
  ·rw [rowTake,decide_eq_false h7]
   refine ⟨⟨fun q hq => ?_,h.l⟩,?_,?_⟩
   ·rcases List.mem_cons.1 hq with rfl | hq
    ·exact ⟨⟨h3,by show 0 ≤ p.drop - n;omega⟩,by unfold PieceT.w;simp only;omega⟩
    ·exact h.p q (List.mem_cons_of_mem _ hq)
   ·simp only [cond_false,cond_true,rowR]
    omega
   ·simp only [cond_false,cond_true,extN]
    omega
theorem bothR_eq {a b a' b' : List PieceT} {n m : Int} {x1 s1 y1 s2 : Bool} (h : rowRun a = ((n,x1,s1),a')) (h2 : rowRun b = ((m,y1,s2),b')) : bothR a b = bif !s1 && !s2 then ((0,false,false,false),a',b')
  else match bif !s1 then m else bif s2 then min n m else n with
   | k => ((k,x1,y1,true),rowTake k a',rowTake k b'):=by
 unfold bothR
 rw [h,h2]
theorem bothR_ok {a b : List PieceT} (ha : RowOk a) (hb : RowOk b) : RowOk (bothR a b).2.1 ∧ RowOk (bothR a b).2.2 ∧ 0 ≤ (bothR a b).1.1 ∧ (bothR a b).1.1 ≤ 1000000000000 ∧
  ((bothR a b).1.2.2.2 = true → 1 ≤ (bothR a b).1.1 ∧ rowR (bothR a b).2.1 + rowR (bothR a b).2.2 ≤ rowR a + rowR b - (bothR a b).1.1 ∧ extN (bothR a b).2.1 + extN (bothR a b).2.2 < extN a + extN b) ∧
  ((bothR a b).1.2.2.2 = false → rowR (bothR a b).2.1 + rowR (bothR a b).2.2 ≤ rowR a + rowR b):=by
 obtain ⟨oa,na,na'⟩:=rowRun_ok ha
 obtain ⟨ob,nb,nb'⟩:=rowRun_ok hb
 obtain ⟨ra,ea⟩:=rowRun_R ha.nn
 obtain ⟨rb,eb⟩:=rowRun_R hb.nn
 have ia:=rowRun_is a
 have ib:=rowRun_is b
 obtain ⟨⟨⟨n,x1,s1⟩,a'⟩,hra⟩ : ∃ z,rowRun a = z:=⟨_,rfl⟩
 obtain ⟨⟨⟨m,y1,s2⟩,b'⟩,hrb⟩ : ∃ z,rowRun b = z:=⟨_,rfl⟩
 rw [bothR_eq hra hrb]
 rw [hra] at oa na na' ra ea ia
 rw [hrb] at ob nb nb' rb eb ib
 simp only at oa na na' ra ea ia ob nb nb' rb eb ib
 have pa : s1 = true → 1 ≤ n:=by
  rcases ia with ⟨rfl,-⟩ | ⟨-,p,l,-,⟨-,h,h'⟩ | ⟨-,h,h',-⟩⟩
  ·intro h;cases h
  ·intro _;omega
  ·intro _;omega
 have pb : s2 = true → 1 ≤ m:=by
  rcases ib with ⟨rfl,-⟩ | ⟨-,p,l,-,⟨-,h,h'⟩ | ⟨-,h,h',-⟩⟩
  ·intro h;cases h
  ·intro _;omega
  ·intro _;omega
 cases s1 with
 | false =>
  cases s2 with
  | false => exact ⟨oa,ob,Int.le_refl 0,by show (0 : Int) ≤ 1000000000000;omega,fun h => (by cases h),fun _ => by show rowR a' + rowR b' ≤ _;omega⟩
  | true =>
   obtain ⟨t1,t2,t3⟩:=rowTake_ok oa ia nb (fun h => by cases h)
   obtain ⟨u1,u2,u3⟩:=rowTake_ok ob ib nb (fun _ => Int.le_refl _)
   have:=pb rfl
   refine ⟨t1,u1,nb,nb',fun _ => ⟨this,?_,?_⟩,fun h => by cases h⟩
   ·simp only [Bool.not_false,Bool.not_true,Bool.and_false,cond_true,cond_false] at t2 u2 ⊢
    omega
   ·simp only [Bool.not_false,Bool.not_true,Bool.and_false,cond_true,cond_false] at t3 u3 ⊢
    omega
 | true =>
  cases s2 with
  | false =>
   obtain ⟨t1,t2,t3⟩:=rowTake_ok oa ia na (fun _ => Int.le_refl _)
   obtain ⟨u1,u2,u3⟩:=rowTake_ok ob ib na (fun h => by cases h)
   have:=pa rfl
   refine ⟨t1,u1,na,na',fun _ => ⟨this,?_,?_⟩,fun h => by cases h⟩
   ·simp only [Bool.not_false,Bool.not_true,Bool.false_and,cond_true,cond_false] at t2 u2 ⊢
    omega
   ·simp only [Bool.not_false,Bool.not_true,Bool.false_and,cond_true,cond_false] at t3 u3 ⊢
    omega
  | true =>
   have hmin : 0 ≤ min n m ∧ min n m ≤ n ∧ min n m ≤ m:=by omega
   obtain ⟨t1,t2,t3⟩:=rowTake_ok oa ia hmin.1 (fun _ => hmin.2.1)
   obtain ⟨u1,u2,u3⟩:=rowTake_ok ob ib hmin.1 (fun _ => hmin.2.2)
   have:=pa rfl
   have:=pb rfl
   refine ⟨t1,u1,hmin.1,?_,fun _ => ⟨?_,?_,?_⟩,fun h => by cases h⟩
   ·show min n m ≤ _
    omega
   ·show 1 ≤ min n m
    omega
   ·simp only [Bool.not_true,Bool.false_and,cond_true,cond_false] at t2 u2 ⊢
    omega
   ·simp only [Bool.not_true,Bool.false_and,cond_true,cond_false] at t3 u3 ⊢
    omega
theorem norm_ok {l : List PieceT} (h : rightP l = true) : RowOk (normP l) ∧ rowR (normP l) ≤ 40000000000:=by
 obtain ⟨h1,h2⟩:=norm_nn h
 have h3:=sumW_len h1
 have h4:=rowR_le (l:=normP l)
 exact ⟨⟨fun p hp => ⟨h1 p hp,by have:=sumW_mem h1 p hp;omega⟩,by omega⟩,by omega⟩
theorem Mk.put_ok2 {m : Mk} {s : List UInt8} (h : m.Ok) : (m.put s).Ok ∧ (m.put s).w ≤ m.w + 2 * s.length:=by
 refine ⟨(Mk.put_ok h).1,?_⟩
 cases s with
 | nil => exact Int.le_of_eq (by simp [Mk.put])
 | cons a s =>
  have:=(Mk.put_ok (s:=a :: s) h).2
  simp only [List.length_cons] at this ⊢
  omega
theorem Mk.drop_ok2 {m : Mk} {n : Int} (h : m.Ok) (hn : 0 ≤ n) : (m.drop n).Ok ∧ (m.drop n).w ≤ m.w + 2 * n:=by
 refine ⟨(Mk.drop_ok h hn).1,?_⟩
 by_cases h1 : 0 < n
 ·have:=(Mk.drop_ok (n:=n) h hn).2
  omega
 ·have e : m.drop n = m:=by unfold Mk.drop;rw [decide_eq_false h1];rfl
  rw [e]
  omega
structure Tr.Ok (s : Tr) : Prop where
 p : RowOk s.p
 q : RowOk s.q
 x : s.x.Ok
 y : s.y.Ok
 wx : s.x.w + 3 * (rowR s.p + rowR s.q) ≤ 900000000000
 wy : s.y.w + 3 * (rowR s.p + rowR s.q) ≤ 900000000000
theorem Tr.puts_ok {s : Tr} (h : s.Ok) (prior : Bool) : (s.puts prior).Ok ∧ extN (s.puts prior).p = extN s.p ∧ extN (s.puts prior).q = extN s.q:=by
 obtain ⟨p,q,x,y⟩:=s
 obtain ⟨hp,hq,hx,hy,wx,wy⟩:=h
 simp only at hp hq hx hy wx wy
 obtain ⟨op,rp,ep,-⟩:=rowPut_ok hp
 obtain ⟨oq,rq,eq,-⟩:=rowPut_ok hq
 have e : Tr.puts prior ⟨p,q,x,y⟩ = bif prior then ⟨(rowPut p).2,(rowPut q).2,(x.put (rowPut p).1).kept (rowPut q).1.length,(y.kept (rowPut p).1.length).put (rowPut q).1⟩ else ⟨(rowPut p).2,(rowPut q).2,(x.kept (rowPut q).1.length).put (rowPut p).1,(y.put (rowPut q).1).kept (rowPut p).1.length⟩:=rfl
 rw [e]
 cases prior with
 | true =>
  obtain ⟨a1,a2⟩:=Mk.put_ok2 (s:=(rowPut p).1) hx
  obtain ⟨b1,b2⟩:=Mk.kept_ok (n:=((rowPut q).1.length : Int)) a1 (Int.natCast_nonneg _)
  obtain ⟨c1,c2⟩:=Mk.kept_ok (n:=((rowPut p).1.length : Int)) hy (Int.natCast_nonneg _)
  obtain ⟨d1,d2⟩:=Mk.put_ok2 (s:=(rowPut q).1) c1
  exact ⟨⟨op,oq,b1,d1,by simp only [cond_true];omega,by simp only [cond_true];omega⟩,ep,eq⟩
 | false =>
  obtain ⟨a1,a2⟩:=Mk.kept_ok (n:=((rowPut q).1.length : Int)) hx (Int.natCast_nonneg _)
  obtain ⟨b1,b2⟩:=Mk.put_ok2 (s:=(rowPut p).1) a1
  obtain ⟨c1,c2⟩:=Mk.put_ok2 (s:=(rowPut q).1) hy
  obtain ⟨d1,d2⟩:=Mk.kept_ok (n:=((rowPut p).1.length : Int)) c1 (Int.natCast_nonneg _)
  exact ⟨⟨op,oq,b1,d1,by simp only [cond_false];omega,by simp only [cond_false];omega⟩,ep,eq⟩
theorem Tr.does_ok {p q : List PieceT} {x y : Mk} {n R : Int} (hp : RowOk p) (hq : RowOk q) (hx : x.Ok) (hy : y.Ok) (hn : 0 ≤ n) (hR : rowR p + rowR q ≤ R - n) (wx : x.w + 3 * R ≤ 900000000000) (wy : y.w + 3 * R ≤ 900000000000) (d g : Bool) :
  (Tr.does ⟨p,q,x,y⟩ n d g).Ok ∧ (Tr.does ⟨p,q,x,y⟩ n d g).p = p ∧ (Tr.does ⟨p,q,x,y⟩ n d g).q = q:=by
 obtain ⟨a1,a2⟩:=Mk.drop_ok2 (n:=n) hx hn
 obtain ⟨b1,b2⟩:=Mk.drop_ok2 (n:=n) hy hn
 obtain ⟨c1,c2⟩:=Mk.kept_ok (n:=n) hx hn
 obtain ⟨d1,d2⟩:=Mk.kept_ok (n:=n) hy hn
 cases d <;> cases g
 ·exact ⟨⟨hp,hq,c1,d1,by show (x.kept n).w + _ ≤ _;simp only [Tr.does,cond_false];omega,by show (y.kept n).w + _ ≤ _;simp only [Tr.does,cond_false];omega⟩,rfl,rfl⟩
 ·exact ⟨⟨hp,hq,hx,b1,by show x.w + _ ≤ _;simp only [Tr.does,cond_false,cond_true];omega,by show (y.drop n).w + _ ≤ _;simp only [Tr.does,cond_false,cond_true];omega⟩,rfl,rfl⟩
 ·exact ⟨⟨hp,hq,a1,hy,by show (x.drop n).w + _ ≤ _;simp only [Tr.does,cond_false,cond_true];omega,by show y.w + _ ≤ _;simp only [Tr.does,cond_false,cond_true];omega⟩,rfl,rfl⟩
 ·exact ⟨⟨hp,hq,hx,hy,by show x.w + _ ≤ _;simp only [Tr.does,cond_true];omega,by show y.w + _ ≤ _;simp only [Tr.does,cond_true];omega⟩,rfl,rfl⟩
theorem Tr.go_succ {prior : Bool} {f : Nat} {s : Tr} {p q p' q' : List PieceT} {x y : Mk} {n : Int} {d g any : Bool} (h1 : s.puts prior = ⟨p,q,x,y⟩) (h2 : bothR p q = ((n,d,g,any),p',q')) :
  Tr.go prior (f + 1) s = bif any then Tr.go prior f (Tr.does ⟨p',q',x,y⟩ n d g) else ⟨p',q',x,y⟩:=by
 rw [Tr.go,h1]
 simp only
 rw [h2]
end Bow
/- SP29: two edits of one leaf behind each other; what becomes of any operation behind any other one, in plain Lean. -/
namespace Bow
open Go
def editO (b a : OpT) (prior : Bool) : OpT:={ b with pieces:=(transP b.pieces a.pieces prior).1 }
def behindE (b a : OpT) (prior : Bool) : List OpT × Int :=
 bif !soundO a || !soundO b then ([],80) else bif decide ((transP b.pieces a.pieces prior).2.2 = 0) && formedB (editO b a prior) then ([bareO (editO b a prior)],0) else ([],3)
def behindX (b a : OpT) (prior : Bool) : List OpT × Int:=bif bothEdit b a then behindE b a prior else behindO b a prior
theorem formed_pieces {o : OpT} (h : formedB o = true) (hk : o.kind = 6) : rightP o.pieces = true:=by
 unfold formedB at h
 simpa [hk] using (Bool.and_eq_true_iff.1 h).2
theorem right_bounds {l : List PieceT} (h : rightP l = true) : l.length ≤ 4096 ∧ ∀ p ∈ l,p.put.length ≤ 1000000000:=by
 have h1 : l.length ≤ 4096:=by
  unfold rightP at h
  rw [Bool.and_eq_true,decide_eq_true_eq] at h
  exact h.1
 obtain ⟨h2,h3⟩:=right_nn h
 have h4:=sumW_mem h2
 refine ⟨h1,fun p hp => ?_⟩
 have : ∀ (l : List PieceT) (n : Nat),rightGo n l = true → ∀ p ∈ l,p.put.length ≤ 1048576:=by
  intro l
  induction l with
  | nil => intro n _ p hp;cases hp
  | cons q l ih =>
   intro n h p hp
   rw [rightGo] at h
   simp only [Bool.and_eq_true,decide_eq_true_eq] at h
   rcases List.mem_cons.1 hp with rfl | hp
   ·omega
   ·exact ih _ h.2 p hp
 unfold rightP at h
 rw [Bool.and_eq_true] at h
 have:=this l 0 h.2 p hp
 omega
theorem trans_right (a b : List PieceT) (prior : Bool) : rightP (transP a b prior).1 = true ∧ rightP (transP a b prior).2.1 = true:=by
 unfold transP
 cases h1 : !rightP a || !rightP b with
 | true => exact ⟨rfl,rfl⟩
 | false =>
  simp only [cond_false]
  cases Tr.go prior (extN (normP a) + extN (normP b) + 1) ⟨normP a,normP b,Mk.nil,Mk.nil⟩ with
  | mk p q x y =>
   simp only
   cases h2 : !rightP x.l || !rightP y.l with
   | true => exact ⟨rfl,rfl⟩
   | false =>
    simp only [Bool.or_eq_false_iff,Bool.not_eq_false'] at h2
    exact h2
theorem row_len (b a : OpT) (prior : Bool) : (rowO b a prior).length ≤ 2:=by
 unfold rowO
 cases decide (a.kind = 2) with
 | true =>
  cases within a.path b.path with
  | true => exact Nat.zero_le _
  | false => cases decide (b.kind = 3) && within a.path b.to <;> exact Nat.le_succ _
 | false =>
  cases wonO b a with
  | true => cases prior <;> simp
  | false =>
   cases decide (a.kind = 3) with
   | false => exact Nat.le_succ _
   | true =>
    cases decide (b.kind = 2) with
    | true => cases within b.path a.path && (!decide (b.path = a.path) && !within b.path a.to) <;> simp
    | false => cases decide (b.kind = 3) && (within b.path a.to && within a.path b.to) <;> cases prior <;> simp
theorem bothEdit_comm (a b : OpT) : bothEdit a b = bothEdit b a:=by
 unfold bothEdit
 have : decide (b.path = a.path) = decide (a.path = b.path):=decide_eq_decide.2 ⟨fun h => h.symm,fun h => h.symm⟩
 rw [this]
 cases decide (a.kind = 6) <;> cases decide (b.kind = 6) <;> rfl
def bothX (a b : OpT) (prior : Bool) : List OpT × List OpT × Int :=
 bif decide ((behindX a b prior).2 = 0) then (bif decide ((behindX b a (!prior)).2 = 0) then ((behindX a b prior).1,(behindX b a (!prior)).1,0) else ([],[],(behindX b a (!prior)).2)) else ([],[],(behindX a b prior).2)
def bareL (l : List OpT) : List OpT:=l.map bareO
end Bow
/- SP24: lists of operations behind each other, in plain Lean; that it ends. -/
namespace Bow
open Go
def muchP (xs ys : List OpT) : Bool:=decide (4096 < xs.length) || decide (4096 < ys.length)
def bringS (prior : Bool) (f : List OpT → List OpT → Option (List OpT × List OpT × Int)) (xs ys : List OpT) : Option (List OpT × List OpT × Int) :=
 bif muchP xs ys then some ([],[],3)
 else match xs,ys with
  | [],ys => some ([],ys,0)
  | a :: xs,[] => some (a :: xs,[],0)
  | a :: a' :: xs,b :: ys => match f [a] (b :: ys) with
   | none => none
   | some (x,y,e) => bif !decide (e = 0) then some ([],[],e) else match f (a' :: xs) y with
    | none => none
    | some (z,w,e) => bif !decide (e = 0) then some ([],[],e) else bif muchP (x ++ z) w then some ([],[],3) else some (x ++ z,w,0)
  | [a],b :: b' :: ys => match f [a] [b] with
   | none => none
   | some (x,y,e) => bif !decide (e = 0) then some ([],[],e) else match f x (b' :: ys) with
    | none => none
    | some (z,w,e) => bif !decide (e = 0) then some ([],[],e) else bif muchP z (y ++ w) then some ([],[],3) else some (z,y ++ w,0)
  | [a],[b] => some (bothX a b prior)
def bringF (prior : Bool) : Nat → List OpT → List OpT → Option (List OpT × List OpT × Int)
 | 0 => fun _ _ => none
 | n + 1 => bringS prior (bringF prior n)
theorem bringF_succ (prior : Bool) (n : Nat) (xs ys : List OpT) : bringF prior (n + 1) xs ys = bringS prior (bringF prior n) xs ys:=rfl
def mv1 (o : OpT) : Nat:=bif decide (o.kind = 3) then 1 else 0
def mvs (l : List OpT) : Nat:=(l.map mv1).sum
theorem mvs_nil : mvs [] = 0:=rfl
theorem mvs_cons (o : OpT) (l : List OpT) : mvs (o :: l) = mv1 o + mvs l:=by simp [mvs]
theorem mvs_append (a b : List OpT) : mvs (a ++ b) = mvs a + mvs b:=by simp [mvs]
theorem mv1_le (o : OpT) : mv1 o ≤ 1:=by unfold mv1;cases decide (o.kind = 3) <;> simp
theorem bare_kind (o : OpT) : (bareO o).kind = o.kind:=by
 unfold bareO
 cases h1 : o.kind == 1 with
 | true => exact (eq_of_beq h1).symm
 | false => cases h2 : o.kind == 2 with
  | true => exact (eq_of_beq h2).symm
  | false => cases h3 : o.kind == 3 with
   | true => exact (eq_of_beq h3).symm
   | false => cases h4 : o.kind == 4 with
    | true => exact (eq_of_beq h4).symm
    | false => cases h5 : o.kind == 5 with
     | true => exact (eq_of_beq h5).symm
     | false => cases h6 : o.kind == 6 with
      | true => exact (eq_of_beq h6).symm
      | false => rfl
theorem mv1_bare (o : OpT) : mv1 (bareO o) = mv1 o:=by unfold mv1;rw [bare_kind]
theorem mvs_bare (l : List OpT) : mvs (l.map bareO) = mvs l:=by
 induction l with
 | nil => rfl
 | cons o l ih => rw [List.map_cons,mvs_cons,mvs_cons,ih,mv1_bare]
theorem mv1_of {o o' : OpT} (h : o.kind = o'.kind) : mv1 o = mv1 o':=by unfold mv1;rw [h]
theorem shifted_kind (b a : OpT) (p : Bool) : (shiftedO b a p).kind = b.kind:=by
 unfold shiftedO
 cases decide (b.kind = 1) <;> cases decide (b.kind = 3) <;> rfl
theorem mv1_drop (p : List Int) : mv1 (dropO p) = 0:=rfl
theorem row_two {b a : OpT} {p : Bool} (h : (rowO b a p).length = 2) : rowO a b (!p) = [] ∧ ((a.kind = 3 ∧ b.kind = 2 ∧ mvs (rowO b a p) = 0) ∨ (a.kind = 3 ∧ b.kind = 3 ∧ p = true ∧ mvs (rowO b a p) ≤ 2)):=by
 unfold rowO at h ⊢
 cases h1 : decide (a.kind = 2) with
 | true =>
  rw [h1] at h
  cases h2 : within a.path b.path with
  | true => rw [h2] at h;cases h
  | false =>
   rw [h2] at h
   cases h3 : decide (b.kind = 3) && within a.path b.to <;> (rw [h3] at h;cases h)
 | false =>
  rw [h1] at h
  cases h2 : wonO b a with
  | true => rw [h2] at h;cases p <;> cases h
  | false =>
   rw [h2] at h
   have k1 : a.kind ≠ 2:=of_decide_eq_false h1
   cases h3 : decide (a.kind = 3) with
   | false => rw [h3] at h;cases h
   | true =>
    rw [h3] at h
    have k3 : a.kind = 3:=of_decide_eq_true h3
    cases h4 : decide (b.kind = 2) with
    | true =>
     rw [h4] at h
     have k4 : b.kind = 2:=of_decide_eq_true h4
     cases h5 : within b.path a.path && (!decide (b.path = a.path) && !within b.path a.to) with
     | false => rw [h5] at h;cases h
     | true =>
      rw [Bool.and_eq_true] at h5
      refine ⟨?_,.inl ⟨k3,k4,?_⟩⟩
      ·rw [h5.1];rfl
      ·simp [mvs_cons,mvs_nil,mv1_drop]
    | false =>
     rw [h4] at h
     cases h5 : decide (b.kind = 3) && (within b.path a.to && within a.path b.to) with
     | false => rw [h5] at h;cases h
     | true =>
      rw [h5] at h
      have h5':=h5
      simp only [Bool.and_eq_true,decide_eq_true_eq] at h5
      obtain ⟨k5,w1,w2⟩:=h5
      cases p with
      | false => cases h
      | true =>
       have hwon : wonO a b = false:=by
        unfold wonO at h2 ⊢
        simp only [k3,k5] at h2 ⊢
        have : decide (b.path = a.path) = decide (a.path = b.path):=decide_eq_decide.2 ⟨fun h => h.symm,fun h => h.symm⟩
        simpa [this] using h2
       refine ⟨?_,.inr ⟨k3,k5,rfl,?_⟩⟩
       ·rw [hwon]
        simp [k5,w1,w2]
       ·have:=mv1_le (undoO a)
        have:=mv1_le b
        simp [mvs_cons,mvs_nil]
        omega
theorem row_one {b a : OpT} {p : Bool} (h : (rowO b a p).length ≠ 2) : mvs (rowO b a p) ≤ mv1 b:=by
 have e0 : mvs [] ≤ mv1 b:=Nat.zero_le _
 have e1 : mvs [shiftedO b a p] ≤ mv1 b:=Nat.le_of_eq (by simp [mvs_cons,mvs_nil,mv1_of (shifted_kind b a p)])
 have e2 : ∀ q,mvs [dropO q] ≤ mv1 b:=fun q => by simp [mvs_cons,mvs_nil,mv1_drop]
 unfold rowO at h ⊢
 cases h1 : decide (a.kind = 2) with
 | true =>
  cases h2 : within a.path b.path with
  | true => exact e0
  | false => cases h3 : decide (b.kind = 3) && within a.path b.to with
   | true => exact e2 _
   | false => exact e1
 | false =>
  rw [h1] at h
  cases h2 : wonO b a with
  | true => cases p with
   | true => exact e1
   | false => exact e0
  | false =>
   rw [h2] at h
   cases h3 : decide (a.kind = 3) with
   | false => exact e1
   | true =>
    rw [h3] at h
    cases h4 : decide (b.kind = 2) with
    | true =>
     rw [h4] at h
     cases h5 : within b.path a.path && (!decide (b.path = a.path) && !within b.path a.to) with
     | false => exact e1
     | true => rw [h5] at h;exact absurd rfl h
    | false =>
     rw [h4] at h
     cases h5 : decide (b.kind = 3) && (within b.path a.to && within a.path b.to) with
     | false => exact e1
     | true =>
      rw [h5] at h
      cases p with
      | true => exact absurd rfl h
      | false => exact e0
structure Inv (prior : Bool) (xs ys x y : List OpT) : Prop where
 s : x.length + y.length ≤ xs.length + ys.length
 m : mvs x + mvs y ≤ mvs xs + mvs ys
 t : x.length + y.length = xs.length + ys.length → mvs x + mvs y = mvs xs + mvs ys → (bif prior then y.length else x.length) ≤ (bif prior then ys.length else xs.length)
theorem sound_kinds {b a : OpT} {p : Bool} {l : List OpT} (hs : soundO a = true ∧ soundO b = true) (he : bothEdit b a = false) (h : behindX b a p = (l,0)) : l = (rowO b a p).map bareO:=by
 unfold behindX at h
 rw [he] at h
 unfold behindO at h
 rw [hs.1,hs.2] at h
 simp only [Bool.not_true,Bool.or_self,cond_false] at h
 cases hf : (rowO b a p).all formedB with
 | true => rw [hf] at h;exact (Prod.mk.inj h).1.symm
 | false => rw [hf] at h;simp at h
theorem behX_sound {b a : OpT} {p : Bool} {l : List OpT} (h : behindX b a p = (l,0)) : soundO a = true ∧ soundO b = true:=by
 unfold behindX at h
 cases he : bothEdit b a with
 | true =>
  rw [he] at h
  unfold behindE at h
  cases ha : soundO a <;> cases hb : soundO b <;> simp_all
 | false =>
  rw [he] at h
  unfold behindO at h
  cases ha : soundO a <;> cases hb : soundO b <;> simp_all
theorem bothX_ok {a b : OpT} {prior : Bool} {x y : List OpT} (h : bothX a b prior = (x,y,0)) : behindX a b prior = (x,0) ∧ behindX b a (!prior) = (y,0):=by
 unfold bothX at h
 by_cases h1 : (behindX a b prior).2 = 0
 ·by_cases h2 : (behindX b a (!prior)).2 = 0
  ·rw [decide_eq_true h1,decide_eq_true h2] at h
   injection h with e1 e2
   injection e2 with e2 _
   exact ⟨Prod.ext e1 h1,Prod.ext e2 h2⟩
  ·rw [decide_eq_true h1,decide_eq_false h2] at h
   injection h with _ e2
   injection e2 with _ e2
   exact absurd e2 h2
 ·rw [decide_eq_false h1] at h
  injection h with _ e2
  injection e2 with _ e2
  exact absurd e2 h1
theorem edit_mv {b a : OpT} {p : Bool} {l : List OpT} (he : bothEdit b a = true) (h : behindX b a p = (l,0)) : l.length = 1 ∧ mvs l = 0:=by
 unfold behindX at h
 rw [he] at h
 unfold behindE at h
 have hk : b.kind = 6:=by
  unfold bothEdit at he
  simp only [Bool.and_eq_true,decide_eq_true_eq] at he
  exact he.2.1
 cases ha : !soundO a || !soundO b with
 | true => rw [ha] at h;simp at h
 | false =>
  rw [ha] at h
  cases hc : decide ((transP b.pieces a.pieces p).2.2 = 0) && formedB (editO b a p) with
  | false => rw [hc] at h;simp at h
  | true =>
   rw [hc] at h
   have:=(Prod.mk.inj h).1
   subst this
   refine ⟨rfl,?_⟩
   have : mv1 (bareO (editO b a p)) = 0:=by
    rw [mv1_bare]
    unfold mv1
    have : (editO b a p).kind = 6:=hk
    simp [this]
   simp [mvs_cons,mvs_nil,this]
theorem cell_inv {a b : OpT} {prior : Bool} {x y : List OpT} (h : bothX a b prior = (x,y,0)) : Inv prior [a] [b] x y:=by
 obtain ⟨h1,h2⟩:=bothX_ok h
 have hs:=behX_sound h1
 cases he : bothEdit a b with
 | true =>
  obtain ⟨q1,q2⟩:=edit_mv he h1
  obtain ⟨q3,q4⟩:=edit_mv (by rw [bothEdit_comm];exact he) h2
  exact ⟨by simp [q1,q3],by omega,fun _ _ => by cases prior <;> simp [q1,q3]⟩
 | false =>
  have ex:=sound_kinds hs he h1
  have ey:=sound_kinds ⟨hs.2,hs.1⟩ (by rw [bothEdit_comm];exact he) h2
  have lx : x.length = (rowO a b prior).length:=by rw [ex];simp
  have ly : y.length = (rowO b a (!prior)).length:=by rw [ey];simp
  have mx : mvs x = mvs (rowO a b prior):=by rw [ex,mvs_bare]
  have my : mvs y = mvs (rowO b a (!prior)):=by rw [ey,mvs_bare]
  have ba:=row_len a b prior
  have bb:=row_len b a (!prior)
  by_cases c1 : (rowO a b prior).length = 2
  ·obtain ⟨r0,rk⟩:=row_two c1
   rw [r0] at ly my
   rcases rk with ⟨k1,k2,k3⟩ | ⟨k1,k2,k3,k4⟩
   ·have : mv1 b = 1:=by unfold mv1;simp [k1]
    refine ⟨by simp only [List.length_cons,List.length_nil] at ly ⊢;omega,by simp only [mvs_cons,mvs_nil] at my ⊢;omega,fun _ hm => ?_⟩
    simp only [mvs_cons,mvs_nil] at my hm
    omega
   ·have q1 : mv1 b = 1:=by unfold mv1;simp [k1]
    have q2 : mv1 a = 1:=by unfold mv1;simp [k2]
    refine ⟨by simp only [List.length_cons,List.length_nil] at ly ⊢;omega,by simp only [mvs_cons,mvs_nil] at my ⊢;omega,fun _ _ => ?_⟩
    rw [k3]
    simp only [cond_true,List.length_nil] at ly ⊢
    omega
  ·have m1:=row_one c1
   by_cases c2 : (rowO b a (!prior)).length = 2
   ·obtain ⟨r0,rk⟩:=row_two c2
    rw [Bool.not_not] at r0
    rw [r0] at lx mx
    rcases rk with ⟨k1,k2,k3⟩ | ⟨k1,k2,k3,k4⟩
    ·have : mv1 a = 1:=by unfold mv1;simp [k1]
     refine ⟨by simp only [List.length_cons,List.length_nil] at lx ⊢;omega,by simp only [mvs_cons,mvs_nil] at mx ⊢;omega,fun _ hm => ?_⟩
     simp only [mvs_cons,mvs_nil] at mx hm
     omega
    ·have q1 : mv1 a = 1:=by unfold mv1;simp [k1]
     have q2 : mv1 b = 1:=by unfold mv1;simp [k2]
     have hp : prior = false:=by simpa using k3
     refine ⟨by simp only [List.length_cons,List.length_nil] at lx ⊢;omega,by simp only [mvs_cons,mvs_nil] at mx ⊢;omega,fun _ _ => ?_⟩
     rw [hp]
     simp only [cond_false,List.length_nil] at lx ⊢
     omega
   ·have m2:=row_one c2
    refine ⟨by simp only [List.length_cons,List.length_nil];omega,by simp only [mvs_cons,mvs_nil];omega,fun _ _ => ?_⟩
    cases prior <;> simp only [cond_true,cond_false,List.length_cons,List.length_nil] <;> omega
theorem bringF_inv (prior : Bool) : ∀ (n : Nat) (xs ys x y : List OpT),bringF prior n xs ys = some (x,y,0) → Inv prior xs ys x y
 | 0,_,_,_,_,h => by cases h
 | n + 1,xs,ys,x,y,h => by
  rw [bringF_succ] at h
  unfold bringS at h
  cases hm : muchP xs ys with
  | true => rw [hm] at h;simp at h
  | false =>
   rw [hm,cond_false] at h
   match xs,ys,h with
   | [],ys,h =>
    simp only [Option.some.injEq,Prod.mk.injEq] at h
    obtain ⟨rfl,rfl,_⟩:=h
    exact ⟨Nat.le_refl _,Nat.le_refl _,fun _ _ => Nat.le_refl _⟩
   | a :: xs,[],h =>
    simp only [Option.some.injEq,Prod.mk.injEq] at h
    obtain ⟨rfl,rfl,_⟩:=h
    exact ⟨Nat.le_refl _,Nat.le_refl _,fun _ _ => Nat.le_refl _⟩
   | [a],[b],h =>
    simp only [Option.some.injEq] at h
    exact cell_inv h
   | a :: a' :: xs,b :: ys,h =>
    simp only at h
    cases h1 : bringF prior n [a] (b :: ys) with
    | none => rw [h1] at h;cases h
    | some r =>
     obtain ⟨x1,y1,e1⟩:=r
     rw [h1] at h
     simp only at h
     by_cases he : e1 = 0
     ·subst he
      simp only [decide_true,Bool.not_true,cond_false] at h
      cases h2 : bringF prior n (a' :: xs) y1 with
      | none => rw [h2] at h;cases h
      | some r =>
       obtain ⟨z,w,e2⟩:=r
       rw [h2] at h
       simp only at h
       by_cases he : e2 = 0
       ·subst he
        simp only [decide_true,Bool.not_true,cond_false] at h
        cases hmm : muchP (x1 ++ z) w with
        | true => rw [hmm] at h;simp at h
        | false =>
         rw [hmm] at h
         simp only [cond_false,Option.some.injEq,Prod.mk.injEq,and_true] at h
         obtain ⟨rfl,rfl⟩:=h
         have i1:=bringF_inv prior n _ _ _ _ h1
         have i2:=bringF_inv prior n _ _ _ _ h2
         have s1:=i1.s
         have s2:=i2.s
         have m1:=i1.m
         have m2:=i2.m
         simp only [mvs_cons,mvs_nil,List.length_cons,List.length_nil] at s1 s2 m1 m2
         refine ⟨by simp only [List.length_append,List.length_cons];omega,by simp only [mvs_append,mvs_cons];omega,fun q1 q2 => ?_⟩
         simp only [List.length_append,List.length_cons,mvs_append,mvs_cons] at q1 q2
         have t1:=i1.t (by simp only [List.length_cons,List.length_nil];omega) (by simp only [mvs_cons,mvs_nil];omega)
         have t2:=i2.t (by simp only [List.length_cons];omega) (by simp only [mvs_cons];omega)
         cases prior <;> simp only [cond_true,cond_false,List.length_cons,List.length_nil,List.length_append] at t1 t2 ⊢ <;> omega
       ·simp [he] at h
     ·simp [he] at h
   | [a],b :: b' :: ys,h =>
    simp only at h
    cases h1 : bringF prior n [a] [b] with
    | none => rw [h1] at h;cases h
    | some r =>
     obtain ⟨x1,y1,e1⟩:=r
     rw [h1] at h
     simp only at h
     by_cases he : e1 = 0
     ·subst he
      simp only [decide_true,Bool.not_true,cond_false] at h
      cases h2 : bringF prior n x1 (b' :: ys) with
      | none => rw [h2] at h;cases h
      | some r =>
       obtain ⟨z,w,e2⟩:=r
       rw [h2] at h
       simp only at h
       by_cases he : e2 = 0
       ·subst he
        simp only [decide_true,Bool.not_true,cond_false] at h
        cases hmm : muchP z (y1 ++ w) with
        | true => rw [hmm] at h;simp at h
        | false =>
         rw [hmm] at h
         simp only [cond_false,Option.some.injEq,Prod.mk.injEq,and_true] at h
         obtain ⟨rfl,rfl⟩:=h
         have i1:=bringF_inv prior n _ _ _ _ h1
         have i2:=bringF_inv prior n _ _ _ _ h2
         have s1:=i1.s
         have s2:=i2.s
         have m1:=i1.m
         have m2:=i2.m
         simp only [mvs_cons,mvs_nil,List.length_cons,List.length_nil] at s1 s2 m1 m2
         refine ⟨by simp only [List.length_append,List.length_cons,List.length_nil];omega,by simp only [mvs_append,mvs_cons,mvs_nil];omega,fun q1 q2 => ?_⟩
         simp only [List.length_append,List.length_cons,List.length_nil,mvs_append,mvs_cons,mvs_nil] at q1 q2
         have t1:=i1.t (by simp only [List.length_cons,List.length_nil];omega) (by simp only [mvs_cons,mvs_nil];omega)
         have t2:=i2.t (by simp only [List.length_cons];omega) (by simp only [mvs_cons];omega)
         cases prior <;> simp only [cond_true,cond_false,List.length_cons,List.length_nil,List.length_append] at t1 t2 ⊢ <;> omega
       ·simp [he] at h
     ·simp [he] at h
theorem bringF_err {prior : Bool} : ∀ {n : Nat} {xs ys x y : List OpT} {e : Int},bringF prior n xs ys = some (x,y,e) → e ≠ 0 → x = [] ∧ y = []
 | 0,_,_,_,_,_,h,_ => by cases h
 | n + 1,xs,ys,x,y,e,h,he => by
  rw [bringF_succ] at h
  unfold bringS at h
  cases hm : muchP xs ys with
  | true => rw [hm] at h;simp at h;exact ⟨h.1,h.2.1⟩
  | false =>
   rw [hm,cond_false] at h
   match xs,ys,h with
   | [],ys,h => simp at h;exact absurd h.2.2.symm he
   | a :: xs,[],h => simp at h;exact absurd h.2.2.symm he
   | [a],[b],h =>
    simp only [Option.some.injEq] at h
    unfold bothX at h
    cases h1 : decide ((behindX a b prior).2 = 0) with
    | false => rw [h1] at h;simp at h;exact ⟨h.1,h.2.1⟩
    | true => cases h2 : decide ((behindX b a (!prior)).2 = 0) with
     | false => rw [h1,h2] at h;simp at h;exact ⟨h.1,h.2.1⟩
     | true => rw [h1,h2] at h;simp at h;exact absurd h.2.2.symm he
   | a :: a' :: xs,b :: ys,h =>
    simp only at h
    cases h1 : bringF prior n [a] (b :: ys) with
    | none => rw [h1] at h;cases h
    | some r =>
     obtain ⟨x1,y1,e1⟩:=r
     rw [h1] at h
     simp only at h
     cases h3 : !decide (e1 = 0) with
     | true => rw [h3] at h;simp at h;exact ⟨h.1,h.2.1⟩
     | false =>
      rw [h3,cond_false] at h
      cases h2 : bringF prior n (a' :: xs) y1 with
      | none => rw [h2] at h;cases h
      | some r =>
       obtain ⟨z,w,e2⟩:=r
       rw [h2] at h
       simp only at h
       cases h4 : !decide (e2 = 0) with
       | true => rw [h4] at h;simp at h;exact ⟨h.1,h.2.1⟩
       | false =>
        rw [h4,cond_false] at h
        cases hmm : muchP (x1 ++ z) w with
        | true => rw [hmm] at h;simp at h;exact ⟨h.1,h.2.1⟩
        | false => rw [hmm] at h;simp at h;exact absurd h.2.2.symm he
   | [a],b :: b' :: ys,h =>
    simp only at h
    cases h1 : bringF prior n [a] [b] with
    | none => rw [h1] at h;cases h
    | some r =>
     obtain ⟨x1,y1,e1⟩:=r
     rw [h1] at h
     simp only at h
     cases h3 : !decide (e1 = 0) with
     | true => rw [h3] at h;simp at h;exact ⟨h.1,h.2.1⟩
     | false =>
      rw [h3,cond_false] at h
      cases h2 : bringF prior n x1 (b' :: ys) with
      | none => rw [h2] at h;cases h
      | some r =>
       obtain ⟨z,w,e2⟩:=r
       rw [h2] at h
       simp only at h
       cases h4 : !decide (e2 = 0) with
       | true => rw [h4] at h;simp at h;exact ⟨h.1,h.2.1⟩
       | false =>
        rw [h4,cond_false] at h
        cases hmm : muchP z (y1 ++ w) with
        | true => rw [hmm] at h;simp at h;exact ⟨h.1,h.2.1⟩
        | false => rw [hmm] at h;simp at h;exact absurd h.2.2.symm he
theorem bringF_mono (prior : Bool) : ∀ (n : Nat) (xs ys : List OpT) (r),bringF prior n xs ys = some r → bringF prior (n + 1) xs ys = some r
 | 0,_,_,_,h => by cases h
 | n + 1,xs,ys,r,h => by
  rw [bringF_succ] at h ⊢
  unfold bringS at h ⊢
  cases hm : muchP xs ys with
  | true => rw [hm] at h;exact h
  | false =>
   rw [hm,cond_false] at h
   rw [cond_false]
   match xs,ys,h with
   | [],ys,h => exact h
   | a :: xs,[],h => exact h
   | [a],[b],h => exact h
   | a :: a' :: xs,b :: ys,h =>
    simp only at h ⊢
    cases h1 : bringF prior n [a] (b :: ys) with
    | none => rw [h1] at h;cases h
    | some r1 =>
     rw [h1] at h
     rw [bringF_mono prior n _ _ _ h1]
     obtain ⟨x1,y1,e1⟩:=r1
     simp only at h ⊢
     cases he : !decide (e1 = 0) with
     | true => rw [he] at h;exact h
     | false =>
      rw [he,cond_false] at h
      rw [cond_false]
      cases h2 : bringF prior n (a' :: xs) y1 with
      | none => rw [h2] at h;cases h
      | some r2 => rw [h2] at h;rw [bringF_mono prior n _ _ _ h2];exact h
   | [a],b :: b' :: ys,h =>
    simp only at h ⊢
    cases h1 : bringF prior n [a] [b] with
    | none => rw [h1] at h;cases h
    | some r1 =>
     rw [h1] at h
     rw [bringF_mono prior n _ _ _ h1]
     obtain ⟨x1,y1,e1⟩:=r1
     simp only at h ⊢
     cases he : !decide (e1 = 0) with
     | true => rw [he] at h;exact h
     | false =>
      rw [he,cond_false] at h
      rw [cond_false]
      cases h2 : bringF prior n x1 (b' :: ys) with
      | none => rw [h2] at h;cases h
      | some r2 => rw [h2] at h;rw [bringF_mono prior n _ _ _ h2];exact h
theorem bringF_le {prior : Bool} {n m : Nat} {xs ys : List OpT} {r} (h : bringF prior n xs ys = some r) (hn : n ≤ m) : bringF prior m xs ys = some r:=by
 induction hn with
 | refl => exact h
 | step _ ih => exact bringF_mono prior _ _ _ _ ih
theorem bringF_det {prior : Bool} {n m : Nat} {xs ys : List OpT} {r r'} (h : bringF prior n xs ys = some r) (h' : bringF prior m xs ys = some r') : r = r':=by
 have h1:=bringF_le h (Nat.le_max_left n m)
 rw [bringF_le h' (Nat.le_max_right n m)] at h1
 injection h1 with h1
 exact h1.symm
theorem bringF_total (prior : Bool) : ∀ (s m t : Nat) (xs ys : List OpT),xs.length + ys.length = s → mvs xs + mvs ys = m → (bif prior then ys.length else xs.length) = t → ∃ n r,bringF prior n xs ys = some r:=by
 intro s
 induction s using Nat.strongRecOn with
 | _ s ihs =>
 intro m
 induction m using Nat.strongRecOn with
 | _ m ihm =>
 intro t
 induction t using Nat.strongRecOn with
 | _ t iht =>
 intro xs ys hs hm ht
 have hrec : ∀ (x y : List OpT),(x.length + y.length < s ∨ (x.length + y.length = s ∧ (mvs x + mvs y < m ∨ (mvs x + mvs y = m ∧ (bif prior then y.length else x.length) < t)))) → ∃ n r,bringF prior n x y = some r:=by
  intro x y h
  rcases h with h | ⟨h1,h | ⟨h2,h3⟩⟩
  ·exact ihs _ h _ _ x y rfl rfl rfl
  ·exact ihm _ h _ x y h1 rfl rfl
  ·exact iht _ h3 x y h1 h2 rfl
 match xs,ys,hs,hm,ht with
 | [],ys,_,_,_ => exact ⟨1,by rw [bringF_succ];unfold bringS;cases muchP [] ys <;> exact ⟨_,rfl⟩⟩
 | a :: xs,[],_,_,_ => exact ⟨1,by rw [bringF_succ];unfold bringS;cases muchP (a :: xs) [] <;> exact ⟨_,rfl⟩⟩
 | [a],[b],_,_,_ => exact ⟨1,by rw [bringF_succ];unfold bringS;cases muchP [a] [b] <;> exact ⟨_,rfl⟩⟩
 | a :: a' :: xs,b :: ys,hs,hm,ht =>
  simp only [List.length_cons,mvs_cons] at hs hm ht
  obtain ⟨n1,⟨x1,y1,e1⟩,h1⟩:=hrec [a] (b :: ys) (.inl (by simp only [List.length_cons,List.length_nil];omega))
  by_cases he : e1 = 0
  ·subst he
   have i1:=bringF_inv prior n1 _ _ _ _ h1
   have s1:=i1.s
   have m1:=i1.m
   have t1:=i1.t
   simp only [mvs_cons,mvs_nil,List.length_cons,List.length_nil] at s1 m1 t1
   obtain ⟨n2,⟨z,w,e2⟩,h2⟩:=hrec (a' :: xs) y1 (by
    simp only [List.length_cons,mvs_cons]
    by_cases c1 : xs.length + 1 + y1.length < s
    ·exact .inl c1
    ·refine .inr ⟨by omega,?_⟩
     by_cases c2 : mv1 a' + mvs xs + mvs y1 < m
     ·exact .inl c2
     ·refine .inr ⟨by omega,?_⟩
      have:=t1 (by omega) (by omega)
      cases prior <;> simp only [cond_true,cond_false] at this ht ⊢ <;> omega)
   refine ⟨max n1 n2 + 1,?_⟩
   rw [bringF_succ]
   unfold bringS
   cases muchP (a :: a' :: xs) (b :: ys) with
   | true => exact ⟨_,rfl⟩
   | false =>
    rw [cond_false]
    simp only
    rw [bringF_le h1 (Nat.le_max_left _ _)]
    simp only [decide_true,Bool.not_true,cond_false]
    rw [bringF_le h2 (Nat.le_max_right _ _)]
    simp only
    cases !decide (e2 = 0) <;> cases muchP (x1 ++ z) w <;> exact ⟨_,rfl⟩
  ·refine ⟨n1 + 1,?_⟩
   rw [bringF_succ]
   unfold bringS
   cases muchP (a :: a' :: xs) (b :: ys) with
   | true => exact ⟨_,rfl⟩
   | false =>
    rw [cond_false]
    simp only
    rw [h1]
    simp only [decide_eq_false he,Bool.not_false,cond_true]
    exact ⟨_,rfl⟩
 | [a],b :: b' :: ys,hs,hm,ht =>
  simp only [List.length_cons,List.length_nil,mvs_cons,mvs_nil] at hs hm ht
  obtain ⟨n1,⟨x1,y1,e1⟩,h1⟩:=hrec [a] [b] (.inl (by simp only [List.length_cons,List.length_nil];omega))
  by_cases he : e1 = 0
  ·subst he
   have i1:=bringF_inv prior n1 _ _ _ _ h1
   have s1:=i1.s
   have m1:=i1.m
   have t1:=i1.t
   simp only [mvs_cons,mvs_nil,List.length_cons,List.length_nil] at s1 m1 t1
   obtain ⟨n2,⟨z,w,e2⟩,h2⟩:=hrec x1 (b' :: ys) (by
    simp only [List.length_cons,mvs_cons]
    by_cases c1 : x1.length + (ys.length + 1) < s
    ·exact .inl c1
    ·refine .inr ⟨by omega,?_⟩
     by_cases c2 : mvs x1 + (mv1 b' + mvs ys) < m
     ·exact .inl c2
     ·refine .inr ⟨by omega,?_⟩
      have:=t1 (by omega) (by omega)
      cases prior <;> simp only [cond_true,cond_false] at this ht ⊢ <;> omega)
   refine ⟨max n1 n2 + 1,?_⟩
   rw [bringF_succ]
   unfold bringS
   cases muchP [a] (b :: b' :: ys) with
   | true => exact ⟨_,rfl⟩
   | false =>
    rw [cond_false]
    simp only
    rw [bringF_le h1 (Nat.le_max_left _ _)]
    simp only [decide_true,Bool.not_true,cond_false]
    rw [bringF_le h2 (Nat.le_max_right _ _)]
    simp only
    cases !decide (e2 = 0) <;> cases muchP z (y1 ++ w) <;> exact ⟨_,rfl⟩
  ·refine ⟨n1 + 1,?_⟩
   rw [bringF_succ]
   unfold bringS
   cases muchP [a] (b :: b' :: ys) with
   | true => exact ⟨_,rfl⟩
   | false =>
    rw [cond_false]
    simp only
    rw [h1]
    simp only [decide_eq_false he,Bool.not_false,cond_true]
    exact ⟨_,rfl⟩
theorem bring_ends (prior : Bool) (xs ys : List OpT) : ∃ n r,bringF prior n xs ys = some r:=bringF_total prior _ _ _ xs ys rfl rfl rfl
end Bow
/- SP25: what an operation does not say counts for nothing (square); lists brought one behind the other, in plain Lean. -/
namespace Bow
open Go
theorem bareK1 {o : OpT} (h : o.kind = 1) : bareO o = { noOp 1 with path:=o.path,at_:=o.at_,id:=o.id,leaf:=o.leaf,label:=o.label }:=by unfold bareO;rw [h];rfl
theorem bareK2 {o : OpT} (h : o.kind = 2) : bareO o = { noOp 2 with path:=o.path }:=by unfold bareO;rw [h];rfl
theorem bareK3 {o : OpT} (h : o.kind = 3) : bareO o = { noOp 3 with path:=o.path,at_:=o.at_,to:=o.to }:=by unfold bareO;rw [h];rfl
theorem bareK4 {o : OpT} (h : o.kind = 4) : bareO o = { noOp 4 with path:=o.path,key:=o.key,gone:=o.gone,value:=bif o.gone then [] else o.value }:=by unfold bareO;rw [h];rfl
theorem bareK5 {o : OpT} (h : o.kind = 5) : bareO o = { noOp 5 with path:=o.path,label:=o.label }:=by unfold bareO;rw [h];rfl
theorem bareK6 {o : OpT} (h : o.kind = 6) : bareO o = { noOp 6 with path:=o.path,pieces:=o.pieces }:=by unfold bareO;rw [h];rfl
theorem bareX {o : OpT} (h1 : o.kind ≠ 1) (h2 : o.kind ≠ 2) (h3 : o.kind ≠ 3) (h4 : o.kind ≠ 4) (h5 : o.kind ≠ 5) (h6 : o.kind ≠ 6) : bareO o = noOp o.kind:=by
 unfold bareO
 have e : ∀ {n : Int},o.kind ≠ n → (o.kind == n) = false:=fun h => by simpa using h
 rw [e h1,e h2,e h3,e h4,e h5,e h6]
 rfl
theorem kind_cases (o : OpT) : o.kind = 1 ∨ o.kind = 2 ∨ o.kind = 3 ∨ o.kind = 4 ∨ o.kind = 5 ∨ o.kind = 6 ∨ (o.kind ≠ 1 ∧ o.kind ≠ 2 ∧ o.kind ≠ 3 ∧ o.kind ≠ 4 ∧ o.kind ≠ 5 ∧ o.kind ≠ 6):=by omega
theorem formed_bad {o : OpT} (h : o.kind ≠ 1 ∧ o.kind ≠ 2 ∧ o.kind ≠ 3 ∧ o.kind ≠ 4 ∧ o.kind ≠ 5 ∧ o.kind ≠ 6) : formedB o = false:=by
 unfold formedB
 obtain ⟨h1,h2,h3,h4,h5,h6⟩:=h
 have e : ∀ {n : Int},o.kind ≠ n → (o.kind == n) = false:=fun h => by simpa using h
 rw [e h1,e h2,e h3,e h4,e h5,e h6]
 simp
theorem bare_idem (o : OpT) : bareO (bareO o) = bareO o:=by
 rcases kind_cases o with h | h | h | h | h | h | ⟨h1,h2,h3,h4,h5,h6⟩
 ·rw [bareK1 h];rfl
 ·rw [bareK2 h];rfl
 ·rw [bareK3 h];rfl
 ·rw [bareK4 h]
  unfold bareO
  cases o.gone <;> rfl
 ·rw [bareK5 h];rfl
 ·rw [bareK6 h];rfl
 ·have e : (bareO o).kind = o.kind:=bare_kind o
  rw [bareX (o:=bareO o) (by rw [e];exact h1) (by rw [e];exact h2) (by rw [e];exact h3) (by rw [e];exact h4) (by rw [e];exact h5) (by rw [e];exact h6),e,bareX h1 h2 h3 h4 h5 h6]
theorem formed_bare (o : OpT) : formedB (bareO o) = formedB o:=by
 rcases kind_cases o with h | h | h | h | h | h | hx
 ·rw [bareK1 h];unfold formedB;rw [h];rfl
 ·rw [bareK2 h];unfold formedB;rw [h];rfl
 ·rw [bareK3 h];unfold formedB;rw [h];rfl
 ·rw [bareK4 h];unfold formedB;rw [h]
  cases o.gone <;> rfl
 ·rw [bareK5 h];unfold formedB;rw [h];rfl
 ·rw [bareK6 h];unfold formedB;rw [h];rfl
 ·rw [formed_bad hx]
  have e : (bareO o).kind = o.kind:=bare_kind o
  exact formed_bad (by rw [e];exact hx)
theorem sound_bare (o : OpT) : soundO (bareO o) = soundO o:=by
 unfold soundO
 rw [formed_bare]
 rcases kind_cases o with h | h | h | h | h | h | hx
 ·rw [bareK1 h,h];rfl
 ·rw [bareK2 h,h];rfl
 ·rw [bareK3 h,h];rfl
 ·rw [bareK4 h,h];rfl
 ·rw [bareK5 h,h];rfl
 ·rw [bareK6 h,h];rfl
 ·rw [formed_bad hx];rfl
theorem sound_kind {o : OpT} (h : soundO o = true) : o.kind = 1 ∨ o.kind = 2 ∨ o.kind = 3 ∨ o.kind = 4 ∨ o.kind = 5 ∨ o.kind = 6:=by
 rcases kind_cases o with k | k | k | k | k | k | k
 ·exact .inl k
 ·exact .inr (.inl k)
 ·exact .inr (.inr (.inl k))
 ·exact .inr (.inr (.inr (.inl k)))
 ·exact .inr (.inr (.inr (.inr (.inl k))))
 ·exact .inr (.inr (.inr (.inr (.inr k))))
 ·exfalso
  unfold soundO at h
  rw [formed_bad k] at h
  cases h
theorem sound_path {o : OpT} (h : soundO o = true) : (bareO o).path = o.path:=by
 rcases sound_kind h with k | k | k | k | k | k
 ·rw [bareK1 k]
 ·rw [bareK2 k]
 ·rw [bareK3 k]
 ·rw [bareK4 k]
 ·rw [bareK5 k]
 ·rw [bareK6 k]
theorem moves_bare {o : OpT} (h : soundO o = true) : movesO (bareO o) = movesO o:=by
 unfold movesO
 rw [formed_bare]
 rcases sound_kind h with k | k | k | k | k | k
 ·rw [bareK1 k,k];rfl
 ·rw [bareK2 k,k];rfl
 ·rw [bareK3 k,k];rfl
 ·rw [bareK4 k,k];rfl
 ·rw [bareK5 k,k];rfl
 ·rw [bareK6 k,k];rfl
theorem number_noputs {c d : Chg} (h1 : c.puts = false) (h2 : d.puts = false) (h3 : c.takes = d.takes) (h4 : c.frm = d.frm) (h5 : c.at_ = d.at_) (p : List Int) (k : Int) : c.number p k = d.number p k:=by
 unfold Chg.number
 rw [h1,h2,h3,h4,h5]
 rfl
theorem nums_noputs {c d : Chg} (h1 : c.puts = false) (h2 : d.puts = false) (h3 : c.takes = d.takes) (h4 : c.frm = d.frm) (h5 : c.at_ = d.at_) : ∀ (p q : List Int),c.nums q p = d.nums q p
 | [],_ => rfl
 | k :: p,q => by rw [Chg.nums,Chg.nums,number_noputs h1 h2 h3 h4 h5,nums_noputs h1 h2 h3 h4 h5 p]
theorem node_bare {a : OpT} (h : soundO a = true) (q : List Int) : nodeP (bareO a) q = nodeP a q:=by
 have hm:=moves_bare h
 have hp:=sound_path h
 unfold nodeP
 rw [hm,hp]
 rcases sound_kind h with k | k | k | k | k | k
 ·have e : chgO (bareO a) = chgO a:=by rw [bareK1 k];unfold chgO;rw [k];rfl
  have e2 : (chgO a).takes = false:=by unfold chgO;simp [k]
  rw [e,e2]
  rfl
 ·have p1 : (chgO (bareO a)).puts = false:=by rw [bareK2 k];rfl
  have p2 : (chgO a).puts = false:=by unfold chgO;simp [k]
  have t1 : (chgO (bareO a)).takes = (chgO a).takes:=by rw [bareK2 k];unfold chgO;rw [k];rfl
  have f1 : (chgO (bareO a)).frm = (chgO a).frm:=by rw [bareK2 k];unfold chgO;rw [k];rfl
  have a1 : (chgO (bareO a)).at_ = (chgO a).at_:=by rw [bareK2 k];unfold chgO;rw [k];rfl
  rw [p1,p2,t1]
  simp only [nums_noputs p1 p2 t1 f1 a1]
  cases !movesO a <;> cases (chgO a).takes && within a.path q <;> rfl
 ·have e : chgO (bareO a) = chgO a:=by rw [bareK3 k];unfold chgO;rw [k];rfl
  have e2 : (bareO a).to = a.to:=by rw [bareK3 k]
  rw [e,e2]
 ·have : movesO a = false:=by unfold movesO;simp [k]
  rw [this];rfl
 ·have : movesO a = false:=by unfold movesO;simp [k]
  rw [this];rfl
 ·have : movesO a = false:=by unfold movesO;simp [k]
  rw [this];rfl
theorem gap_bare {a : OpT} (h : soundO a = true) (q : List Int) (n : Int) (f : Bool) : gapP (bareO a) q n f = gapP a q n f:=by
 have hm:=moves_bare h
 unfold gapP
 rw [node_bare h]
 cases nodeP a q with
 | none => rfl
 | some r =>
  simp only
  rw [hm]
  cases hmv : movesO a with
  | false => rfl
  | true =>
   rcases sound_kind h with k | k | k | k | k | k
   ·have e : chgO (bareO a) = chgO a:=by rw [bareK1 k];unfold chgO;rw [k];rfl
    rw [e]
   ·have p1 : (chgO (bareO a)).puts = false:=by rw [bareK2 k];rfl
    have p2 : (chgO a).puts = false:=by unfold chgO;simp [k]
    have t1 : (chgO (bareO a)).takes = (chgO a).takes:=by rw [bareK2 k];unfold chgO;rw [k];rfl
    have f1 : (chgO (bareO a)).frm = (chgO a).frm:=by rw [bareK2 k];unfold chgO;rw [k];rfl
    have a1 : (chgO (bareO a)).at_ = (chgO a).at_:=by rw [bareK2 k];unfold chgO;rw [k];rfl
    rw [p1,p2,t1,f1,a1]
    rfl
   ·have e : chgO (bareO a) = chgO a:=by rw [bareK3 k];unfold chgO;rw [k];rfl
    rw [e]
   ·unfold movesO at hmv;simp [k] at hmv
   ·unfold movesO at hmv;simp [k] at hmv
   ·unfold movesO at hmv;simp [k] at hmv
theorem undo_bare {a : OpT} (h : soundO a = true) : undoO (bareO a) = undoO a:=by
 unfold undoO
 rw [moves_bare h,bare_kind]
 by_cases k : a.kind = 3
 ·have e : chgO (bareO a) = chgO a:=by rw [bareK3 k];unfold chgO;rw [k];rfl
  rw [sound_path h,node_bare h,node_bare h,e]
 ·rw [decide_eq_false k];rfl
theorem won_bare {a b : OpT} (ha : soundO a = true) (hb : soundO b = true) : wonO (bareO b) (bareO a) = wonO b a:=by
 unfold wonO
 rw [bare_kind,bare_kind,sound_path ha,sound_path hb]
 by_cases k : a.kind = b.kind
 ·by_cases k4 : b.kind = 4
  ·have e1 : (bareO b).key = b.key:=by rw [bareK4 k4]
   have e2 : (bareO a).key = a.key:=by rw [bareK4 (by rw [k];exact k4)]
   rw [e1,e2]
  ·rw [decide_eq_false k4]
   simp
 ·rw [decide_eq_false k]
  simp
theorem shifted_bare {a b : OpT} (ha : soundO a = true) (hb : soundO b = true) (p : Bool) : bareO (shiftedO (bareO b) (bareO a) p) = bareO (shiftedO b a p):=by
 unfold shiftedO
 rw [bare_kind,sound_path hb,node_bare ha]
 rcases sound_kind hb with k | k | k | k | k | k
 ·simp only [gap_bare ha]
  rw [bareK1 k,k]
  rfl
 ·rw [bareK2 k,k];rfl
 ·simp only [gap_bare ha]
  rw [bareK3 k,k]
  rfl
 ·rw [bareK4 k,k]
  unfold bareO
  cases b.gone <;> rfl
 ·rw [bareK5 k,k];rfl
 ·rw [bareK6 k,k];rfl
theorem bare_to {o : OpT} (k : o.kind = 3) : (bareO o).to = o.to:=by rw [bareK3 k]
theorem row_bare {a b : OpT} (ha : soundO a = true) (hb : soundO b = true) (p : Bool) : (rowO (bareO b) (bareO a) p).map bareO = (rowO b a p).map bareO:=by
 have hs:=shifted_bare ha hb p
 unfold rowO
 rw [bare_kind a,bare_kind b,sound_path ha,sound_path hb,won_bare ha hb,node_bare ha,node_bare ha,undo_bare ha]
 by_cases k1 : a.kind = 2
 ·rw [decide_eq_true k1]
  cases within a.path b.path with
  | true => rfl
  | false =>
   by_cases k3 : b.kind = 3
   ·rw [decide_eq_true k3,bare_to k3]
    cases within a.path b.to with
    | true => rfl
    | false => simp only [Bool.and_false,cond_false,cond_true,List.map_cons,List.map_nil,hs]
   ·rw [decide_eq_false k3]
    simp only [Bool.false_and,cond_false,cond_true,List.map_cons,List.map_nil,hs]
 ·rw [decide_eq_false k1]
  cases wonO b a with
  | true => cases p with
   | true => simp only [cond_false,cond_true,List.map_cons,List.map_nil,hs]
   | false => rfl
  | false =>
   by_cases k3 : a.kind = 3
   ·rw [decide_eq_true k3,bare_to k3]
    by_cases k4 : b.kind = 2
    ·rw [decide_eq_true k4]
     cases within b.path a.path && (!decide (b.path = a.path) && !within b.path a.to) with
     | true => rfl
     | false => simp only [Bool.not_true,cond_false,cond_true,List.map_cons,List.map_nil,hs]
    ·rw [decide_eq_false k4]
     by_cases k5 : b.kind = 3
     ·rw [decide_eq_true k5,bare_to k5]
      cases within b.path a.to && within a.path b.to with
      | true => cases p with
       | true => simp only [Bool.not_true,Bool.and_self,cond_false,cond_true,List.map_cons,List.map_nil,bare_idem]
       | false => rfl
      | false => simp only [Bool.not_true,Bool.and_false,cond_false,List.map_cons,List.map_nil,hs]
     ·rw [decide_eq_false k5]
      simp only [Bool.not_true,Bool.false_and,cond_false,List.map_cons,List.map_nil,hs]
   ·rw [decide_eq_false k3]
    simp only [Bool.not_false,cond_false,cond_true,List.map_cons,List.map_nil,hs]
theorem all_bare (l : List OpT) : (l.map bareO).all formedB = l.all formedB:=by
 induction l with
 | nil => rfl
 | cons o l ih => rw [List.map_cons,List.all_cons,List.all_cons,ih,formed_bare]
theorem behX_bad {a b : OpT} (h : (!soundO a || !soundO b) = true) (p : Bool) : behindX b a p = ([],80):=by
 unfold behindX behindE behindO
 rw [h]
 cases bothEdit b a <;> rfl
theorem behX_bare (b a : OpT) (p : Bool) : behindX (bareO b) (bareO a) p = behindX b a p:=by
 cases h : !soundO a || !soundO b with
 | true => rw [behX_bad h,behX_bad (by rw [sound_bare,sound_bare];exact h)]
 | false =>
  have h':=h
  rw [Bool.or_eq_false_iff] at h'
  have ha : soundO a = true:=by simpa using h'.1
  have hb : soundO b = true:=by simpa using h'.2
  have he : bothEdit (bareO b) (bareO a) = bothEdit b a:=by
   unfold bothEdit
   rw [bare_kind,bare_kind,sound_path ha,sound_path hb]
  unfold behindX
  rw [he]
  cases heb : bothEdit b a with
  | true =>
   have hk : a.kind = 6 ∧ b.kind = 6:=by
    unfold bothEdit at heb
    simp only [Bool.and_eq_true,decide_eq_true_eq] at heb
    exact ⟨heb.1,heb.2.1⟩
   have pa : (bareO a).pieces = a.pieces:=by rw [bareK6 hk.1]
   have pb : (bareO b).pieces = b.pieces:=by rw [bareK6 hk.2]
   have e : bareO (editO (bareO b) (bareO a) p) = bareO (editO b a p):=by
    unfold editO
    rw [pa,pb,bareK6 hk.2,bareK6 (o:={ b with pieces:=(transP b.pieces a.pieces p).1 }) hk.2]
    rfl
   have ef : formedB (editO (bareO b) (bareO a) p) = formedB (editO b a p):=by rw [← formed_bare,e,formed_bare]
   unfold behindE
   rw [sound_bare,sound_bare,pa,pb,ef,e]
   rfl
  | false =>
   have e:=row_bare ha hb p
   unfold behindO
   rw [sound_bare,sound_bare,← all_bare,e,all_bare]
   rfl
theorem bothX_bare (a b : OpT) (p : Bool) : bothX (bareO a) (bareO b) p = bothX a b p:=by
 unfold bothX
 rw [behX_bare,behX_bare]
def SameR (r r' : List OpT × List OpT × Int) : Prop:=r.1.map bareO = r'.1.map bareO ∧ r.2.1.map bareO = r'.2.1.map bareO ∧ r.2.2 = r'.2.2
theorem map_len {xs xs' : List OpT} (h : xs.map bareO = xs'.map bareO) : xs.length = xs'.length:=by simpa using congrArg List.length h
theorem muchP_same {xs xs' ys ys' : List OpT} (h1 : xs.map bareO = xs'.map bareO) (h2 : ys.map bareO = ys'.map bareO) : muchP xs ys = muchP xs' ys':=by
 unfold muchP
 rw [map_len h1,map_len h2]
theorem bothX_same {a a' b b' : OpT} (h1 : bareO a = bareO a') (h2 : bareO b = bareO b') (p : Bool) : bothX a b p = bothX a' b' p:=by
 rw [← bothX_bare a b,← bothX_bare a' b',h1,h2]
theorem bringF_same (prior : Bool) : ∀ (n : Nat) (xs ys xs' ys' : List OpT) (r),xs.map bareO = xs'.map bareO → ys.map bareO = ys'.map bareO → bringF prior n xs ys = some r → ∃ r',bringF prior n xs' ys' = some r' ∧ SameR r r'
 | 0,_,_,_,_,_,_,_,h => by cases h
 | n + 1,xs,ys,xs',ys',r,hx,hy,h => by
  rw [bringF_succ] at h ⊢
  unfold bringS at h ⊢
  rw [← muchP_same hx hy]
  have same0 : ∀ e : Int,SameR ([],[],e) ([],[],e):=fun e => ⟨rfl,rfl,rfl⟩
  cases hm : muchP xs ys with
  | true => rw [hm] at h;simp at h;subst h;exact ⟨_,rfl,same0 3⟩
  | false =>
   rw [hm,cond_false] at h
   rw [cond_false]
   match xs,xs',hx,ys,ys',hy,h with
   | [],[],_,ys,ys',hy,h => simp at h;subst h;exact ⟨_,rfl,rfl,hy,rfl⟩
   | [],_ :: _,hx,_,_,_,_ => simp at hx
   | _ :: _,[],hx,_,_,_,_ => simp at hx
   | a :: xs,c :: xs',hx,[],[],_,h => simp at h;subst h;exact ⟨_,rfl,hx,rfl,rfl⟩
   | _ :: _,_ :: _,_,[],_ :: _,hy,_ => simp at hy
   | _ :: _,_ :: _,_,_ :: _,[],hy,_ => simp at hy
   | [a],[c],hx,[b],[d],hy,h =>
    simp only [List.map_cons,List.map_nil,List.cons.injEq,and_true] at hx hy
    simp only [Option.some.injEq] at h
    subst h
    exact ⟨_,rfl,by rw [bothX_same hx hy],by rw [bothX_same hx hy],by rw [bothX_same hx hy]⟩
   | [_],_ :: _ :: _,hx,_,_,_,_ => simp at hx
   | _ :: _ :: _,[_],hx,_,_,_,_ => simp at hx
   | [_],[_],_,[_],_ :: _ :: _,hy,_ => simp at hy
   | [_],[_],_,_ :: _ :: _,[_],hy,_ => simp at hy
   | a :: a' :: xs,c :: c' :: xs',hx,b :: ys,d :: ys',hy,h =>
    simp only [List.map_cons,List.cons.injEq] at hx
    simp only at h ⊢
    cases h1 : bringF prior n [a] (b :: ys) with
    | none => rw [h1] at h;cases h
    | some r1 =>
     rw [h1] at h
     obtain ⟨x1,y1,e1⟩:=r1
     obtain ⟨⟨x2,y2,e2⟩,q1,q2,q3,q4⟩:=bringF_same prior n [a] (b :: ys) [c] (d :: ys') _ (by simp [hx.1]) hy h1
     simp only at q2 q3 q4
     subst q4
     rw [q1]
     simp only at h ⊢
     cases he : !decide (e1 = 0) with
     | true => rw [he] at h;simp at h;subst h;exact ⟨_,rfl,same0 _⟩
     | false =>
      rw [he,cond_false] at h
      rw [cond_false]
      cases h2 : bringF prior n (a' :: xs) y1 with
      | none => rw [h2] at h;cases h
      | some r2 =>
       rw [h2] at h
       obtain ⟨z,w,e2⟩:=r2
       obtain ⟨⟨z2,w2,e3⟩,s1,s2,s3,s4⟩:=bringF_same prior n (a' :: xs) y1 (c' :: xs') y2 _ (by simp [hx.2]) q3 h2
       simp only at s2 s3 s4
       subst s4
       rw [s1]
       simp only at h ⊢
       cases he : !decide (e2 = 0) with
       | true => rw [he] at h;simp at h;subst h;exact ⟨_,rfl,same0 _⟩
       | false =>
        rw [he,cond_false] at h
        rw [cond_false]
        have e4 : (x1 ++ z).map bareO = (x2 ++ z2).map bareO:=by rw [List.map_append,List.map_append,q2,s2]
        rw [← muchP_same e4 s3]
        cases hmm : muchP (x1 ++ z) w with
        | true => rw [hmm] at h;simp at h;subst h;exact ⟨_,rfl,same0 _⟩
        | false => rw [hmm] at h;simp at h;subst h;exact ⟨_,rfl,e4,s3,rfl⟩
   | [a],[c],hx,b :: b' :: ys,d :: d' :: ys',hy,h =>
    simp only [List.map_cons,List.cons.injEq] at hy
    simp only at h ⊢
    cases h1 : bringF prior n [a] [b] with
    | none => rw [h1] at h;cases h
    | some r1 =>
     rw [h1] at h
     obtain ⟨x1,y1,e1⟩:=r1
     obtain ⟨⟨x2,y2,e2⟩,q1,q2,q3,q4⟩:=bringF_same prior n [a] [b] [c] [d] _ hx (by simp [hy.1]) h1
     simp only at q2 q3 q4
     subst q4
     rw [q1]
     simp only at h ⊢
     cases he : !decide (e1 = 0) with
     | true => rw [he] at h;simp at h;subst h;exact ⟨_,rfl,same0 _⟩
     | false =>
      rw [he,cond_false] at h
      rw [cond_false]
      cases h2 : bringF prior n x1 (b' :: ys) with
      | none => rw [h2] at h;cases h
      | some r2 =>
       rw [h2] at h
       obtain ⟨z,w,e2⟩:=r2
       obtain ⟨⟨z2,w2,e3⟩,s1,s2,s3,s4⟩:=bringF_same prior n x1 (b' :: ys) x2 (d' :: ys') _ q2 (by simp [hy.2]) h2
       simp only at s2 s3 s4
       subst s4
       rw [s1]
       simp only at h ⊢
       cases he : !decide (e2 = 0) with
       | true => rw [he] at h;simp at h;subst h;exact ⟨_,rfl,same0 _⟩
       | false =>
        rw [he,cond_false] at h
        rw [cond_false]
        have e4 : (y1 ++ w).map bareO = (y2 ++ w2).map bareO:=by rw [List.map_append,List.map_append,q3,s3]
        rw [← muchP_same s2 e4]
        cases hmm : muchP z (y1 ++ w) with
        | true => rw [hmm] at h;simp at h;subst h;exact ⟨_,rfl,same0 _⟩
        | false => rw [hmm] at h;simp at h;subst h;exact ⟨_,rfl,s2,e4,rfl⟩
end Bow
/- SP26: a list brought by two lists, one behind the other, and by both in one, in plain Lean. -/
namespace Bow
open Go
section
variable {prior : Bool}
end
end Bow
/- SP30: what two lists come to; brought by two lists or by both in one, in plain Lean. -/
namespace Bow
open Go
noncomputable def bringX (prior : Bool) (xs ys : List OpT) : List OpT × List OpT × Int :=
 Classical.choose (show ∃ r n,bringF prior n xs ys = some r from let ⟨n,r,h⟩:=bring_ends prior xs ys;⟨r,n,h⟩)
theorem bringX_spec (prior : Bool) (xs ys : List OpT) : ∃ n,bringF prior n xs ys = some (bringX prior xs ys) :=
 Classical.choose_spec (show ∃ r n,bringF prior n xs ys = some r from let ⟨n,r,h⟩:=bring_ends prior xs ys;⟨r,n,h⟩)
theorem bringX_eq {prior : Bool} {n : Nat} {xs ys : List OpT} {r} (h : bringF prior n xs ys = some r) : bringX prior xs ys = r:=by
 obtain ⟨m,hm⟩:=bringX_spec prior xs ys
 exact bringF_det hm h
noncomputable def listsX (prior : Bool) (xs ys : List OpT) : List OpT × List OpT × Int:=(bareL (bringX prior xs ys).1,bareL (bringX prior xs ys).2.1,(bringX prior xs ys).2.2)
theorem bareL_same (l : List OpT) : l.map bareO = (bareL l).map bareO:=by
 unfold bareL
 rw [List.map_map]
 exact List.map_congr_left fun o _ => (bare_idem o).symm
end Bow
/- AE36: arguments that are read as data, as deep values; a call's contract out of a function's. -/
namespace Bow
open Go
def β0 : Nat → Loc:=fun _ => .none
def tilesB (P : Program) : List Field → Nat → Nat → Bool
 | [],o,N => Nat.beq o N
 | f :: fs,o,N => Nat.beq f.offset o && tilesB P fs (o + P.cellsOf f.type) N
def fieldsIn (G : List TypeId) : List Field → Bool
 | [] => true
 | f :: fs => memN G f.type && fieldsIn G fs
def goodT (P : Program) (G : List TypeId) (t : TypeId) : Bool :=
 match tyU P t with
 | some .bool => true
 | some (.int _) => true
 | some .string => true
 | some (.slice e) => memN G e && Nat.ble 1 (P.cellsOf e)
 | some (.struct fs) => fieldsIn G fs.toList && tilesB P fs.toList 0 (P.cellsOf t)
 | _ => false
def goodL (P : Program) (G : List TypeId) : List TypeId → Bool
 | [] => true
 | t :: ts => goodT P G t && goodL P G ts
def mkX (P : Program) (e : TypeId) (vs : List V) : V :=
 match tyU P e with
 | some (.struct _) => .agg vs
 | _ => match vs with
  | [c] => c
  | vs => .agg vs
def VTs (P : Program) (R : TypeId → List V → Prop) : List Field → List V → Prop
 | [],vs => vs = []
 | f :: fs,vs => R f.type (vs.take (P.cellsOf f.type)) ∧ VTs P R fs (vs.drop (P.cellsOf f.type))
def VT (P : Program) : Nat → TypeId → List V → Prop
 | 0,_,_ => False
 | n + 1,t,vs => match tyU P t with
  | some .bool => ∃ b,vs = [.bool b]
  | some (.int k) => ∃ i,vs = [.int k i] ∧ (Lit.int k i).wf = true
  | some .string => ∃ s : List UInt8,vs = [.str s] ∧ s.length ≤ maxLen
  | some (.slice e) => ∃ xs : List (List V),vs = [.sl (P.cellsOf e) (xs.map (mkX P e))] ∧ xs.length ≤ maxLen ∧ ∀ x ∈ xs,VT P n e x
  | some (.struct fs) => VTs P (VT P n) fs.toList vs
  | _ => False
section
variable {H : Type} {enc : TypeId × Value → H} {P : Program} {w : World} {base : Nat} {spare : Nat → Bool} {held : Bool}
theorem notOwn0 (b : Nat) {sz : Nat} : freeB β0 [] b sz:=free_none (fun r o h => by simp at h) b sz
theorem goodL_get {G : List TypeId} : ∀ (ts : List TypeId),goodL P G ts = true → ∀ t ∈ ts,goodT P G t = true
 | [],_,t,h => by cases h
 | x :: ts,hg,t,h => by
  simp only [goodL,Bool.and_eq_true] at hg
  rcases List.mem_cons.1 h with rfl | h
  ·exact hg.1
  ·exact goodL_get ts hg.2 t h
theorem mkX_cells {e : TypeId} {vs : List V} (h1 : onesB vs = true) : (mkX P e vs).cells = vs:=by
 unfold mkX
 split
 ·rfl
 ·split
  ·rename_i c
   have:=(onesB_iff _).1 h1 c (by simp)
   cases c <;> first | rfl | cases this
  ·rfl
theorem read_data {G : List TypeId} (hG : goodL P G G = true) : ∀ (fuel : Nat) (t : TypeId) (cs : List Value) (x : DataW H × List MemPlace),memN G t = true → DataW.trod enc P w base spare held fuel t cs = some x →
  ∃ vs,RowRep w β0 [] vs cs ∧ onesB vs = true ∧ VT P fuel t vs:=by
 intro fuel
 induction fuel with
 | zero => intro t cs x _ h;simp [DataW.trod] at h
 | succ n ih =>
  intro t cs x hm h
  have hg:=goodL_get G hG t ((memN_iff _ _).1 hm)
  have one : ∀ (c : V) (v : Value),c.one = true → cs = [v] → Rep w β0 [] c v → RowRep w β0 [] [c] cs ∧ onesB [c] = true:=fun c v h1 h2 h3 => by
   subst h2
   refine ⟨⟨rfl,fun k c' u hc hu => ?_⟩,by simp [onesB,h1]⟩
   cases k with
   | zero => simp at hc hu;subst hc hu;exact h3
   | succ k => simp at hc
  unfold goodT at hg
  split at hg
  ·rename_i ht
   obtain ⟨b,rfl,_⟩:=DataW.trod_bool (tyU_sound ht) h
   obtain ⟨h1,h2⟩:=one (.bool b) _ rfl rfl (.bool b)
   exact ⟨_,h1,h2,by rw [VT,ht];exact ⟨b,rfl⟩⟩
  ·rename_i k ht
   obtain ⟨i,rfl,_,hw⟩:=DataW.trod_int (tyU_sound ht) h
   obtain ⟨h1,h2⟩:=one (.int k i) _ rfl rfl (.int k i)
   exact ⟨_,h1,h2,by rw [VT,ht];exact ⟨i,rfl,hw⟩⟩
  ·rename_i ht
   obtain ⟨s,rfl,_,hs⟩:=DataW.trod_string (tyU_sound ht) h
   have hsl : s.data.toList.length ≤ maxLen:=by
    have e : s.size = s.data.toList.length:=by simp only [ByteArray.size,Array.length_toList]
    rw [← e]
    exact hs
   have hr : Rep w β0 [] (.str s.data.toList) (.string s):=by
    have:=Rep.str (w:=w) (β:=β0) (H:=[]) s.data.toList hsl
    simpa using this
   obtain ⟨h1,h2⟩:=one (.str s.data.toList) _ rfl rfl hr
   exact ⟨_,h1,h2,by rw [VT,ht];exact ⟨_,rfl,hsl⟩⟩
  ·rename_i e ht
   simp only [Bool.and_eq_true] at hg
   obtain ⟨hme,hse⟩:=hg
   have hse : 1 ≤ P.cellsOf e:=Nat.le_of_ble_eq_true hse
   rcases DataW.trod_slice (tyU_sound ht) h with ⟨rfl,_⟩ | ⟨a,len,cap,elems,rest,n',hn,rfl,_,_,hlc,hcm,hel,hget,_⟩
   ·have hr : Rep w β0 [] (.sl (P.cellsOf e) []) (.slice none 0 0):=.sl _ [] none 0 (fun _ => Go.undef) (Nat.le_refl _) (Nat.zero_le _) (by simp) (fun hne => absurd rfl hne) (fun i x j c hi => by simp at hi)
    obtain ⟨h1,h2⟩:=one (.sl (P.cellsOf e) []) _ rfl rfl hr
    exact ⟨_,h1,h2,by rw [VT,ht];exact ⟨[],rfl,Nat.zero_le _,by simp⟩⟩
   ·injection hn with hn
    subst hn
    have each : ∀ i,i < len → ∃ ci vs,w.cells? base (a.add (i * P.cellsOf e)) (P.cellsOf e) = some ci ∧ RowRep w β0 [] vs ci ∧ onesB vs = true ∧ VT P n e vs:=fun i hi => by
     have hb:=hget i hi
     rw [List.getElem?_eq_getElem (by omega),Option.bind_eq_some_iff] at hb
     obtain ⟨ci,hci,hti⟩:=hb
     obtain ⟨vs,q1,q2,q3⟩:=ih e ci _ hme hti
     exact ⟨ci,vs,hci,q1,q2,q3⟩
    obtain ⟨ff,hff⟩ : ∃ ff : Nat → List Value × List V,∀ i,i < len → w.cells? base (a.add (i * P.cellsOf e)) (P.cellsOf e) = some (ff i).1 ∧ RowRep w β0 [] (ff i).2 (ff i).1 ∧ onesB (ff i).2 = true ∧ VT P n e (ff i).2:=by
     refine ⟨fun i => if h : i < len then (Classical.choose (each i h),Classical.choose (Classical.choose_spec (each i h))) else ([],[]),fun i hi => ?_⟩
     simp only [hi,dif_pos]
     exact Classical.choose_spec (Classical.choose_spec (each i hi))
    obtain ⟨xs,hxs⟩ : ∃ xs,xs = (List.range len).map fun i => (ff i).2:=⟨_,rfl⟩
    have hxl : xs.length = len:=by rw [hxs];simp
    have hxg : ∀ i x,(xs.map (mkX P e))[i]? = some x → i < len ∧ x = mkX P e (ff i).2:=fun i x hx => by
     have hi : i < len:=by have:=lt_of_get hx;simpa [hxl] using this
     refine ⟨hi,?_⟩
     rw [hxs] at hx
     simp [hi] at hx
     exact hx.symm
    have hcell : ∀ i j,i < len → j < P.cellsOf e → w.cell? (a.add (i * P.cellsOf e + j)) = (ff i).1[j]? ∧ (ff i).1.length = P.cellsOf e:=fun i j hi hj => by
     obtain ⟨q1,_⟩:=hff i hi
     obtain ⟨_,q3,q4⟩:=World.cells?_some q1
     exact ⟨by rw [← add_add'];exact q4 j hj,q3⟩
    have hok : ∀ i,i < len → okE (P.cellsOf e) (mkX P e (ff i).2):=fun i hi => by
     obtain ⟨q1,q2,q3,_⟩:=hff i hi
     obtain ⟨_,q4,_⟩:=World.cells?_some q1
     refine ⟨?_,?_⟩
     ·rw [mkX_cells q3,q2.1,q4]
     ·rw [mkX_cells q3];exact q3
    have hr : Rep w β0 [] (.sl (P.cellsOf e) (xs.map (mkX P e))) (.slice (some a) len cap):=by
     have hl : (xs.map (mkX P e)).length = len:=by simp [hxl]
     rw [← hl] at hlc ⊢
     refine .sl _ _ _ cap (fun j => (w.cell? (a.add j)).getD Go.undef) hlc hcm (fun x hx => ?_) (fun hne => ?_) (fun i x j c hi hj => ?_)
     ·obtain ⟨i,hi,rfl⟩:=List.mem_iff_getElem.1 hx
      obtain ⟨h1,h2⟩:=hxg i _ (List.getElem?_eq_getElem hi)
      rw [h2]
      exact hok i h1
     ·have h0 : 0 < len:=by rw [← hl];exact List.length_pos_iff.2 hne
      obtain ⟨q1,_⟩:=hff 0 h0
      have hblk:=World.cells?_block q1 hse
      refine ⟨a,rfl,notOwn0 _,?_,fun j hj => ?_⟩
      ·have : (a.add (0 * P.cellsOf e)).block = a.block:=by unfold Addr.add;split <;> rfl
       rwa [this] at hblk
      ·rw [hl] at hj
       have hi : j / P.cellsOf e < len:=Nat.div_lt_of_lt_mul (by rw [Nat.mul_comm];exact hj)
       have hjm : j % P.cellsOf e < P.cellsOf e:=Nat.mod_lt _ hse
       obtain ⟨q2,q3⟩:=hcell (j / P.cellsOf e) (j % P.cellsOf e) hi hjm
       have hj' : j / P.cellsOf e * P.cellsOf e + j % P.cellsOf e = j:=by rw [Nat.mul_comm];exact Nat.div_add_mod _ _
       rw [hj'] at q2
       rw [q2,List.getElem?_eq_getElem (by omega)]
       rfl
     ·obtain ⟨hil,rfl⟩:=hxg i x hi
      obtain ⟨q1,q2,q3,_⟩:=hff i hil
      rw [mkX_cells q3] at hj
      have hjl : j < P.cellsOf e:=by have:=lt_of_get hj;rw [q2.1] at this;obtain ⟨_,q4,_⟩:=World.cells?_some q1;omega
      obtain ⟨q5,q6⟩:=hcell i j hil hjl
      have q7 : (ff i).1[j]? = some (ff i).1[j]:=List.getElem?_eq_getElem (by omega)
      simp only [q5,q7,Option.getD_some]
      exact q2.2 j c _ hj q7
    obtain ⟨h1,h2⟩:=one _ _ rfl rfl hr
    refine ⟨_,h1,h2,?_⟩
    rw [VT,ht]
    refine ⟨xs,rfl,by rw [hxl];omega,fun x hx => ?_⟩
    rw [hxs] at hx
    obtain ⟨i,hi,rfl⟩:=List.mem_map.1 hx
    exact (hff i (List.mem_range.1 hi)).2.2.2
  ·rename_i fs ht
   simp only [Bool.and_eq_true] at hg
   obtain ⟨hfi,htl⟩:=hg
   obtain ⟨xs,n',hn,_,hlen,hxl,hget⟩:=DataW.trod_struct (tyU_sound ht) h
   injection hn with hn
   subst hn
   have key : ∀ (fs' : List Field) (o : Nat),(∀ f ∈ fs',∃ y,DataW.trod enc P w base spare held n f.type ((cs.drop f.offset).take (P.cellsOf f.type)) = some y) → fieldsIn G fs' = true → tilesB P fs' o (P.cellsOf t) = true → o ≤ cs.length →
     ∃ vs,RowRep w β0 [] vs (cs.drop o) ∧ onesB vs = true ∧ VTs P (VT P n) fs' vs:=by
    intro fs'
    induction fs' with
    | nil =>
     intro o _ _ ht _
     have ho:=Nat.eq_of_beq_eq_true ht
     refine ⟨[],?_,rfl,rfl⟩
     rw [List.drop_eq_nil_of_le (by omega)]
     exact ⟨rfl,fun k c u h => by simp at h⟩
    | cons f fs' ih2 =>
     intro o hy hin htl ho
     simp only [tilesB,Bool.and_eq_true] at htl
     simp only [fieldsIn,Bool.and_eq_true] at hin
     have hfo:=Nat.eq_of_beq_eq_true htl.1
     obtain ⟨y,hy1⟩:=hy f List.mem_cons_self
     obtain ⟨v1,a1,a2,a3⟩:=ih f.type _ y hin.1 hy1
     have hle : o + P.cellsOf f.type ≤ cs.length:=by
      have : ∀ (l : List Field) (o : Nat),tilesB P l o (P.cellsOf t) = true → o ≤ P.cellsOf t:=by
       intro l
       induction l with
       | nil => intro o h;have:=Nat.eq_of_beq_eq_true h;omega
       | cons g l ih3 =>
        intro o h
        simp only [tilesB,Bool.and_eq_true] at h
        have:=ih3 _ h.2
        omega
      have:=this _ _ htl.2
      omega
     obtain ⟨v2,b1,b2,b3⟩:=ih2 (o + P.cellsOf f.type) (fun g hg => hy g (List.mem_cons_of_mem _ hg)) hin.2 htl.2 hle
     rw [hfo] at a1
     have hv1 : v1.length = P.cellsOf f.type:=by rw [a1.1];simp;omega
     refine ⟨v1 ++ v2,?_,?_,?_⟩
     ·have:=a1.append b1
      rwa [← List.drop_drop,List.take_append_drop] at this
     ·rw [onesB_iff] at a2 b2 ⊢
      intro c hc
      rcases List.mem_append.1 hc with hc | hc
      ·exact a2 c hc
      ·exact b2 c hc
     ·rw [VTs]
      rw [← hv1]
      simp only [List.take_left',List.drop_left']
      exact ⟨a3,b3⟩
   obtain ⟨vs,k1,k2,k3⟩:=key fs.toList 0 (fun f hf => by
    obtain ⟨i,hi⟩:=List.getElem?_of_mem hf
    have hil:=lt_of_get hi
    have:=hget i f (by simpa using hi)
    exact ⟨_,by rw [this];exact List.getElem?_eq_getElem (by rw [hxl];simpa using hil)⟩) hfi htl (Nat.zero_le _)
   refine ⟨vs,by simpa using k1,k2,?_⟩
   rw [VT,ht]
   exact k3
  ·cases hg
theorem calls_of_pure {f : FuncId} {args : List V} {vals : Array Value} {b : Bool} (h : Pure P f args fun x => x = .bool b) (hp : V.pureL args = true) (hl : args.length = vals.size)
  (hr : ∀ (j : Nat) (x : V) (v : Value),args[j]? = some x → vals[j]? = some v → Rep w β0 [] x v) : Calls P f vals w fun e w' => e = .returned (.bool b) ∧ RowKit.Below w.heap.size w w':=by
 intro cs
 have hrel : HRel w β0 []:=⟨fun r o h => by simp at h,fun r r' b N N' hl => by obtain ⟨o,h⟩:=hl;simp at h⟩
 have hs : SRel [] 0 w β0 [] [] ⟨[],[],fun _ => none,[]⟩ bare:=by
  refine ⟨hrel,rfl,fun k => by simp [lk,V.conv];exact .undef _,rfl,List.nodup_nil,by simp,rfl,fun r h _ => by simp at h,fun r _ => rfl,by simp,by simp,by simp,rfl,by simp⟩
 obtain ⟨x,v,w',β',H',fr,hq,_,_,k2,k3,k4,k5,k6⟩:=pure_step h hp hs cs hl (fun j x v hj hv => by
  rw [pure_conv _ _ (pureL_mem _ hp x (List.mem_of_getElem? hj))]
  exact hr j x v hj hv)
 subst hq
 have hv : v = .bool b:=rep_bool (m:=[]) k3
 subst hv
 exact ⟨.returned (.bool b),w',fr,⟨rfl,k2.os,k2.tape,k2.output,k2.size,fun q hq => k2.keep q hq (notOwn0 q (sz:=0)).1⟩,k4,k5,k6⟩
end
end Bow
/- AE37: calls of functions that are handed some of the caller's objects, and leave objects of their own. -/
namespace Bow
open Go
def Ref.ren (ρ : List Nat) : Ref → Ref
 | .loc k => match ρ[k]? with
  | some j => .loc j
  | none => .bad
 | .abs n => .abs n
 | .bad => .bad
mutual
def V.ren (ρ : List Nat) : V → V
 | .osl r g o l => .osl (r.ren ρ) g o l
 | .ptr r o => .ptr (r.ren ρ) o
 | .eptr r g i o => .eptr (r.ren ρ) g i o
 | .agg cs => .agg (V.renL ρ cs)
 | .tup vs => .tup (V.renL ρ vs)
 | .fn f a c => .fn f (V.renL ρ a) (V.renL ρ c)
 | .yld r => .yld (r.ren ρ)
 | .iface t v => .iface t (v.ren ρ)
 | .int k n => .int k n
 | .bool b => .bool b
 | .tt => .tt
 | .ff => .ff
 | .str s => .str s
 | .sl s xs => .sl s xs
 | .nilsl => .nilsl
 | .iptr cs o => .iptr cs o
 | .nilp => .nilp
 | .nilf => .nilf
 | .nili => .nili
 | .nilmap => .nilmap
 | .undef => .undef
def V.renL (ρ : List Nat) : List V → List V
 | [] => []
 | v :: vs => v.ren ρ :: V.renL ρ vs
end
theorem V.renL_eq (ρ : List Nat) : ∀ vs,V.renL ρ vs = vs.map (V.ren ρ)
 | [] => rfl
 | v :: vs => by rw [V.renL,V.renL_eq ρ vs];rfl
def HObj.ren (ρ : List Nat) : HObj → HObj
 | .box cs => .box (V.renL ρ cs)
 | .vec g sz xs => .vec g sz xs
 | .loop st pe fn E nt ps asg bo => .loop st pe fn (E.map fun p => (p.1,p.2.ren ρ)) nt ps asg bo
 | .dfr => .dfr
 | .held s => .held s
def Sub (ρ m m1 : List Nat) : Prop:=m1.length = ρ.length ∧ ∀ i k : Nat,ρ[i]? = some k → ∃ r : Nat,m[k]? = some r ∧ m1[i]? = some r
theorem Ref.ren_conv {ρ m m1 : List Nat} (h : Sub ρ m m1) : ∀ r : Ref,r.sc ρ.length → (r.ren ρ).conv m = r.conv m1
 | .loc i,hi => by
  have hi : i < ρ.length:=hi
  have e:=List.getElem?_eq_getElem hi
  obtain ⟨r,h1,h2⟩:=h.2 i _ e
  simp only [Ref.ren,e,Ref.conv,h1,h2]
 | .abs _,_ => rfl
 | .bad,_ => rfl
theorem Ref.ren_sc {ρ m m1 : List Nat} (h : Sub ρ m m1) : ∀ r : Ref,r.sc ρ.length → (r.ren ρ).sc m.length
 | .loc i,hi => by
  have hi : i < ρ.length:=hi
  have e:=List.getElem?_eq_getElem hi
  obtain ⟨r,h1,h2⟩:=h.2 i _ e
  simp only [Ref.ren,e]
  exact lt_of_get h1
 | .abs _,_ => trivial
 | .bad,_ => trivial
mutual
theorem V.ren_conv {ρ m m1 : List Nat} (h : Sub ρ m m1) : ∀ v : V,v.sc ρ.length → (v.ren ρ).conv m = v.conv m1
 | .osl r _ _ _,hs => by simp only [V.ren,V.conv,r.ren_conv h hs]
 | .ptr r _,hs => by simp only [V.ren,V.conv,r.ren_conv h hs]
 | .eptr r _ _ _,hs => by simp only [V.ren,V.conv,r.ren_conv h hs]
 | .yld r,hs => by simp only [V.ren,V.conv,r.ren_conv h hs]
 | .agg cs,hs => by simp only [V.ren,V.conv,V.renL_conv h cs hs]
 | .tup cs,hs => by simp only [V.ren,V.conv,V.renL_conv h cs hs]
 | .fn _ a c,hs => by simp only [V.ren,V.conv,V.renL_conv h a hs.1,V.renL_conv h c hs.2]
 | .iface _ v,hs => by simp only [V.ren,V.conv,v.ren_conv h hs]
 | .int ..,_ | .bool _,_ | .tt,_ | .ff,_ | .str _,_ | .sl ..,_ | .nilsl,_ | .iptr ..,_ | .nilp,_ | .nilf,_ | .nili,_ | .nilmap,_ | .undef,_ => rfl
theorem V.renL_conv {ρ m m1 : List Nat} (h : Sub ρ m m1) : ∀ vs : List V,V.scL ρ.length vs → V.convL m (V.renL ρ vs) = V.convL m1 vs
 | [],_ => rfl
 | v :: vs,hs => by simp only [V.renL,V.convL,v.ren_conv h hs.1,V.renL_conv h vs hs.2]
end
mutual
theorem V.ren_sc {ρ m m1 : List Nat} (h : Sub ρ m m1) : ∀ v : V,v.sc ρ.length → (v.ren ρ).sc m.length
 | .osl r _ _ _,hs | .ptr r _,hs | .eptr r _ _ _,hs | .yld r,hs => r.ren_sc h hs
 | .agg cs,hs | .tup cs,hs => V.renL_sc h cs hs
 | .fn _ a c,hs => ⟨V.renL_sc h a hs.1,V.renL_sc h c hs.2⟩
 | .iface _ v,hs => v.ren_sc h hs
 | .int ..,_ | .bool _,_ | .tt,_ | .ff,_ | .str _,_ | .sl ..,_ | .nilsl,_ | .iptr ..,_ | .nilp,_ | .nilf,_ | .nili,_ | .nilmap,_ | .undef,_ => trivial
theorem V.renL_sc {ρ m m1 : List Nat} (h : Sub ρ m m1) : ∀ vs : List V,V.scL ρ.length vs → V.scL m.length (V.renL ρ vs)
 | [],_ => trivial
 | v :: vs,hs => ⟨v.ren_sc h hs.1,V.renL_sc h vs hs.2⟩
end
theorem HObj.ren_conv {ρ m m1 : List Nat} (h : Sub ρ m m1) : ∀ o : HObj,o.sc ρ.length → (o.ren ρ).conv m = o.conv m1
 | .box cs,hs => by simp only [HObj.ren,HObj.conv,V.renL_conv h cs hs]
 | .vec ..,_ => rfl
 | .dfr,_ => rfl
 | .held _,_ => rfl
 | .loop _ _ _ E _ _ _ _,hs => by
  simp only [HObj.ren,HObj.conv,Env.conv,List.map_map,HObj.loop.injEq,true_and,and_true]
  exact List.map_congr_left fun p hp => by simp only [Function.comp_apply];rw [V.ren_conv h p.2 (hs p hp)]
theorem HObj.ren_sc {ρ m m1 : List Nat} (h : Sub ρ m m1) : ∀ o : HObj,o.sc ρ.length → (o.ren ρ).sc m.length
 | .box cs,hs => V.renL_sc h cs hs
 | .vec ..,_ => trivial
 | .dfr,_ => trivial
 | .held _,_ => trivial
 | .loop _ _ _ E _ _ _ _,hs => fun p hp => by
  obtain ⟨q,hq,rfl⟩:=List.mem_map.1 hp
  exact V.ren_sc h q.2 (hs q hq)
def omap (ρ : List Nat) (o : Option HObj) : Option HObj :=
 match o with
 | none => none
 | some o => some (o.ren ρ)
def setAll (ρ : List Nat) : List Nat → Heap → Heap → Heap
 | k :: ks,o :: os,T => setAll ρ ks os (T.set k (omap ρ o))
 | _,os,T => T ++ os.map (omap ρ)
def setAllK (ρ : List Nat) : List Nat → Heap → Heap → (Heap → Prop) → Prop
 | k :: ks,o :: os,T,K => lset T k (omap ρ o) fun T' => setAllK ρ ks os T' K
 | _,os,T,K => K (T ++ lmap (omap ρ) os)
theorem setAllK_eq (ρ : List Nat) : ∀ (ks : List Nat) (os T : Heap) (K : Heap → Prop),setAllK ρ ks os T K = K (setAll ρ ks os T)
 | k :: ks,o :: os,T,K => by rw [setAllK,lset_eq,setAllK_eq ρ ks os];rfl
 | [],os,T,K => by simp only [setAllK,setAll,lmap_eq]
 | k :: ks,[],T,K => by simp only [setAllK,setAll,lmap_eq]
theorem setAll_len (ρ : List Nat) : ∀ (ks : List Nat) (os T : Heap),ks.length ≤ os.length → (setAll ρ ks os T).length = T.length + (os.length - ks.length)
 | k :: ks,o :: os,T,h => by
  rw [setAll,setAll_len ρ ks os _ (by simpa using h)]
  simp
 | [],os,T,_ => by simp [setAll]
 | k :: ks,[],T,h => by simp at h
theorem setAll_other (ρ : List Nat) {j : Nat} : ∀ (ks : List Nat) (os T : Heap),j ∉ ks → j < T.length → (setAll ρ ks os T)[j]? = T[j]?
 | k :: ks,o :: os,T,h,hj => by
  rw [setAll,setAll_other ρ ks os _ (fun hm => h (List.mem_cons_of_mem _ hm)) (by simpa using hj),List.getElem?_set_ne (fun e : k = j => by subst e;exact h List.mem_cons_self)]
 | [],os,T,_,hj => by simp only [setAll];rw [List.getElem?_append_left hj]
 | k :: ks,[],T,_,hj => by simp only [setAll];rw [List.getElem?_append_left hj]
theorem setAll_at (ρ : List Nat) : ∀ (ks : List Nat) (os T : Heap),ks.Nodup → (∀ k ∈ ks,k < T.length) → ks.length ≤ os.length → ∀ (i k : Nat),ks[i]? = some k → (setAll ρ ks os T)[k]? = os[i]?.map (omap ρ)
 | k0 :: ks,o :: os,T,hn,hl,hle,i,k,hk => by
  obtain ⟨h1,h2⟩:=List.nodup_cons.1 hn
  have hk0:=hl k0 List.mem_cons_self
  rw [setAll]
  cases i with
  | zero =>
   simp only [List.getElem?_cons_zero,Option.some.injEq] at hk
   subst hk
   rw [setAll_other ρ ks os _ h1 (by simpa using hk0)]
   simp [hk0]
  | succ i =>
   simp only [List.getElem?_cons_succ] at hk ⊢
   exact setAll_at ρ ks os _ h2 (fun k hk => by simpa using hl k (List.mem_cons_of_mem _ hk)) (by simpa using hle) i k hk
 | [],os,T,_,_,_,i,k,hk => by simp at hk
 | k0 :: ks,[],T,_,_,hle,i,k,hk => by simp at hle
theorem setAll_new (ρ : List Nat) : ∀ (ks : List Nat) (os T : Heap),ks.length ≤ os.length → ∀ j,(setAll ρ ks os T)[T.length + j]? = os[ks.length + j]?.map (omap ρ)
 | k0 :: ks,o :: os,T,hle,j => by
  rw [setAll]
  have:=setAll_new ρ ks os (T.set k0 (omap ρ o)) (by simpa using hle) j
  simp only [List.length_set] at this
  rw [this,List.length_cons,show ks.length + 1 + j = (ks.length + j) + 1 by omega,List.getElem?_cons_succ]
 | [],os,T,_,j => by
  simp only [setAll]
  rw [List.getElem?_append_right (by omega)]
  simp
 | k0 :: ks,[],T,hle,j => by simp at hle
def subB : List Nat → Nat → Bool
 | [],_ => true
 | k :: ks,n => Nat.blt k n && subB ks n
theorem subB_get : ∀ (ks : List Nat) (n : Nat),subB ks n = true → ∀ k ∈ ks,k < n
 | [],_,_,k,h => by cases h
 | x :: ks,n,hs,k,h => by
  simp only [subB,Bool.and_eq_true] at hs
  rcases List.mem_cons.1 h with rfl | h
  ·exact Nat.le_of_ble_eq_true hs.1
  ·exact subB_get ks n hs.2 k h
def objsAre (ks : List Nat) (T : Heap) : List Nat → Heap → Prop
 | [],[] => True
 | k :: l,some o :: os => (lget T k = some (some (o.ren ks)) ∧ o.scB ks.length = true) ∧ objsAre ks T l os
 | _,_ => False
theorem objsAre_get {ks0 : List Nat} {T : Heap} : ∀ {l : List Nat} {os : Heap},objsAre ks0 T l os → l.length = os.length ∧ ∀ (i k : Nat),l[i]? = some k → ∃ o,os[i]? = some (some o) ∧ T[k]? = some (some (o.ren ks0)) ∧ o.sc ks0.length
 | [],[],_ => ⟨rfl,fun i k h => by simp at h⟩
 | k0 :: l,some o :: os,h => by
  obtain ⟨h1,h2⟩:=objsAre_get h.2
  refine ⟨by simp [h1],fun i k hk => ?_⟩
  cases i with
  | zero =>
   simp only [List.getElem?_cons_zero,Option.some.injEq] at hk
   subst hk
   exact ⟨o,rfl,by rw [← lget_eq];exact h.1.1,HObj.scB_sc o h.1.2⟩
  | succ i => simpa using h2 i k (by simpa using hk)
 | [],_ :: _,h => h.elim
 | _ :: _,[],h => h.elim
 | _ :: _,none :: _,h => h.elim
def rangeFrom : Nat → Nat → List Nat
 | _,0 => []
 | n,k + 1 => n :: rangeFrom (n + 1) k
theorem rangeFrom_len : ∀ (k n : Nat),(rangeFrom n k).length = k
 | 0,_ => rfl
 | k + 1,n => by simp [rangeFrom,rangeFrom_len k]
theorem rangeFrom_get : ∀ (k n i : Nat),i < k → (rangeFrom n k)[i]? = some (n + i)
 | k + 1,n,0,_ => rfl
 | k + 1,n,i + 1,h => by
  rw [rangeFrom,List.getElem?_cons_succ,rangeFrom_get k (n + 1) i (by omega)]
  congr 1
  omega
def subρ (ks : List Nat) (n : Nat) (T1 : Heap) : List Nat:=ks ++ rangeFrom n (lcount T1 0 - lcount ks 0)
theorem call_sub {c : Cx} {g : FuncId} {args args' : List V} {E : Env} {T T1 : Heap} {K : V → St → Prop} {Q : V → Heap → Prop} (ks : List Nat) (hf : Fun c.P g T1 args' Q) (hnd : nodupB ks = true) (hlt : subB ks T.length = true) (ho : objsAre ks T ks T1) (ha : args = V.renL ks args') (hsc : V.scBL ks.length args' = true)
  (hD : c.D.all (fun k => !memN ks k) = true)
  (h : ∀ x T1',Q x T1' → allLive (ldrop T1' ks.length) = true ∧ setAllK (subρ ks T.length T1') ks T1' T fun T2 => K (x.ren (subρ ks T.length T1')) ⟨E,T2,c.B,c.D⟩) : CallThen c g args E T K:=by
 have hen : Enterable c.P g:=by unfold Fun at hf;exact hf.1
 unfold CallThen
 unfold Fun at hf
 refine ⟨hen,fun w β H m a vals cs hs hl hr => ?_⟩
 have hml : m.length = T.length:=hs.mlen
 have hnd':=nodupB_iff _ hnd
 have hlt':=subB_get _ _ hlt
 obtain ⟨hol,hoo⟩:=objsAre_get ho
 obtain ⟨m1,hm1⟩ : ∃ m1,m1 = ks.map fun k => (m[k]?).getD 0:=⟨_,rfl⟩
 have hsub : Sub ks m m1:=by
  refine ⟨by rw [hm1];simp,fun i k hk => ?_⟩
  have hkm : k < m.length:=by rw [hml];exact hlt' k (List.mem_of_getElem? hk)
  have e:=List.getElem?_eq_getElem hkm
  exact ⟨m[k],e,by rw [hm1,List.getElem?_map,hk];simp [e]⟩
 have hm1l : m1.length = T1.length:=by rw [hsub.1];exact hol
 have hm1nd : m1.Nodup:=by
  rw [hm1]
  refine List.Pairwise.map _ (fun x y h => ?_) (List.Pairwise.and_mem.1 hnd')
  obtain ⟨hx,hy,hne⟩:=h
  have hxm : x < m.length:=by rw [hml];exact hlt' x hx
  have hym : y < m.length:=by rw [hml];exact hlt' y hy
  intro e
  simp only [List.getElem?_eq_getElem hxm,List.getElem?_eq_getElem hym,Option.getD_some] at e
  exact hne (hs.inj (List.getElem?_eq_getElem hxm) (by rw [e];exact List.getElem?_eq_getElem hym))
 have hmem : ∀ r,r ∈ m1 → ∃ i k,ks[i]? = some k ∧ m[k]? = some r ∧ m1[i]? = some r:=fun r hr => by
  obtain ⟨i,hi⟩:=List.getElem?_of_mem hr
  have hil : i < ks.length:=by have:=lt_of_get hi;rw [hsub.1] at this;exact this
  obtain ⟨r',h1,h2⟩:=hsub.2 i _ (List.getElem?_eq_getElem hil)
  rw [hi] at h2
  injection h2 with h2
  subst h2
  exact ⟨i,_,List.getElem?_eq_getElem hil,h1,hi⟩
 have hargsc:=(V.scL_iff _ _).1 (V.scBL_sc _ hsc)
 have hs1 : SRel m1 0 w β H m1 ⟨[],T1,fun r => (H[r]?).getD none,[]⟩ bare:=by
  refine ⟨hs.hrel,rfl,fun k => by simp [lk,V.conv];exact .undef _,hm1l,hm1nd,fun i r o hi hoi => ?_,by simp,fun r hr hn => by simp [hr],fun r hr => by simp [List.getElem?_eq_none hr],fun k r hk hm => by have:=lt_of_get hm;omega,by simp,fun i o hoi => ?_,rfl,by simp⟩
  ·have hil : i < ks.length:=by have:=lt_of_get hi;rw [hsub.1] at this;exact this
   have hk:=List.getElem?_eq_getElem hil
   obtain ⟨r',h1,h2⟩:=hsub.2 i _ hk
   rw [hi] at h2
   injection h2 with h2
   subst h2
   obtain ⟨o',e1,e2,e3⟩:=hoo i _ hk
   simp only at hoi
   rw [e1] at hoi
   injection hoi with hoi
   subst hoi
   rw [hs.loc _ r _ h1 e2]
   simp only [Option.map_some]
   rw [HObj.ren_conv hsub o' e3]
  ·have hil : i < ks.length:=by have:=lt_of_get hoi;simp only at this;omega
   obtain ⟨o',e1,e2,e3⟩:=hoo i _ (List.getElem?_eq_getElem hil)
   simp only at hoi ⊢
   rw [e1] at hoi
   injection hoi with hoi
   injection hoi with hoi
   subst hoi
   rw [← hol]
   exact e3
 obtain ⟨x,T1',v,w',β',H',m1',fr,hq,k1,k2,k3,k4,k5,k6⟩:=hf.2 w β H m1 _ vals cs hs1 (by rw [← hl,ha,V.renL_eq];simp) (fun j y u hj hu => by
  have:=hr j (y.ren ks) u (by rw [ha,V.renL_eq,List.getElem?_map,hj];rfl) hu
  rwa [V.ren_conv hsub y (hargsc y (List.mem_of_getElem? hj))] at this)
 obtain ⟨hlive,h⟩:=h x T1' hq
 rw [setAllK_eq] at h
 rw [ldrop_eq] at hlive
 obtain ⟨ρ,hρ⟩ : ∃ ρ,ρ = subρ ks T.length T1':=⟨_,rfl⟩
 rw [← hρ] at h
 have hpre : m1 = m1'.take m1.length:=by have:=k1.imp;rw [this]
 obtain ⟨new,hnew⟩ : ∃ new,m1' = m1 ++ new:=⟨m1'.drop m1.length,by conv => lhs;rw [← List.take_append_drop m1.length m1',← hpre]⟩
 have hm1'l : m1'.length = T1'.length:=k1.mlen
 have hks' : ks.length ≤ T1'.length:=by rw [hnew] at hm1'l;simp at hm1'l;have:=hsub.1;omega
 have hnl : new.length = T1'.length - ks.length:=by rw [hnew] at hm1'l;simp at hm1'l;have:=hsub.1;omega
 have hnget : ∀ j r,new[j]? = some r → m1'[ks.length + j]? = some r:=fun j r hj => by
  rw [hnew,List.getElem?_append_right (by rw [hsub.1];omega),hsub.1,Nat.add_sub_cancel_left]
  exact hj
 have hlen : H.length ≤ H'.length:=k2.len
 have hfresh : ∀ r,r ∈ new → H.length ≤ r:=fun r hr => by
  obtain ⟨j,hj⟩:=List.getElem?_of_mem hr
  have hm:=hnget j r hj
  have hjl : ks.length + j < T1'.length:=by have:=lt_of_get hm;omega
  have hT:=List.getElem?_eq_getElem hjl
  obtain ⟨o,ho⟩:=allLive_get hlive j _ (by rw [List.getElem?_drop];exact hT)
  rw [ho] at hT
  have hH':=k1.loc _ r _ hm hT
  have hz:=k1.own (ks.length + j) r (by rw [hsub.1];omega) hm
  simp only at hz
  rcases Nat.lt_or_ge r H.length with h1 | h1
  ·obtain ⟨o1,e1,_⟩:=k2.evo r _ h1 hH'
   rw [e1] at hz
   cases hz
  ·exact h1
 have hρe : ρ = ks ++ rangeFrom T.length new.length:=by rw [hρ];unfold subρ;rw [lcount_eq,lcount_eq,hnl];simp
 have hρl : ρ.length = T1'.length:=by rw [hρe];simp [rangeFrom_len];omega
 obtain ⟨m',hm'⟩ : ∃ m',m' = m ++ new:=⟨_,rfl⟩
 have hm'l : m'.length = T.length + new.length:=by rw [hm'];simp [hml]
 have hsub' : Sub ρ m' m1':=by
  refine ⟨by rw [hm1'l,hρl],fun i k hk => ?_⟩
  rw [hρe] at hk
  rcases Nat.lt_or_ge i ks.length with h1 | h1
  ·rw [List.getElem?_append_left h1] at hk
   obtain ⟨r,e1,e2⟩:=hsub.2 i k hk
   exact ⟨r,by rw [hm',List.getElem?_append_left (lt_of_get e1)];exact e1,by rw [hnew,List.getElem?_append_left (lt_of_get e2)];exact e2⟩
  ·rw [List.getElem?_append_right h1] at hk
   have hi:=lt_of_get hk
   rw [rangeFrom_len] at hi
   rw [rangeFrom_get _ _ _ hi] at hk
   injection hk with hk
   subst hk
   refine ⟨new[i - ks.length],by rw [hm',List.getElem?_append_right (by omega),hml,Nat.add_sub_cancel_left];exact List.getElem?_eq_getElem hi,?_⟩
   rw [hnew,List.getElem?_append_right (by rw [hsub.1];exact h1),hsub.1]
   exact List.getElem?_eq_getElem hi
 have hext : ∀ u : V,u.sc m.length → u.conv m' = u.conv m:=fun u hu => by rw [hm'];exact V.conv_ext (Nat.le_refl _) u hu
 have hin : ∀ r,r ∈ m1' → r ∈ m1 ∨ r ∈ new:=fun r hr => by rw [hnew] at hr;exact List.mem_append.1 hr
 have hold : ∀ r,r < H.length → r ∉ m1 → H'[r]? = H[r]?:=fun r hr hn => by
  have hn' : r ∉ m1':=fun hm => by
   rcases hin r hm with h1 | h1
   ·exact hn h1
   ·have:=hfresh r h1;omega
  rw [k1.base r (Nat.lt_of_lt_of_le hr hlen) hn']
  simp [hr]
 have hscT1 : ∀ (i : Nat) (o : HObj),T1'[i]? = some (some o) → o.sc ρ.length:=fun i o ho => by rw [hρl];exact k1.scT i o ho
 have hT2l : (setAll ρ ks T1' T).length = T.length + new.length:=by rw [setAll_len _ _ _ _ hks',hnl]
 have hobj : ∀ (i k r : Nat) (o : Option HObj),ρ[i]? = some k → m'[k]? = some r → T1'[i]? = some o → H'[r]? = some ((omap ρ o).map (HObj.conv m')):=fun i k r o hi hk ho => by
  obtain ⟨r',e1,e2⟩:=hsub'.2 i k hi
  rw [hk] at e1
  injection e1 with e1
  subst e1
  rw [k1.loc i r o e2 ho]
  cases o with
  | none => rfl
  | some o => simp only [omap,Option.map_some];rw [HObj.ren_conv hsub' o (hscT1 i o ho)]
 have hcase : ∀ k,k < T.length + new.length → (∃ i,ρ[i]? = some k ∧ (setAll ρ ks T1' T)[k]? = T1'[i]?.map (omap ρ)) ∨ (k < T.length ∧ k ∉ ks ∧ (setAll ρ ks T1' T)[k]? = T[k]?):=fun k hk => by
  rcases Nat.lt_or_ge k T.length with h1 | h1
  ·by_cases hm : k ∈ ks
   ·obtain ⟨i,hi⟩:=List.getElem?_of_mem hm
    exact .inl ⟨i,by rw [hρe,List.getElem?_append_left (lt_of_get hi)];exact hi,setAll_at ρ ks T1' T hnd' hlt' hks' i k hi⟩
   ·exact .inr ⟨h1,hm,setAll_other ρ ks T1' T hm h1⟩
  ·refine .inl ⟨ks.length + (k - T.length),?_,?_⟩
   ·rw [hρe,List.getElem?_append_right (by omega),Nat.add_sub_cancel_left,rangeFrom_get _ _ _ (by omega)]
    congr 1
    omega
   ·have:=setAll_new ρ ks T1' T hks' (k - T.length)
    rwa [Nat.add_sub_cancel' h1] at this
 refine ⟨_,_,v,w',β',H',m',fr,h,?_,k2,by rw [V.ren_conv hsub' x (by rw [hρl,← hm1'l];exact sc_of_rep x k3)];exact k3,k4,k5,k6,by rw [hm'];exact List.prefix_append _ _⟩
 refine ⟨k1.hrel,hs.size,fun k => ?_,by rw [hm'l,hT2l],?_,fun k r o hk ho' => ?_,?_,fun r hr hn => ?_,fun r hr => hs.fut r (Nat.le_trans hlen hr),fun k r hk hm => ?_,fun p hp => ?_,fun k o ho' => ?_,hs.defs,?_⟩
 ·simp only
  rw [hext _ (by have:=lk_sc E k hs.scE;rwa [hml])]
  exact (hs.env k).mono k2
 ·rw [hm']
  refine List.nodup_append.2 ⟨hs.nodup,?_,fun a ha b hb e => ?_⟩
  ·have:=k1.nodup
   rw [hnew] at this
   exact (List.nodup_append.1 this).2.1
  ·subst e
   obtain ⟨j,hj⟩:=List.getElem?_of_mem ha
   have:=hs.lt hj
   have:=hfresh _ hb
   omega
 ·have hkl : k < T.length + new.length:=by have:=lt_of_get hk;omega
  simp only at ho'
  rcases hcase k hkl with ⟨i,e1,e2⟩ | ⟨e1,e2,e3⟩
  ·rw [e2] at ho'
   rw [Option.map_eq_some_iff] at ho'
   obtain ⟨o1,e4,e5⟩:=ho'
   subst e5
   exact hobj i k r o1 e1 hk e4
  ·rw [e3] at ho'
   have hkm : m[k]? = some r:=by rw [hm',List.getElem?_append_left (by omega)] at hk;exact hk
   have hrn : r ∉ m1:=fun hm => by
    obtain ⟨i,k2',q1,q2,_⟩:=hmem r hm
    have:=hs.inj q2 hkm
    subst this
    exact e2 (List.mem_of_getElem? q1)
   rw [hold r (hs.lt hkm) hrn,hs.loc k r o hkm ho']
   cases o with
   | none => rfl
   | some o =>
    simp only [Option.map_some,Option.some.injEq]
    have:=hs.scT k o ho'
    rw [hm']
    exact (HObj.conv_ext (Nat.le_refl _) o (by rw [hml];exact this)).symm
 ·have:=hs.imp
  rw [hm',List.take_append_of_le_length]
  ·exact this
  ·have:=congrArg List.length this
   simp at this
   omega
 ·simp only
  have hrm : r ∉ m:=fun hm => hn (by rw [hm'];exact List.mem_append_left _ hm)
  have hrnew : r ∉ new:=fun hm => hn (by rw [hm'];exact List.mem_append_right _ hm)
  have hr1 : r ∉ m1:=fun hm => by
   obtain ⟨i,k2',q1,q2,_⟩:=hmem r hm
   exact hrm (List.mem_of_getElem? q2)
  have hr1' : r ∉ m1':=fun hm => by rcases hin r hm with h1 | h1;exact hr1 h1;exact hrnew h1
  rw [k1.base r hr hr1']
  simp only
  rcases Nat.lt_or_ge r H.length with h1 | h1
  ·rw [hs.base r h1 hrm]
   rfl
  ·have e0 : c.B r = none:=hs.fut r h1
   rw [e0,List.getElem?_eq_none h1]
   rfl
 ·rcases Nat.lt_or_ge k m.length with h1 | h1
  ·rw [hm',List.getElem?_append_left h1] at hm
   exact hs.own k r hk hm
  ·rw [hm',List.getElem?_append_right h1] at hm
   exact hs.fut r (hfresh r (List.mem_of_getElem? hm))
 ·simp only
  rw [hT2l]
  exact V.sc_mono (Nat.le_add_right _ _) _ (hs.scE p hp)
 ·have hkl : k < T.length + new.length:=by have:=lt_of_get ho';simp only at this;omega
  simp only at ho' ⊢
  rw [hT2l]
  rcases hcase k hkl with ⟨i,e1,e2⟩ | ⟨e1,e2,e3⟩
  ·rw [e2,Option.map_eq_some_iff] at ho'
   obtain ⟨o1,e4,e5⟩:=ho'
   cases o1 with
   | none => cases e5
   | some o1 =>
    simp only [omap,Option.some.injEq] at e5
    subst e5
    rw [← hm'l]
    exact HObj.ren_sc hsub' o1 (hscT1 i o1 e4)
  ·rw [e3] at ho'
   exact HObj.sc_mono (Nat.le_add_right _ _) _ (hs.scT k o ho')
 ·intro j k hj
  obtain ⟨r',b,N,e1,e2,e3,e4⟩:=hs.marks j k hj
  have hkm : k < T.length:=by have:=lt_of_get e1;omega
  have hkn : k ∉ ks:=fun hm => by
   have:=List.all_eq_true.1 hD k (List.mem_of_getElem? hj)
   rw [(memN_iff _ _).2 hm] at this
   cases this
  have hr1 : r' ∉ m1:=fun hm => by
   obtain ⟨i,k2',q1,q2,_⟩:=hmem r' hm
   have:=hs.inj q2 e1
   subst this
   exact hkn (List.mem_of_getElem? q1)
  have hH0:=hs.loc k r' _ e1 e2
  refine ⟨r',b,N,by rw [hm',List.getElem?_append_left (lt_of_get e1)];exact e1,by simp only;rw [setAll_other ρ ks T1' T hkn hkm];exact e2,?_,e4⟩
  exact dfr_stays k2 (by simpa [HObj.conv] using hH0) e3 (by rw [hold r' (hs.lt e1) hr1,hH0];rfl)
theorem fun_fn {P : Program} {f : FuncId} {fn : Func} {body : Code} {T : Heap} {args : List V} {Q : V → Heap → Prop} (n : Nat) (hf : P.funcs[f]? = some fn) (hn : (fn.name == "runtime.NumGoroutine") = false) (hb : fn.body = some body) (hnt : Nat.ble args.length fn.ntmps = true)
  (h : ∀ (imps : List Nat) (B : Base),imps.length = T.length → evp { P:=P,nt:=fn.ntmps,fn:=f,ro:=none,imps:=imps,X:=XR P imps fn.results B Q,B:=B,D:=[] } n [.code body] (env0 0 args) T) : Fun P f T args Q :=
 fun_of_goes hf hn hb hnt fun imps B hi => evp_sound _ _ _ _ _ (h imps B hi)
def keepK (n : Nat) (x : V) (T : Heap) (Q : V → Heap → Prop) : Prop:=∃ T1,T1.length = n ∧ x.scB n = true ∧ heapIs n T T1 ∧ Q x T1
theorem fun_keep {P : Program} {f : FuncId} {T : Heap} {args : List V} {Q : V → Heap → Prop} (n : Nat) (hn : Nat.ble T.length n = true) (h : Fun P f T args fun x T' => keepK n x T' Q) : Fun P f T args Q:=by
 unfold Fun at *
 refine ⟨h.1,fun w β H m B vals cs hs hl hr => ?_⟩
 obtain ⟨x,T',v,w',β',H',m',fr,⟨T1,q1,q2,q3,q4⟩,k1,k2,k3,k4⟩:=h.2 w β H m B vals cs hs hl hr
 subst q1
 obtain ⟨T'',rfl,hsc⟩:=heapIs_eq q3
 have hml : m.length = T.length:=hs.mlen
 obtain ⟨m2,H2,e1,e2,e3⟩:=SRel.dropTo T'' k1 (by rw [hml];exact Nat.le_of_ble_eq_true hn) (by simp) hsc (by simp)
 refine ⟨x,T1,v,w',β',H2,m2,fr,q4,e1,k2.trans e2,?_,k4⟩
 have hx:=V.scB_sc x q2
 have : x.conv m2 = x.conv m':=by
  rw [e3]
  have hle : T1.length ≤ (m'.take T1.length).length:=by
   have:=k1.mlen
   simp at this ⊢
   omega
  conv => rhs;rw [← List.take_append_drop T1.length m']
  exact (V.conv_ext hle x hx).symm
 rw [this]
 exact k3.mono e2
end Bow
/- AE38: a row that grows for more; own slices cut; a nil slice as own memory. -/
namespace Bow
open Go
theorem run_append_zeros {P : Program} {w : World} {t t' e : TypeId} {i : TypeInfo} {z : Value} {kd kk : IntKind} (n : Nat) (ht : P.underlying t = some (.slice e)) (ht' : P.underlying t' = some (.int kd)) (hi : P.info? e = some i) (hz : i.zero = some z) (ty : TypeId)
  (_hzs : z.cells.size = i.size) (hsz : 0 < i.size) (h1 : 1 ≤ n) (h63 : n ≤ 9223372036854775807) (hb : n * i.bytes ≤ 281474976710656) (hfit : Builtin.nextslicecap n 0 * i.bytes ≤ 281474976710656) :
  (Builtin.append_ #[t,t'] ty #[.slice none 0 0,.int kk n]).run P w =
   .ok (.slice (some ⟨w.heap.size,0,none⟩) n (grownCap w n 0 e)) (w.drew.alloc (.cells (Builtin.zeroCells z.cells n ++ Builtin.zeroCells z.cells (grownCap w n 0 e - n)) e)):=by
 have hn : ¬ (n ≤ 0):=by omega
 have hn0 : ¬ n = 0:=by omega
 have hs0 : ¬ i.size = 0:=by omega
 have e1 : IntKind.i64.max = 9223372036854775807:=by decide
 have hw : IntKind.i64.wrap (n : Int) = n:=by
  rw [IntKind.wrap_i64];omega
 have h48 : ¬ (281474976710656 < Builtin.nextslicecap n 0 * i.bytes):=by omega
 have hb' : ¬ (281474976710656 < (n : Int) * (i.bytes : Int)):=by
  have h : ((n * i.bytes : Nat) : Int) ≤ 281474976710656:=by omega
  rw [Int.natCast_mul] at h
  omega
 have h63' : ¬ ((9223372036854775807 : Int) < (n : Int)):=by omega
 have hneg : ¬ ((n : Int) < 0):=by omega
 simp [Builtin.append_,run_underlying ht,run_underlying ht',run_sizeOf' hi,typeInfo,zeroValue,hi,hz,hn0,h63',h48,hb',hneg,hw,Question.forced,newRow,grownCap,e1,asInt,asIntOf,Builtin.firstCells]
 intro h
 exact absurd h (Nat.ne_of_gt (Nat.mul_pos h1 hsz))
section
variable {c : Cx} {E : Env} {T : Heap} {ops : Array Oper} {i : Nat} {rest : List Nat} {k : List Item} {o : Oper}
theorem goes_cap0 {t e : TypeId} {x : Operand} (n : Nat) (ho : lget ops.toList i = some o) (hg : o.guard = none) (hop : o.op = .call { callee:=.builtin .cap,args:=#[x],argTypes:=#[t] }) (hx : opd E x = .nilsl) (ht : tyU c.P t = some (.slice e))
  (h : putE c.nt o.dst (.int .i64 0) E False fun E' => evp c n (.inRegion ops rest :: k) E' T) : Goes c (.inRegion ops (i :: rest) :: k) E T:=by
 refine goes_opTo n ho hg hop (OpTo.still fun o hop w β H m a hs => ⟨.int .i64 0,?_,.int _ _⟩) (fun cl h => by cases h) h
 have hr:=opd_rep hs x
 simp only [hx,V.conv] at hr
 generalize hq : a.eval x = q at hr
 cases hr
 simp [execOp,hop,resolve,invoke,builtin,Builtin.cap_,hq,run_underlying (tyU_sound ht),goInt]
theorem goes_nilcut {t e : TypeId} {x hi : Operand} {kk : IntKind} {ti : TypeInfo} (n : Nat) (ho : lget ops.toList i = some o) (hg : o.guard = none) (hop : o.op = .slice t x none (some hi) none) (hx : opd E x = .nilsl) (hh : opd E hi = .int kk 0) (ht : tyU c.P t = some (.slice e)) (hi' : tyI c.P e = some ti)
  (h : putE c.nt o.dst .nilsl E False fun E' => evp c n (.inRegion ops rest :: k) E' T) : Goes c (.inRegion ops (i :: rest) :: k) E T:=by
 refine goes_opTo n ho hg hop (OpTo.still fun o hop w β H m a hs => ⟨.slice none 0 0,?_,.nilsl⟩) (fun cl h => by cases h) h
 have hr:=opd_rep hs x
 simp only [hx,V.conv] at hr
 have hr2:=rep_int (m:=m) (by have:=opd_rep hs hi;rwa [hh] at this)
 generalize hq : a.eval x = q at hr
 cases hr
 simp [execOp,hop,hq,hr2,Instr.sliceAt,Instr.slice,Instr.sliceBounds,Instr.sliceBound,asIntOf,run_underlying (tyU_sound ht),run_sizeOf' (tyI_sound hi')]
theorem goes_growTo {t t' e : TypeId} {x y : Operand} {kd : IntKind} {ti : TypeInfo} {z : Value} (n N : Nat) (ho : lget ops.toList i = some o) (hg : o.guard = none) (hop : o.op = .call { callee:=.builtin .append,args:=#[x,y],argTypes:=#[t,t'] }) (hx : opd E x = .nilsl) (hy : opd E y = .int .i64 N) (h1 : 1 ≤ N)
  (ht : tyU c.P t = some (.slice e)) (ht' : tyU c.P t' = some (.int kd)) (hi : tyI c.P e = some ti) (hz : ti.zero = some z) (hsz : (Nat.beq z.cells.size ti.size && Nat.ble 1 ti.size && Nat.ble 1 ti.bytes && onesB (ofVal z).cells && Nat.beq (lcount (ofVal z).cells 0) ti.size) = true) (hb : room N ti.bytes)
  (h : putE c.nt o.dst (.osl (.loc T.length) 0 0 N) E False fun E' => lsnoc T (some (.vec 0 ti.size (List.replicate N (ofVal z)))) fun T' => evp c n (.inRegion ops rest :: k) E' T') : Goes c (.inRegion ops (i :: rest) :: k) E T:=by
 simp only [lsnoc_eq] at h
 simp only [Bool.and_eq_true,lcount_eq,Nat.add_zero] at hsz
 obtain ⟨⟨⟨⟨s1,s2⟩,s3⟩,s4⟩,s5⟩:=hsz
 have s1:=Nat.eq_of_beq_eq_true s1
 have s2 : 1 ≤ ti.size:=Nat.le_of_ble_eq_true s2
 have s3 : 1 ≤ ti.bytes:=Nat.le_of_ble_eq_true s3
 have s5:=Nat.eq_of_beq_eq_true s5
 unfold room at hb
 have hN : N ≤ 70368744177664:=Nat.le_trans (Nat.le_mul_of_pos_right N s3) hb
 refine goes_opTo n ho hg hop (fun o hop w β H m a hs => ?_) (fun cl h => by cases h) h
 have hr:=opd_rep hs x
 simp only [hx,V.conv] at hr
 have e2:=rep_int (m:=m) (by have:=opd_rep hs y;rwa [hy] at this)
 generalize hq : a.eval x = q at hr
 cases hr
 have hrun:=run_append_zeros (P:=c.P) (w:=w) (kk:=.i64) N (tyU_sound ht) (tyU_sound ht') (tyI_sound hi) hz o.type s1 (by omega) h1 (by omega) (by omega) (growslice_fits (by omega) (by omega))
 have hge:=grownCap_ge w N 0 e
 have hcm:=grownCap_le_maxLen w N 0 e (by unfold maxLen;omega)
 obtain ⟨cap,hcap⟩ : ∃ cap,cap = grownCap w N 0 e:=⟨_,rfl⟩
 rw [← hcap] at hge hcm hrun
 have hzr : RowRep w β H (V.convL m (ofVal z).cells) z.cells.toList:=ofVal_row m z
 have hzp : V.convL m (ofVal z).cells = (ofVal z).cells:=by
  refine pureL_conv m _ ?_
  have key1 : ∀ v,(ofVal1 v).pureB = true:=fun v => by
   unfold ofVal1
   split <;> first | rfl | skip
   cases (Nat.ble _ 1000000) <;> rfl
  have key : ∀ l : List Value,V.pureL (lmap ofVal1 l) = true:=fun l => by
   induction l with
   | nil => rfl
   | cons x l ih => simp only [lmap,V.pureL,key1,ih,Bool.and_self]
  unfold ofVal
  split
  ·exact key _
  ·rw [ofVal1_cells]
   simp [V.pureL,key1]
 rw [hzp] at hzr
 have hsame : SRel c.imps c.nt w.drew β H m ⟨E,T,c.B,c.D⟩ a:=hs.same (Fr.of_heap rfl rfl rfl rfl) (hs.hrel.of_heap rfl rfl rfl rfl)
 obtain ⟨cells,hcells⟩ : ∃ cells,cells = Builtin.zeroCells z.cells N ++ Builtin.zeroCells z.cells (cap - N):=⟨_,rfl⟩
 rw [← hcells] at hrun
 have hcs : cells.size = cap * ti.size:=by
  rw [hcells]
  simp only [Array.size_append,zeroCells_size',s1,← Nat.add_mul]
  congr 1
  omega
 obtain ⟨β',H',k1,k2,k3⟩:=hsame.newVec 0 ti.size (List.replicate N (ofVal z)) cells e N cap (tyG_zero _) s2 (fun x hx => by rw [List.eq_of_mem_replicate hx];exact ⟨s5,s4⟩) (by simp) hge hcm hcs.symm
  (fun ix x j cc v hx hj hv => by
   have hxl:=lt_of_get hx
   rw [List.length_replicate] at hxl
   have hxe:=List.eq_of_mem_replicate (List.mem_of_getElem? hx)
   subst hxe
   have hjl:=lt_of_get hj
   have hlt : ix * ti.size + j < N * ti.size:=by
    have : (ix + 1) * ti.size ≤ N * ti.size:=Nat.mul_le_mul_right _ hxl
    rw [Nat.add_mul] at this
    omega
   rw [hcells,Array.getElem?_append_left (by rw [zeroCells_size',s1];exact hlt)] at hv
   have hget : (Builtin.zeroCells z.cells N)[ix * ti.size + j]? = some z.cells[(ix * ti.size + j) % z.cells.size]!:=by
    simp [Builtin.zeroCells,s1,hlt]
   rw [hget] at hv
   injection hv with hv
   have hmod : (ix * ti.size + j) % z.cells.size = j:=by rw [s1,Nat.add_comm,Nat.add_mul_mod_self_right,Nat.mod_eq_of_lt (by omega)]
   rw [hmod] at hv
   refine (hzr.2 j cc v hj ?_).mono (Fr.of_heap rfl rfl rfl rfl)
   rw [← hv]
   have : j < z.cells.size:=by omega
   simp [this])
 refine ⟨_,_,_,β',H',_,?_,.inl rfl,k1,(show Fr w β H w.drew β H from Fr.of_heap rfl rfl rfl rfl).trans k2,k3,List.prefix_append _ _⟩
 rw [← hq,← e2] at hrun
 simp [execOp,hop,resolve,invoke,builtin,hrun]
theorem goes_cut {t e : TypeId} {x hi : Operand} {kk : IntKind} {ti : TypeInfo} {kn g l sz h : Nat} {xs : List V} (n : Nat) (ho : lget ops.toList i = some o) (hg : o.guard = none) (hop : o.op = .slice t x none (some hi) none) (hx : opd E x = .osl (.loc kn) g 0 l) (hh : opd E hi = .int kk h) (ht : tyU c.P t = some (.slice e)) (hi' : tyI c.P e = some ti)
  (hk : lget T kn = some (some (.vec g sz xs))) (hle : h ≤ l)
  (hn : putE c.nt o.dst (.osl (.loc kn) (bump g) 0 h) E False fun E' => lset T kn (some (.vec (bump g) sz (xs.take h))) fun T' => evp c n (.inRegion ops rest :: k) E' T') : Goes c (.inRegion ops (i :: rest) :: k) E T:=by
 simp only [lset_eq] at hn
 rw [lget_eq] at hk
 refine goes_opTo n ho hg hop (fun o hop w β H m a hs => ?_) (fun cl h => by cases h) hn
 have hv:=opd_rep hs x
 obtain ⟨r,hr,hH⟩:=hs.at hk
 simp only [hx,V.conv,Ref.conv,hr] at hv
 simp only [HObj.conv] at hH
 have hob:=hs.hrel.obj r _ hH
 have hrl:=hs.lt hr
 have e2:=rep_int (m:=m) (by have:=opd_rep hs hi;rwa [hh] at this)
 have hvec2 : ∀ sz2 xs2,H[r]? = some (some (.vec g sz2 xs2)) → sz2 = sz ∧ xs2 = xs:=fun sz2 xs2 h2 => by
  rw [hH] at h2
  injection h2 with h2
  injection h2 with h2
  injection h2 with _ e1 e2
  exact ⟨e1.symm,e2.symm⟩
 generalize hq : a.eval x = q at hv
 have hrun : ∀ (ad : Option Addr) (cap : Nat),q = .slice ad l cap → l ≤ cap → (execOp a.eval o).run c.P w = .ok (.value (.slice (if cap = 0 then ad else Option.map (fun x => x.add 0) ad) h cap)) w:=by
  intro ad cap hqe hlc
  subst hqe
  have hhc : h ≤ cap:=by omega
  simp [execOp,hop,hq,e2,Instr.sliceAt,Instr.slice,Instr.sliceBounds,Instr.sliceBound,asIntOf,run_underlying (tyU_sound ht),run_sizeOf' (tyI_sound hi'),hhc]
 cases hv with
 | oslNil _ _ sz2 xs2 ad hH' hβ =>
  rw [hβ] at hob
  have hxs : xs = []:=hob
  subst hxs
  obtain rfl : h = 0:=by omega
  have hfr : Fr w β H w (upd β r .nil) (H.set r (some (.vec (bump g) sz ([] : List V)))):=Fr.regen (lt_bump g) (by rw [hβ];simp) hH rfl rfl rfl (Nat.le_refl _) (fun _ _ _ => rfl) (fun b N hb => by cases hb)
  have hrel : HRel w (upd β r .nil) (H.set r (some (.vec (bump g) sz ([] : List V)))):=hs.hrel.regen (lt_bump g) (by rw [hβ];simp) hH rfl rfl rfl (Nat.le_refl _) (fun _ _ _ => rfl) (fun b N hb => by cases hb) rfl
  refine ⟨_,_,w,_,_,m,hrun ad 0 rfl (Nat.le_refl _),.inl rfl,by simpa using hs.regen hk hr hfr hrel,hfr,?_,List.prefix_refl _⟩
  simp only [V.conv,Ref.conv,hr]
  exact .oslNil r _ sz [] _ (by simp [hrl]) (upd_same _ _ _)
 | oslBlk _ _ _ _ sz2 xs2 b N ad cap hH' hβ hl hN hcap ha hlen =>
  obtain ⟨rfl,rfl⟩:=hvec2 _ _ hH'
  rw [hβ] at hob
  obtain ⟨vs,et,_,h1,h2,h3,h4,h5,h6⟩:=hob
  have hl' : ∀ b' N',Loc.blk b N = Loc.blk b' N' → w.heap.size ≤ b' ∨ ∃ N2,β r = .blk b' N2:=fun b' N' hb' => by injection hb' with e1 e2;subst e1;exact .inr ⟨N,hβ⟩
  have hfr : Fr w β H w (upd β r (.blk b N)) (H.set r (some (.vec (bump g) sz2 (xs2.take h)))):=Fr.regen (lt_bump g) (by rw [hβ];simp) hH rfl rfl rfl (Nat.le_refl _) (fun _ _ _ => rfl) hl'
  have hrel : HRel w (upd β r (.blk b N)) (H.set r (some (.vec (bump g) sz2 (xs2.take h)))) :=
   hs.hrel.regen (lt_bump g) (by rw [hβ];simp) hH rfl rfl rfl (Nat.le_refl _) (fun _ _ _ => rfl) hl'
    ⟨vs,et,tyG_bump _ _,h1,h2,Nat.le_trans (Nat.mul_le_mul_right _ (by simp;omega)) h3,h4,fun x hx => h5 x (List.mem_of_mem_take hx),fun p x j c v hi hj hv => by
     rw [List.getElem?_take] at hi
     split at hi
     ·exact (h6 p x j c v hi hj hv).mono hfr
     ·cases hi⟩
  refine ⟨_,_,w,_,_,m,hrun ad cap rfl hl,.inl rfl,hs.regen hk hr hfr hrel,hfr,?_,List.prefix_refl _⟩
  simp only [V.conv,Ref.conv,hr]
  exact .oslBlk r _ 0 _ sz2 (xs2.take h) b N _ _ (by simp [hrl]) (upd_same _ _ _) (by omega) hN hcap (fun hc => by
   rw [if_neg (by omega),ha hc]
   simp [at_add]) (by simp;omega)
 | oslStale _ _ _ _ g' sz' xs' _ hH' hg =>
  rw [hH] at hH'
  injection hH' with hH'
  injection hH' with hH'
  injection hH' with e0 _ _
  omega
 | oslDead _ _ _ _ _ hd => rw [hH] at hd;cases hd
end
theorem goes_own {c : Cx} {todo : List Item} {E : Env} {T : Heap} (t sz : Nat) (hx : lk E t = .nilsl) (h : Goes c todo ((t,.osl (.loc T.length) 0 0 0) :: E) (T ++ [some (.vec 0 sz [])])) : Goes c todo E T:=by
 refine goes_step fun w β H m a b cs hs _ _ _ => ?_
 obtain ⟨β',H',k1,k2,k3⟩:=hs.newNil 0 sz none
 have hr:=hs.env t
 simp only [hx,V.conv] at hr
 generalize hq : a.tmps.getD t Go.undef = q at hr
 cases hr
 refine ⟨w,β',H',m ++ [H.length],a,todo,⟨(t,.osl (.loc T.length) 0 0 0) :: E,T ++ [some (.vec 0 sz [])],c.B,c.D⟩,.refl _ _,?_,k2,h⟩
 refine { k1 with env:=fun j => ?_,scE:=fun p hp => ?_ }
 ·simp only [lk]
  cases hb : Nat.beq t j with
  | false => exact k1.env j
  | true =>
   obtain rfl:=Nat.eq_of_beq_eq_true hb
   simp only [cond_true,hq]
   exact k3
 ·simp only [List.mem_cons] at hp
  rcases hp with rfl | hp
  ·show T.length < (T ++ _).length
   simp
  ·exact k1.scE p hp
end Bow
/- AE39: a box whose cells are to say less. -/
namespace Bow
open Go
end Bow
/- AE40: a function's contract out of a walk by the kit's own tactics: all that it wrote lies in new memory. -/
namespace Bow
open Go
theorem pure_of_calls {P : Program} {f : FuncId} {args : List V} {Q : V → Prop} (he : Enterable P f) (hp : V.pureL args = true)
  (h : ∀ (w : World) (β : Nat → Loc) (H : Heap) (vals : Array Value),args.length = vals.size → (∀ (j : Nat) (x : V) (v : Value),args[j]? = some x → vals[j]? = some v → Rep w β H x v) →
   Calls P f vals w fun e w' => RowKit.Below w.heap.size w w' ∧ ∃ (x : V) (v : Value),e = .returned v ∧ Q x ∧ x.pureB = true ∧ Rep w' β H x v) : Pure P f args Q:=by
 unfold Pure Fun
 refine ⟨he,fun w β H m B vals cs hs hl hr => ?_⟩
 obtain ⟨e,w',fr,⟨hb,x,v,rfl,hq,hx,hv⟩,k1,k2,k3⟩:=h w β H vals hl (fun j x v hj hv => by
  have:=hr j x v hj hv
  rwa [pure_conv _ _ (pureL_mem _ hp x (List.mem_of_getElem? hj))] at this) cs
 refine ⟨x,[],v,w',β,H,m,fr,⟨rfl,hx,hq⟩,hs.same (Fr.of_below hb) (hs.hrel.of_below hb),Fr.of_below hb,?_,k1,k2,k3⟩
 rwa [pure_conv _ _ hx]
def flatL : List V → Bool
 | [] => true
 | v :: vs => flatB v && flatL vs
theorem flatL_get : ∀ {vs : List V},flatL vs = true → ∀ v ∈ vs,flatB v = true
 | [],_,v,h => by cases h
 | x :: vs,hg,v,h => by
  simp only [flatL,Bool.and_eq_true] at hg
  rcases List.mem_cons.1 h with rfl | h
  ·exact hg.1
  ·exact flatL_get hg.2 v h
section
variable {P : Program} {w w' : World} {β β' : Nat → Loc} {H H' : Heap}
theorem Rep.flat_sl {sz : Nat} {xs : List V} {v : Value} (hx : ∀ x ∈ xs,flatL x.cells = true) (h : Rep w β H (.sl sz xs) v) : Rep w β0 [] (.sl sz xs) v:=by
 cases h with
 | sl _ _ a cap vals hcap hmax hsz ha hr =>
  refine .sl sz xs a cap vals hcap hmax hsz (fun hne => ?_) (fun i x j c hi hj => ?_)
  ·obtain ⟨ad,h1,_,h3⟩:=ha hne
   exact ⟨ad,h1,notOwn0 _,h3⟩
  ·exact (hr i x j c hi hj).flat (flatL_get (hx x (List.mem_of_getElem? hi)) c (List.mem_of_getElem? hj))
theorem sl_cells {sz : Nat} {xs : List V} {v : Value} (h : Rep w β H (.sl sz xs) v) : ∃ (a : Option Addr) (cap : Nat),v = .slice a xs.length cap ∧ xs.length ≤ cap ∧ cap ≤ maxLen ∧
  (xs ≠ [] → ∃ ad,a = some ad ∧ ad.block < w.heap.size ∧ ∀ (i : Nat) (x : V) (j : Nat) (c : V),xs[i]? = some x → x.cells[j]? = some c → ∃ u,w.cell? (ad.add (i * sz + j)) = some u ∧ Rep w β H c u):=by
 cases h with
 | sl _ _ a cap vals hcap hmax hsz ha hr =>
  refine ⟨a,cap,rfl,hcap,hmax,fun hne => ?_⟩
  obtain ⟨ad,h1,_,h3,h4⟩:=ha hne
  refine ⟨ad,h1,h3,fun i x j c hi hj => ⟨_,h4 _ ?_,hr i x j c hi hj⟩⟩
  have h5 : i < xs.length:=lt_of_get hi
  have h6 : j < sz:=by rw [← (hsz x (List.mem_of_getElem? hi)).1];exact lt_of_get hj
  have : (i + 1) * sz ≤ xs.length * sz:=Nat.mul_le_mul_right sz h5
  rw [Nat.succ_mul] at this
  omega
theorem calls_of_pureQ {f : FuncId} {args : List V} {vals : Array Value} {Q : V → Prop} {c : Value} (h : Pure P f args Q) (hc : ∀ (x : V) (v : Value) (w' : World) (β' : Nat → Loc) (H' : Heap),Q x → Rep w' β' H' x v → v = c) (hp : V.pureL args = true) (hl : args.length = vals.size)
  (hr : ∀ (j : Nat) (x : V) (v : Value),args[j]? = some x → vals[j]? = some v → Rep w β H x v) : Calls P f vals w fun e w' => e = .returned c ∧ RowKit.Below w.heap.size w w':=by
 intro cs
 obtain ⟨x,v,w',β',H',fr,hq,_,k3,hb,k4,k5,k6⟩:=pure_still h hp cs hl hr
 have hv:=hc x v _ _ _ hq k3
 subst hv
 exact ⟨.returned v,w',fr,⟨rfl,hb⟩,k4,k5,k6⟩
end
end Bow
/- AE41: shifts to the right; a string's comparison. -/
namespace Bow
open Go
section
variable {c : Cx} {E : Env} {T : Heap} {ops : Array Oper} {i : Nat} {rest : List Nat} {k : List Item} {o : Oper}
theorem goes_shr {t t' : TypeId} {x y : Operand} {ik yk : IntKind} {a b : Int} (n : Nat) (ho : lget ops.toList i = some o) (hg : o.guard = none) (hop : o.op = .binOp .shr t x y t') (hx : opd E x = .int ik a) (hy : opd E y = .int yk b) (hb : 0 ≤ b)
  (h : putE c.nt o.dst (.int ik (a / 2 ^ min b.toNat ik.bits)) E False fun E' => evp c n (.inRegion ops rest :: k) E' T) : Goes c (.inRegion ops (i :: rest) :: k) E T:=by
 refine goes_opTo n ho hg hop (fun o hop w β H m a hs => ?_) (fun cl h => by cases h) h
 have e1:=rep_int (by have:=opd_rep hs x;rwa [hx] at this)
 have e2:=rep_int (by have:=opd_rep hs y;rwa [hy] at this)
 refine ⟨_,_,w,β,H,m,?_,.inl rfl,hs,Fr.refl w β H,.int _ _,List.prefix_refl m⟩
 simp only [execOp,hop,e1,e2,eqGuard,binOp,shift_shr_any _ _ _ _ hb]
 rfl
theorem goes_ownBox {todo : List Item} (kb sz : Nat) (hk : lget T kb = some (some (.box [.nilsl]))) (h : Goes c todo E (List.set (T ++ [some (HObj.vec 0 sz [])]) kb (some (HObj.box [.osl (.loc T.length) 0 0 0])))) : Goes c todo E T:=by
 rw [lget_eq] at hk
 refine goes_step fun w β H m a b cs0 hs _ _ _ => ?_
 obtain ⟨β',H',k1,k2,k3⟩:=hs.newNil 0 sz none
 have hk2 : (T ++ [some (HObj.vec 0 sz [])])[kb]? = some (some (.box [.nilsl])):=by rw [List.getElem?_append_left (lt_of_get hk)];exact hk
 obtain ⟨r,hr,hH⟩:=k1.at hk2
 have hob:=k1.hrel.obj r _ hH
 have hfr : Fr w β' H' w β' (H'.set r (some ((HObj.box [.osl (.loc T.length) 0 0 0]).conv (m ++ [H.length])))):=Fr.swap hH trivial
 have hrel : HRel w β' (H'.set r (some ((HObj.box [.osl (.loc T.length) 0 0 0]).conv (m ++ [H.length])))):=by
  refine k1.hrel.swap hH trivial ?_
  simp only [HObj.conv]
  cases hβ : β' r with
  | none => trivial
  | nil => rw [hβ] at hob;exact hob
  | blk bb N =>
   rw [hβ] at hob
   obtain ⟨vs,e,q1,q2,q3,q4⟩:=hob
   refine ⟨vs,e,q1,q2,q3,fun i x v hi hv => ?_⟩
   cases i with
   | succ i => simp [V.convL] at hi
   | zero =>
    have h0:=q4 0 .nilsl v rfl hv
    cases h0
    simp only [V.convL] at hi
    injection hi with hi
    subst hi
    exact k3.mono (by rw [← HObj.conv];exact hfr)
 have hset:=k1.setAt (o':=some (.box [.osl (.loc T.length) 0 0 0])) (w':=w) hr (fun o1 e1 => by
   injection e1 with e1
   subst e1
   have hm:=hs.mlen
   exact ⟨by show T.length < (m ++ [H.length]).length;simp only [List.length_append,List.length_singleton];have : m.length = T.length:=hm;omega,trivial⟩)
  (fun hm => absurd hm (k1.notD hk2 (by simp))) hfr hrel
 exact ⟨w,β',_,m ++ [H.length],a,todo,⟨E,_,c.B,c.D⟩,.refl _ _,hset,k2.trans hfr,h⟩
theorem goes_wkSlot {todo : List Item} (t : Nat) {v v' : V} (hx : lk E t = v) (hp : v.pureB = true) (hp' : v'.pureB = true) (hw : Wk v v') (h : Goes c todo ((t,v') :: E) T) : Goes c todo E T:=by
 refine goes_step fun w β H m a b cs hs _ _ _ => ?_
 have hr:=hs.env t
 rw [hx,pure_conv _ _ hp] at hr
 have hr':=hw w β H _ hr
 exact ⟨w,β,H,m,a,todo,⟨_,_,c.B,c.D⟩,.refl _ _,hs.know (x:=v') (by rw [pure_conv _ _ hp'];exact hr'),Fr.refl w β H,h⟩
theorem goes_fzSlot {todo : List Item} (t kn : Nat) {g l sz : Nat} {xs : List V} (hx : lk E t = .osl (.loc kn) g 0 l) (hk : lget T kn = some (some (.vec g sz xs))) (hl : l = xs.length) (h : lset T kn none fun T' => Goes c todo ((t,.sl sz xs) :: E) T') : Goes c todo E T:=by
 rw [lset_eq] at h
 have hfz : frzAll [lk E t] T False fun vs T' => vs = [.sl sz xs] ∧ T' = T.set kn none:=by
  rw [hx]
  simp only [frzAll,fv_eq,frz,frz1,hk,lset_eq]
  exact ⟨trivial,hl,trivial,trivial⟩
 rcases frzAll_sound (F:=False) _ _ _ hfz with h' | ⟨vs',T',⟨rfl,rfl⟩,hto⟩
 ·exact h'.elim
 refine goes_step fun w β H m a b cs hs _ _ _ => ?_
 obtain ⟨H1,q1,q2,q3⟩:=hto.2 _ _ _ _ _ _ _ _ _ _ hs
 have hr:=q3 0 _ _ _ rfl rfl (hs.env t)
 exact ⟨w,β,H1,m,a,todo,⟨_,_,c.B,c.D⟩,.refl _ _,q1.know (x:=.sl sz xs) (show Rep w β H1 ((V.sl sz xs).conv m) _ from hr),q2,h⟩
end
end Bow
/- AE42: nil in a row of cells as own memory; own slices cut ahead; a pointer into own memory is not nil. -/
namespace Bow
open Go
section
variable {c : Cx} {E : Env} {T : Heap} {ops : Array Oper} {i : Nat} {rest : List Nat} {k : List Item} {o : Oper}
theorem convL_get (m : List Nat) (cs : List V) (j : Nat) : (V.convL m cs)[j]? = cs[j]?.map (V.conv m):=by
 rw [V.convL_eq,List.getElem?_map]
theorem convL_set (m : List Nat) (cs : List V) (j : Nat) (x : V) : V.convL m (cs.set j x) = (V.convL m cs).set j (x.conv m):=by
 rw [V.convL_eq,V.convL_eq,List.map_set]
theorem goes_ownCell {todo : List Item} {cs : List V} (kb j sz : Nat) (hk : lget T kb = some (some (.box cs))) (hj : cs[j]? = some .nilsl) (h : Goes c todo E (List.set (T ++ [some (HObj.vec 0 sz [])]) kb (some (HObj.box (cs.set j (.osl (.loc T.length) 0 0 0)))))) : Goes c todo E T:=by
 rw [lget_eq] at hk
 refine goes_step fun w β H m a b cs0 hs _ _ _ => ?_
 obtain ⟨β',H',k1,k2,k3⟩:=hs.newNil 0 sz none
 have hk2 : (T ++ [some (HObj.vec 0 sz [])])[kb]? = some (some (.box cs)):=by rw [List.getElem?_append_left (lt_of_get hk)];exact hk
 obtain ⟨r,hr,hH⟩:=k1.at hk2
 have hob:=k1.hrel.obj r _ hH
 have hfr : Fr w β' H' w β' (H'.set r (some ((HObj.box (cs.set j (.osl (.loc T.length) 0 0 0))).conv (m ++ [H.length])))):=Fr.swap hH trivial
 have hrel : HRel w β' (H'.set r (some ((HObj.box (cs.set j (.osl (.loc T.length) 0 0 0))).conv (m ++ [H.length])))):=by
  refine k1.hrel.swap hH trivial ?_
  simp only [HObj.conv]
  cases hβ : β' r with
  | none => trivial
  | nil => rw [hβ] at hob;exact hob
  | blk bb N =>
   rw [hβ] at hob
   obtain ⟨vs,e,q1,q2,q3,q4⟩:=hob
   refine ⟨vs,e,q1,q2,by rw [convL_set,List.length_set];exact q3,fun i x v hi hv => ?_⟩
   rw [convL_set,List.getElem?_set] at hi
   split at hi
   ·rename_i hji
    subst hji
    split at hi
    ·injection hi with hi
     subst hi
     have h0:=q4 j .nilsl v (by rw [convL_get,hj];rfl) hv
     cases h0
     exact k3.mono hfr
    ·cases hi
   ·exact (q4 i x v hi hv).mono hfr
 have hset:=k1.setAt (o':=some (.box (cs.set j (.osl (.loc T.length) 0 0 0)))) (w':=w) hr (fun o1 e1 => by
   injection e1 with e1
   subst e1
   have hm : m.length = T.length:=hs.mlen
   have hsc:=hs.scT kb _ hk
   show V.scL _ _
   rw [V.scL_iff]
   have hsc':=(V.scL_iff _ _).1 hsc
   intro v hv
   rcases List.mem_or_eq_of_mem_set hv with hv | hv
   ·exact V.sc_mono (by simp;omega) v (hsc' v hv)
   ·subst hv
    show T.length < (m ++ [H.length]).length
    simp only [List.length_append,List.length_singleton]
    omega)
  (fun hm => absurd hm (k1.notD hk2 (by simp))) hfr hrel
 exact ⟨w,β',_,m ++ [H.length],a,todo,⟨E,_,c.B,c.D⟩,.refl _ _,hset,k2.trans hfr,h⟩
theorem goes_cutlo {t e : TypeId} {x lo : Operand} {kk : IntKind} {ti : TypeInfo} {kn g off l sz h : Nat} {xs : List V} (n : Nat) (ho : lget ops.toList i = some o) (hg : o.guard = none) (hop : o.op = .slice t x (some lo) none none) (hx : opd E x = .osl (.loc kn) g off l) (hh : opd E lo = .int kk h) (ht : tyU c.P t = some (.slice e)) (hi' : tyI c.P e = some ti) (hsz : ti.size = sz)
  (hk : lget T kn = some (some (.vec g sz xs))) (hle : h ≤ l)
  (hn : putE c.nt o.dst (.osl (.loc kn) g (off + h) (l - h)) E False fun E' => evp c n (.inRegion ops rest :: k) E' T) : Goes c (.inRegion ops (i :: rest) :: k) E T:=by
 rw [lget_eq] at hk
 refine goes_opTo n ho hg hop (fun o hop w β H m a hs => ?_) (fun cl h => by cases h) hn
 have hv:=opd_rep hs x
 obtain ⟨r,hr,hH⟩:=hs.at hk
 simp only [hx,V.conv,Ref.conv,hr] at hv
 simp only [HObj.conv] at hH
 have e2:=rep_int (m:=m) (by have:=opd_rep hs lo;rwa [hh] at this)
 have hvec2 : ∀ sz2 xs2,H[r]? = some (some (.vec g sz2 xs2)) → sz2 = sz ∧ xs2 = xs:=fun sz2 xs2 h2 => by
  rw [hH] at h2
  injection h2 with h2
  injection h2 with h2
  injection h2 with _ e1 e2
  exact ⟨e1.symm,e2.symm⟩
 generalize hq : a.eval x = q at hv
 have hrun : ∀ (ad : Option Addr) (cap : Nat),q = .slice ad l cap → l ≤ cap → (execOp a.eval o).run c.P w = .ok (.value (.slice (if cap - h = 0 then ad else Option.map (fun x => x.add (h * sz)) ad) (l - h) (cap - h))) w:=by
  intro ad cap hqe hlc
  subst hqe
  have hhc : h ≤ cap:=by omega
  simp [execOp,hop,hq,e2,Instr.sliceAt,Instr.slice,Instr.sliceBounds,Instr.sliceBound,asIntOf,run_underlying (tyU_sound ht),run_sizeOf' (tyI_sound hi'),hsz,hle]
  by_cases hch : cap = h
  ·simp [hch]
  ·rw [if_neg hch,if_neg (by omega)]
 cases hv with
 | oslNil _ _ sz2 xs2 ad hH' hβ =>
  obtain ⟨rfl,rfl⟩:=hvec2 _ _ hH'
  obtain rfl : h = 0:=by omega
  refine ⟨_,_,w,β,H,m,hrun ad 0 rfl (Nat.le_refl _),.inl rfl,hs,Fr.refl w β H,?_,List.prefix_refl _⟩
  simp only [V.conv,Ref.conv,hr]
  exact .oslNil r g sz2 xs2 _ hH hβ
 | oslBlk _ _ _ _ sz2 xs2 b N ad cap hH' hβ hl hN hcap ha hlen =>
  obtain ⟨rfl,rfl⟩:=hvec2 _ _ hH'
  refine ⟨_,_,w,β,H,m,hrun ad cap rfl hl,.inl rfl,hs,Fr.refl w β H,?_,List.prefix_refl _⟩
  simp only [V.conv,Ref.conv,hr]
  refine .oslBlk r g (off + h) (l - h) sz2 xs2 b N _ _ hH hβ (by omega) (by rw [show off + h + (cap - h) = off + cap by omega];exact hN) (by omega) (fun hc => ?_) (by omega)
  rw [if_neg (by omega),ha (by omega)]
  simp [Addr.add,Nat.add_mul]
 | oslStale _ _ _ _ g' sz' xs' _ hH' hg =>
  rw [hH] at hH'
  injection hH' with hH'
  injection hH' with hH'
  injection hH' with e0 _ _
  omega
 | oslDead _ _ _ _ _ hd => rw [hH] at hd;cases hd
theorem goes_nilE {x : Operand} {kn g sz ix off : Nat} {xs : List V} (n : Nat) (ho : lget ops.toList i = some o) (hg : o.guard = none) (hop : o.op = .nilCheck x) (hx : opd E x = .eptr (.loc kn) g ix off) (hk : lget T kn = some (some (.vec g sz xs)))
  (hn : putE c.nt o.dst (.eptr (.loc kn) g ix off) E False fun E' => evp c n (.inRegion ops rest :: k) E' T) : Goes c (.inRegion ops (i :: rest) :: k) E T:=by
 rw [lget_eq] at hk
 refine goes_opTo n ho hg hop (fun o hop w β H m a hs => ?_) (fun cl h => by cases h) hn
 have hv:=opd_rep hs x
 obtain ⟨r,hr,hH⟩:=hs.at hk
 simp only [hx,V.conv,Ref.conv,hr] at hv
 simp only [HObj.conv] at hH
 generalize hq : a.eval x = q at hv
 cases hv with
 | eptrLive _ _ _ _ sz2 xs2 b N hH' hβ hi =>
  refine ⟨_,_,w,β,H,m,by simp [execOp,hop,hq];rfl,.inl rfl,hs,Fr.refl w β H,?_,List.prefix_refl _⟩
  simp only [V.conv,Ref.conv,hr]
  exact .eptrLive r g ix off sz2 xs2 b N hH' hβ hi
 | eptrStale _ _ _ _ g' sz' xs' _ hH' hg =>
  rw [hH] at hH'
  injection hH' with hH'
  injection hH' with hH'
  injection hH' with e0 _ _
  omega
 | eptrDead _ _ _ _ _ hd => rw [hH] at hd;cases hd
end
theorem fun_wk {P : Program} {f : FuncId} {T : Heap} {args : List V} {Q : V → Heap → Prop} (h : Fun P f T args fun x T' => ∃ y,Wk x y ∧ x.pureB = true ∧ y.pureB = true ∧ Q y T') : Fun P f T args Q:=by
 unfold Fun at *
 refine ⟨h.1,fun w β H m B vals cs hs hl hr => ?_⟩
 obtain ⟨x,T',v,w',β',H',m',fr,⟨y,q1,q2,q3,q4⟩,k1,k2,k3,k4⟩:=h.2 w β H m B vals cs hs hl hr
 rw [pure_conv _ _ q2] at k3
 exact ⟨y,T',v,w',β',H',m',fr,q4,k1,k2,by rw [pure_conv _ _ q3];exact q1 _ _ _ _ k3,k4⟩
end Bow
/- W1: plain: nodes. -/
namespace Bow
open Go Go.Proofs
set_option maxRecDepth 100000 in
theorem w_walk (t : Tree) : ∀ (d : Int) (m : List Nat) (r kl : Nat) (T T' : Heap) (b : Bool),0 ≤ d → d + t.size ≤ 1000000000 → Rounds Tryz.prog kl ((t.pre d).map preV) T T' b → m[kl]? = some r →
  FunB Tryz.prog 114 m T [nodeV t,.int .i64 d,.yld (.abs r)] (fun x T'' => x = (if b then .tt else .ff) ∧ T'' = T'):=by
 induction t using Tree.ind with
 | _ t ih =>
  intro d m r kl T T' b hd0 hd hR hr
  refine funB_of_goes 100 Tryz.func114 rfl rfl rfl fun B hout => ?_
  show Goes _ _ _ _
  rw [pre_eq] at hR
  have hlp : ∃ ob,T[kl]? = some (some ob) ∧ isLoop ob:=by cases hR <;> assumption
  obtain ⟨T1,b1,hy,hk⟩ : ∃ T1 b1,YieldOk Tryz.prog T kl (preV (d,t)) b1 T1 ∧ ((b1 = true ∧ Rounds Tryz.prog kl ((pres (d + 1) t.subs).map preV) T1 T' b) ∨ (b1 = false ∧ T' = T1 ∧ b = false)):=by
   cases hR with
   | go hl h k => exact ⟨_,_,h,.inl ⟨rfl,k⟩⟩
   | stop hl h => exact ⟨_,_,h,.inr ⟨rfl,rfl,rfl⟩⟩
  refine goes_yield 100 rfl rfl rfl rfl rfl hout hr hlp rfl hy ?_
  intro B' hout' hB'
  rcases hk with ⟨rfl,hk⟩ | ⟨rfl,rfl,rfl⟩
  ·show Goes _ _ _ _
   refine goes_iterB (ι:=Nat × Heap) (fun i B1 => i.1 ≤ t.subs.length ∧ Rounds Tryz.prog kl ((pres (d + 1) (t.subs.drop i.1)).map preV) i.2 T' b ∧ Out m i.2 B1 ∧ ∀ q,q ∉ m → B1 q = B q) (fun i => t.subs.length - i.1)
    (fun i => [(17,.int .i64 i.1),(16,.int .i64 t.subV.length),(15,.sl 6 t.subV),(1,.int .i64 d),(2,.yld (.abs r))]) (fun _ => []) (0,T1) 100 (fun _ => rfl) (fun _ => rfl) ⟨?_,?_,?_⟩ ?_
   ·exact ⟨Nat.zero_le _,hk,hout',hB'⟩
   ·exact ⟨⟨rfl,rfl⟩,⟨rfl,rfl⟩,⟨rfl,rfl⟩,⟨rfl,rfl⟩,⟨rfl,rfl⟩,trivial⟩
   ·trivial
   ·rintro ⟨i,Ti⟩ B1 ⟨h1,h2,h3,h4⟩ next
    refine ⟨fun hlt => go 200 ?_,fun hge => go 200 ?_⟩
    ·have hi : i < t.subs.length:=by simpa [subV_eq] using hlt
     have hpre : (pres (d + 1) (t.subs.drop i)).map preV = ((t.subs[i]).pre (d + 1)).map preV ++ (pres (d + 1) (t.subs.drop (i + 1))).map preV:=by
      rw [drop_cons hi,pres,List.map_append]
     rw [hpre] at h2
     obtain ⟨T2,b2,k1,k2⟩:=h2.cut
     have hmem : t.subs[i] ∈ t.subs:=List.getElem_mem hi
     have hsz:=Tree.size_sub hmem
     refine ⟨Int.natCast_nonneg i,nodeV t.subs[i],by simp [subV_eq,hi],?_⟩
     refine ⟨by constructor <;> omega,?_⟩
     show CallThen _ _ _ _ _ _
     refine call_funB (ih _ hmem (d + 1) m r kl Ti T2 b2 (by omega) (by omega) k1 hr) rfl h3 rfl ?_
     rintro x T3 B3 ⟨rfl,rfl⟩ _ hout3 hB3
     rcases k2 with ⟨rfl,k2⟩ | ⟨rfl,rfl,rfl⟩
     ·have:=size_eq t
      have:=length_sizes t.subs
      refine ⟨by constructor <;> omega,?_⟩
      show Goes _ _ _ _
      refine next (i + 1,T3) B3 _ _ ⟨⟨?_,?_,?_,?_⟩,?_,?_,?_⟩
      ·simp only;omega
      ·exact k2
      ·exact hout3
      ·exact fun q hq => (hB3 q hq).trans (h4 q hq)
      ·simp only;omega
      ·exact ⟨⟨rfl,rfl⟩,⟨rfl,rfl⟩,⟨rfl,rfl⟩,⟨rfl,rfl⟩,⟨rfl,rfl⟩,trivial⟩
      ·trivial
     ·exact ⟨trivial,rfl,fun q hq => (hB3 q hq).trans (h4 q hq),_,hout3,rfl,rfl,rfl⟩
    ·have hi : t.subs.length ≤ i:=by simpa [subV_eq] using hge
     rw [List.drop_eq_nil_of_le hi] at h2
     cases h2
     exact ⟨trivial,rfl,h4,Ti,h3,rfl,rfl,rfl⟩
  ·exact ⟨trivial,rfl,hB',_,hout',rfl,rfl,rfl⟩
theorem w_iter (t : Tree) (h : t.size ≤ 1000000000) : Iter Tryz.prog 113 [] [.iptr (nodeV t).cells 0] ((t.pre 0).map preV):=by
 intro m r kl T T' b hR hr
 refine funB_of_goes 100 Tryz.func113 rfl rfl rfl fun B hout => ?_
 show CallThen _ _ _ _ _ _
 refine call_funB (w_walk t 0 m r kl T T' b (by omega) (by omega) hR hr) rfl hout rfl ?_
 rintro x T3 B3 ⟨rfl,rfl⟩ _ hout3 hB3
 exact ⟨trivial,rfl,hB3,_,hout3,rfl,rfl⟩
theorem w_nodes (t : Tree) : Pure Tryz.prog 81 [nodeV t] (fun x => x = .fn (.func 113) [] [.iptr (nodeV t).cells 0]):=by
 refine pure_fn_frz [0] 100 Tryz.func81 rfl rfl rfl fun B => ?_
 exact ⟨trivial,rfl,rfl,rfl,rfl,rfl⟩
end Bow
/- W2: trees measured. -/
namespace Bow
open Go Go.Proofs
theorem attrLen_drop {l : List (List UInt8 × List UInt8)} {i : Nat} (h : i < l.length) : attrLen (l.drop i) = l[i].1.length + l[i].2.length + attrLen (l.drop (i + 1)):=by rw [drop_cons h,attrLen_cons]
end Bow
/- W3: trees measured, more. -/
namespace Bow
open Go Go.Proofs
end Bow
/- W4: Weight. -/
namespace Bow
open Go Go.Proofs
theorem not_lt_of {a b : Int} (h : decide (a < b) = false) : b ≤ a:=by simpa using h
theorem lt_of {a b : Int} (h : decide (a < b) = true) : a < b:=by simpa using h
theorem le_of {a b : Int} (h : decide (a ≤ b) = true) : a ≤ b:=by simpa using h
theorem not_le_of {a b : Int} (h : decide (a ≤ b) = false) : b < a:=by simpa using h
theorem eq_of {a b : Int} (h : decide (a = b) = true) : a = b:=by simpa using h
theorem ne_of {a b : Int} (h : decide (a = b) = false) : a ≠ b:=by simpa using h
theorem ne_of' {a b : Int} (h : (!decide (a = b)) = true) : a ≠ b:=by simpa using h
theorem eq_of' {a b : Int} (h : (!decide (a = b)) = false) : a = b:=by simpa using h
set_option maxRecDepth 100000 in
theorem w_Weight (t : Tree) : ∀ top : Nat,top ≤ 1000000 → Pure Tryz.prog 8 [nodeV t,.int .i64 top] (fun x => ∃ w : Nat,x = .int .i64 w ∧ 1 ≤ w ∧ w ≤ 4 * top + 4 ∧ (w ≤ top → t.weight ≤ w)):=by
 induction t using Tree.ind with
 | _ t ih =>
  intro top htop
  have hw:=weight_eq t
  refine pure_fn 200 Tryz.func8 rfl rfl rfl fun B => ?_
  have early : ∃ w : Nat,V.int .i64 ((top : Int) + 1) = .int .i64 w ∧ 1 ≤ w ∧ w ≤ 4 * top + 4 ∧ (w ≤ top → t.weight ≤ w):=⟨top + 1,rfl,by omega,by omega,fun h => by omega⟩
  have hin : inI ((top : Int) + 1):=by constructor <;> omega
  refine ⟨fun g1 => go 200 ?_,fun g1 => go 200 ?_⟩
  ·exact ⟨hin,trivial,rfl,rfl,rfl,early⟩
  refine ⟨fun g2 => go 200 ?_,fun g2 => go 200 ?_⟩
  ·exact ⟨hin,trivial,rfl,rfl,rfl,early⟩
  refine ⟨fun g3 => go 200 ?_,fun g3 => go 200 ?_⟩
  ·exact ⟨hin,trivial,rfl,rfl,rfl,early⟩
  have g1:=not_lt_of g1
  have g2:=not_lt_of g2
  have g3:=not_lt_of g3
  simp only [List.length_map] at g3
  refine ⟨by constructor <;> omega,by constructor <;> omega,?_⟩
  show Goes _ _ _ _
  refine goes_while (ι:=Nat × Nat) (fun i => i.1 ≤ t.attrs.length ∧ 1 ≤ i.2 ∧ i.2 ≤ 3 * top + 1 ∧ (i.2 ≤ top → 1 + t.label.length + t.text.length + (t.attrs.length + attrLen t.attrs) ≤ i.2 + (t.attrs.length - i.1) + attrLen (t.attrs.drop i.1))) (fun i => t.attrs.length - i.1)
   (fun i => [(6,.int .i64 i.1),(5,.int .i64 i.2),(1,.int .i64 top),(2,.ptr (.loc 0) 0)]) (fun i => [some (.box (nodeV t).cells)]) (0,1 + t.label.length + t.text.length)
   (fun w : Nat => 1 ≤ w ∧ w ≤ 3 * top + 1 ∧ (w ≤ top → 1 + t.label.length + t.text.length + (t.attrs.length + attrLen t.attrs) ≤ w)) (fun w => [(5,.int .i64 w),(1,.int .i64 top),(2,.ptr (.loc 0) 0)]) (fun _ => [some (.box (nodeV t).cells)])
   200 (fun _ => rfl) (fun _ => rfl) (fun _ => rfl) (fun _ => rfl) ⟨?_,?_,?_⟩ ?_ ?_
  ·exact ⟨Nat.zero_le _,by simp only;omega,by simp only;omega,fun _ => by simp only [List.drop_zero];omega⟩
  ·exact ⟨⟨rfl,rfl⟩,⟨by simp only [lk];rfl,rfl⟩,⟨rfl,rfl⟩,⟨rfl,rfl⟩,trivial⟩
  ·exact ⟨⟨rfl,rfl⟩,trivial⟩
  ·
   rintro w0 ⟨q1,q2,q3⟩
   show Goes _ _ _ _
   refine goes_iter (ι:=Nat × Nat) (fun i => i.1 ≤ t.subs.length ∧ i.1 + 1 ≤ i.2 ∧ i.2 ≤ 4 * top + 4 ∧ (i.2 ≤ top → t.weight ≤ i.2 + weights (t.subs.drop i.1))) (fun i => t.subs.length - i.1)
    (fun i => [(7,.int .i64 i.1),(5,.int .i64 i.2),(1,.int .i64 top),(2,.ptr (.loc 0) 0)]) (fun i => [some (.box (nodeV t).cells)]) (0,w0) 200 (fun _ => rfl) (fun _ => rfl) ⟨?_,?_,?_⟩ ?_
   ·exact ⟨Nat.zero_le _,by simpa using q1,by simp only;omega,fun h => by simp only [List.drop_zero];simp only at h;have:=q3 h;omega⟩
   ·exact ⟨⟨rfl,rfl⟩,⟨rfl,rfl⟩,⟨rfl,rfl⟩,⟨rfl,rfl⟩,trivial⟩
   ·exact ⟨⟨rfl,rfl⟩,trivial⟩
   ·rintro ⟨i,w⟩ ⟨k1,k2,k3,k4⟩ next
    simp only at k1 k2 k3 k4
    refine ⟨fun hlt => go 200 ?_,fun hge => go 200 ?_⟩
    ·have hi : i < t.subs.length:=by simpa [subV_eq] using hlt
     have hmem : t.subs[i] ∈ t.subs:=List.getElem_mem hi
     have hx : t.subV[i]? = some (nodeV t.subs[i]):=by simp [subV_eq,hi]
     refine ⟨fun h5 => go 200 ?_,fun h5 => go 200 ?_⟩
     ·have h5 : (w : Int) ≤ top:=le_of h5
      have h5' : w ≤ top:=by omega
      rw [drop_cons hi,weights_cons] at k4
      refine ⟨Int.natCast_nonneg i,nodeV t.subs[i],hx,?_⟩
      refine ⟨by constructor <;> omega,?_⟩
      show CallThen _ _ _ _ _ _
      have hsub : (top : Int) - w = ((top - w : Nat) : Int):=by omega
      rw [hsub]
      refine call_pure (ih _ hmem (top - w) (by omega)) rfl ?_
      rintro x ⟨v,rfl,v0,v1,v2⟩
      refine ⟨by constructor <;> omega,?_⟩
      refine ⟨by constructor <;> omega,?_⟩
      show Goes _ _ _ _
      refine next (i + 1,w + v) _ _ ⟨⟨hi,by simp only;omega,by simp only;omega,fun h => ?_⟩,?_,?_,?_⟩
      ·have h : w + v ≤ top:=h
       have:=v2 (by omega)
       have:=k4 h5'
       simp only
       omega
      ·simp only;omega
      ·exact ⟨⟨rfl,rfl⟩,⟨rfl,rfl⟩,⟨rfl,rfl⟩,⟨rfl,rfl⟩,trivial⟩
      ·exact ⟨⟨rfl,rfl⟩,trivial⟩
     ·have h5 : ¬ (w : Int) ≤ top:=by simpa using h5
      exact ⟨trivial,rfl,rfl,rfl,w,rfl,by omega,k3,fun h => by omega⟩
    ·have hi : t.subs.length ≤ i:=by simpa [subV_eq] using hge
     rw [List.drop_eq_nil_of_le hi,weights,Nat.add_zero] at k4
     exact ⟨trivial,rfl,rfl,rfl,w,rfl,by omega,k3,k4⟩
  ·rintro ⟨i,w⟩ ⟨k1,k2,k3,k4⟩ next leave
   simp only at k1 k2 k3 k4
   refine ⟨fun hlt => go 200 ?_,fun hge => go 200 ?_⟩
   ·have hi : i < t.attrs.length:=by simpa using hlt
    have hix : (t.attrs.map attrV)[i]? = some (attrV t.attrs[i]):=by simp [hi]
    refine ⟨fun h5 => go 200 ?_,fun h5 => go 200 ?_⟩
    ·have h5:=le_of h5
     rw [attrLen_drop hi] at k4
     refine ⟨Int.natCast_nonneg i,attrV t.attrs[i],hix,?_⟩
     refine ⟨fun h6 => go 200 ?_,fun h6 => go 200 ?_⟩
     ·exact ⟨hin,trivial,rfl,rfl,rfl,early⟩
     refine ⟨Int.natCast_nonneg i,attrV t.attrs[i],hix,?_⟩
     refine ⟨fun h7 => go 200 ?_,fun h7 => go 200 ?_⟩
     ·exact ⟨hin,trivial,rfl,rfl,rfl,early⟩
     have h6:=not_lt_of h6
     have h7:=not_lt_of h7
     show Goes _ _ _ _
     refine goes_draw 300 ?_
     refine ⟨by constructor <;> omega,?_⟩
     refine ⟨Int.natCast_nonneg i,attrV t.attrs[i],hix,?_⟩
     refine ⟨by constructor <;> omega,?_⟩
     refine ⟨Int.natCast_nonneg i,attrV t.attrs[i],hix,?_⟩
     refine ⟨by constructor <;> omega,?_⟩
     refine ⟨by kernel_rfl,?_⟩
     refine ⟨by constructor <;> omega,?_⟩
     show Goes _ _ _ _
     refine next (i + 1,w + 1 + t.attrs[i].1.length + t.attrs[i].2.length) _ _ ⟨⟨hi,?_,?_,?_⟩,?_,?_,?_⟩
     ·simp only;omega
     ·simp only;omega
     ·simp only;omega
     ·simp only;omega
     ·exact ⟨⟨rfl,rfl⟩,⟨rfl,rfl⟩,⟨rfl,rfl⟩,⟨rfl,rfl⟩,trivial⟩
     ·exact ⟨⟨rfl,rfl⟩,trivial⟩
    ·have h5 : ¬ (w : Int) ≤ top:=by simpa using h5
     exact leave w _ _ _ rfl ⟨⟨k2,k3,fun h => by omega⟩,⟨⟨rfl,rfl⟩,⟨rfl,rfl⟩,⟨rfl,rfl⟩,trivial⟩,⟨⟨rfl,rfl⟩,trivial⟩⟩
   ·have hi : t.attrs.length ≤ i:=by simpa using hge
    simp only [List.drop_eq_nil_of_le hi,attrLen,List.foldr_nil] at k4
    exact leave w _ _ _ rfl ⟨⟨k2,k3,fun h => by have:=k4 h;unfold attrLen;omega⟩,⟨⟨rfl,rfl⟩,⟨rfl,rfl⟩,⟨rfl,rfl⟩,trivial⟩,⟨⟨rfl,rfl⟩,trivial⟩⟩
end Bow
/- W5: limits.Check; the trees of the chapter's examples. -/
namespace Bow
open Go Go.Proofs
def zeroT (ss : List Tree) : Tree:=.mk 0 false [] [] [] ss
def zeroV (k : V) : V:=.agg [.int .u64 0,.ff,.str [],.nilsl,.str [],k]
theorem wk_zero {k : V} {ss : List Tree} (h : Wk k (.sl 6 (ss.map nodeV))) : Wk (zeroV k) (nodeV (zeroT ss)):=by
 refine Wk.agg ⟨.refl _,Wk.ff,.refl _,Wk.nil 2,.refl _,?_,trivial⟩
 rw [subV_eq]
 exact h
theorem okE_node (t : Tree) : okE 6 (nodeV t):=⟨rfl,rfl⟩
end Bow
/- W6: which operations are formed. -/
namespace Bow
open Go Go.Proofs
theorem w_May1 (n : Int) : Pure Tryz.prog 156 [intV n] (fun x => x = .bool (!stepOk n)):=by
 refine pure_wk (pure_fn 100 Tryz.func156 rfl rfl rfl fun B => ?_)
 refine ⟨fun g1 => go 200 ?_,fun g1 => go 200 ?_⟩
 ·have g1:=lt_of g1
  exact ⟨trivial,rfl,rfl,rfl,leaf_tt (by unfold stepOk;rw [decide_eq_false (by omega)];rfl)⟩
 ·have g1:=not_lt_of g1
  refine ⟨trivial,rfl,rfl,rfl,leaf_b ?_⟩
  unfold stepOk
  rw [decide_eq_true (p:=0 ≤ n) (by omega),Bool.true_and]
  by_cases h : n < 1048576
  ·rw [decide_eq_true h,decide_eq_false (by omega)];rfl
  ·rw [decide_eq_false h,decide_eq_true (by omega)];rfl
def findIx (f : Int → Bool) : Nat → List Int → Int
 | _,[] => -1
 | i,x :: xs => bif f x then i else findIx f (i + 1) xs
theorem findIx_any (f : Int → Bool) : ∀ (xs : List Int) (i : Nat),decide (0 ≤ findIx f i xs) = xs.any f
 | [],i => by simp [findIx]
 | x :: xs,i => by
  rw [findIx,List.any_cons]
  cases h : f x with
  | true => simp
  | false => simpa using findIx_any f xs (i + 1)
set_option maxRecDepth 100000 in
theorem w_IndexInt (f : Int → Bool) (g : FuncId) (xs : List Int) (hl : xs.length ≤ 1000000) (hg : ∀ n,Pure Tryz.prog g [intV n] (fun x => x = .bool (f n))) :
  Pure Tryz.prog 189 [pathV xs,.fn (.func g) [] []] (fun x => x = .int .i64 (findIx f 0 xs)):=by
 refine pure_fn 100 Tryz.func189 rfl rfl rfl fun B => ?_
 show Goes _ _ _ _
 refine goes_iter (ι:=Nat) (fun i => i ≤ xs.length ∧ findIx f i (xs.drop i) = findIx f 0 xs) (fun i => xs.length - i) (fun i => [(8,.int .i64 i),(7,.int .i64 (xs.map intV).length),(1,.fn (.func g) [] []),(0,pathV xs)]) (fun _ => []) 0 200 (fun _ => rfl) (fun _ => rfl) ⟨⟨Nat.zero_le _,rfl⟩,?_,?_⟩ ?_
 ·exact ⟨⟨rfl,rfl⟩,⟨rfl,rfl⟩,⟨rfl,rfl⟩,⟨rfl,rfl⟩,trivial⟩
 ·trivial
 ·rintro i ⟨h1,h2⟩ next
  refine ⟨fun hlt => go 200 ?_,fun hge => go 200 ?_⟩
  ·have hi : i < xs.length:=by simpa using hlt
   have hx : (xs.map intV)[i]? = some (intV xs[i]):=by simp [hi]
   rw [drop_cons hi,findIx] at h2
   refine ⟨Int.natCast_nonneg i,_,hx,?_⟩
   show CallThen _ _ _ _ _ _
   refine call_pure (hg xs[i]) rfl ?_
   rintro x rfl
   refine ⟨fun h => go 200 ?_,fun h => go 200 ?_⟩
   ·rw [h] at h2
    exact ⟨trivial,rfl,rfl,rfl,by rw [← h2];rfl⟩
   ·rw [h] at h2
    refine ⟨by constructor <;> omega,?_⟩
    show Goes _ _ _ _
    exact next (i + 1) _ _ ⟨⟨hi,h2⟩,by omega,⟨⟨rfl,rfl⟩,⟨rfl,rfl⟩,⟨rfl,rfl⟩,⟨rfl,rfl⟩,trivial⟩,trivial⟩
  ·have hi : xs.length ≤ i:=by simpa using hge
   rw [List.drop_eq_nil_of_le hi] at h2
   exact ⟨trivial,rfl,rfl,rfl,by rw [← h2];rfl⟩
theorem w_ContainsInt (f : Int → Bool) (g : FuncId) (xs : List Int) (hl : xs.length ≤ 1000000) (hg : ∀ n,Pure Tryz.prog g [intV n] (fun x => x = .bool (f n))) :
  Pure Tryz.prog 155 [pathV xs,.fn (.func g) [] []] (fun x => x = .bool (xs.any f)):=by
 refine pure_fn 100 Tryz.func155 rfl rfl rfl fun B => ?_
 show CallThen _ _ _ _ _ _
 refine call_pure (w_IndexInt f g xs hl hg) rfl ?_
 rintro x rfl
 exact ⟨trivial,rfl,rfl,rfl,by rw [← findIx_any f xs 0];rfl⟩
theorem any_not_all (xs : List Int) : (xs.any fun n => !stepOk n) = !xs.all stepOk:=by
 induction xs with
 | nil => rfl
 | cons x xs ih => simp [ih]
theorem w_May (p : List Int) : Pure Tryz.prog 116 [pathV p] (fun x => x = .bool (mayP p)):=by
 refine pure_wk (pure_fn 100 Tryz.func116 rfl rfl rfl fun B => ?_)
 refine ⟨fun g1 => go 200 ?_,fun g1 => go 200 ?_⟩
 ·have g1 : p.length ≤ 64:=by have:=le_of g1;simp at this;omega
  show CallThen _ _ _ _ _ _
  refine call_pure (w_ContainsInt (fun n => !stepOk n) _ p (by omega) w_May1) rfl ?_
  rintro x rfl
  exact ⟨trivial,rfl,rfl,rfl,leaf_b (by rw [any_not_all];simp [mayP,g1])⟩
 ·have g1 : 64 < p.length:=by have:=not_le_of g1;simp at this;omega
  exact ⟨trivial,rfl,rfl,rfl,leaf_ff (by unfold mayP;rw [decide_eq_false (by omega)];rfl)⟩
theorem w_Key (s : List UInt8) : Pure Tryz.prog 115 [.str s] (fun x => x = .bool (keyOk s)):=by
 refine pure_wk (pure_fn 100 Tryz.func115 rfl rfl rfl fun B => ?_)
 refine ⟨fun g1 => go 200 ?_,fun g1 => go 200 ?_⟩
 ·have g1 : s ≠ []:=by simpa using g1
  have : 0 < s.length:=List.length_pos_iff.2 g1
  exact ⟨trivial,rfl,rfl,rfl,leaf_b (by unfold keyOk;rw [decide_eq_true (p:=1 ≤ s.length) (by omega),Bool.true_and];simp;omega)⟩
 ·have g1 : s = []:=by simpa using g1
  exact ⟨trivial,rfl,rfl,rfl,leaf_ff (by rw [g1];rfl)⟩
theorem w_refKey (s : List UInt8) : Pure Tryz.prog 112 [.str s] (fun x => x = .bool (keyOk s)):=by
 refine pure_wk (pure_fn 100 Tryz.func112 rfl rfl rfl fun B => ?_)
 refine ⟨fun g1 => go 200 ?_,fun g1 => go 200 ?_⟩
 ·have g1 : (1 : Int) ≤ s.length:=by simpa using g1
  exact ⟨trivial,rfl,rfl,rfl,leaf_b (by unfold keyOk;rw [decide_eq_true (p:=1 ≤ s.length) (by omega),Bool.true_and];simp;omega)⟩
 ·have g1 : ¬ (1 : Int) ≤ s.length:=by simpa using g1
  exact ⟨trivial,rfl,rfl,rfl,leaf_ff (by unfold keyOk;rw [decide_eq_false (p:=1 ≤ s.length) (by omega)];rfl)⟩
end Bow
/- W7: pieces that are right; Formed. -/
namespace Bow
open Go Go.Proofs
theorem may_cons_drop (p : List Int) (i : Nat) (h : i < p.length) : (p.drop i).all stepOk = (stepOk p[i] && (p.drop (i + 1)).all stepOk):=by rw [drop_cons h,List.all_cons]
set_option maxRecDepth 100000 in
theorem w_refMay (p : List Int) (hp : p.length ≤ 1000000) : Pure Tryz.prog 169 [pathV p] (fun x => x = .bool (mayP p)):=by
 refine pure_wk (pure_fn 100 Tryz.func169 rfl rfl rfl fun B => ?_)
 show Goes _ _ _ _
 refine goes_iter (ι:=Nat) (fun i => i ≤ p.length ∧ i ≤ 64 ∧ mayP p = (decide (p.length ≤ 64) && (p.drop i).all stepOk)) (fun i => p.length - i) (fun i => [(3,.int .i64 i),(0,pathV p)]) (fun _ => []) 0 200 (fun _ => rfl) (fun _ => rfl) ⟨⟨Nat.zero_le _,Nat.zero_le _,rfl⟩,?_,?_⟩ ?_
 ·exact ⟨⟨rfl,rfl⟩,⟨rfl,rfl⟩,trivial⟩
 ·trivial
 ·rintro i ⟨h1,h3,h2⟩ next
  refine ⟨fun hlt => go 200 ?_,fun hge => go 200 ?_⟩
  ·have hi : i < p.length:=by simpa using hlt
   have hx : (p.map intV)[i]? = some (intV p[i]):=by simp [hi]
   rw [may_cons_drop p i hi] at h2
   refine ⟨fun g1 => go 200 ?_,fun g1 => go 200 ?_⟩
   ·have g1 : (64 : Int) ≤ i:=by simpa using g1
    exact ⟨trivial,rfl,rfl,rfl,leaf_ff (by rw [h2,decide_eq_false (p:=p.length ≤ 64) (by omega)];rfl)⟩
   have g1 : ¬ (64 : Int) ≤ i:=by simpa using g1
   refine ⟨Int.natCast_nonneg i,_,hx,?_⟩
   refine ⟨fun g2 => go 200 ?_,fun g2 => go 200 ?_⟩
   ·have g2:=lt_of g2
    exact ⟨trivial,rfl,rfl,rfl,leaf_ff (by rw [h2];unfold stepOk;rw [decide_eq_false (p:=0 ≤ p[i]) (by omega)];simp)⟩
   have g2:=not_lt_of g2
   refine ⟨Int.natCast_nonneg i,_,hx,?_⟩
   refine ⟨fun g3 => go 200 ?_,fun g3 => go 200 ?_⟩
   ·have g3:=le_of g3
    exact ⟨trivial,rfl,rfl,rfl,leaf_ff (by rw [h2];unfold stepOk;rw [decide_eq_false (p:=p[i] < 1048576) (by omega)];simp)⟩
   have g3:=not_le_of g3
   refine ⟨by constructor <;> omega,?_⟩
   show Goes _ _ _ _
   refine next (i + 1) _ _ ⟨⟨hi,by omega,?_⟩,by omega,⟨⟨rfl,rfl⟩,⟨rfl,rfl⟩,trivial⟩,trivial⟩
   have : stepOk p[i] = true:=by unfold stepOk;rw [decide_eq_true (by omega),decide_eq_true (by omega)];rfl
   rw [h2,this,Bool.true_and]
  ·have hi : p.length ≤ i:=by simpa using hge
   rw [List.drop_eq_nil_of_le hi] at h2
   exact ⟨trivial,rfl,rfl,rfl,leaf_tt (by rw [h2,decide_eq_true (p:=p.length ≤ 64) (by omega)];rfl)⟩
theorem rightGo_bad {n : Nat} {p : PieceT} {l : List PieceT} (h : p.keep < 0 ∨ 1048576 < p.keep ∨ p.drop < 0 ∨ 1048576 < p.drop ∨ 1048576 < n + p.put.length) : rightGo n (p :: l) = false:=by
 rw [rightGo]
 rcases h with h | h | h | h | h
 ·rw [decide_eq_false (p:=0 ≤ p.keep) (by omega)];rfl
 ·rw [decide_eq_false (p:=p.keep ≤ 1048576) (by omega)];simp
 ·rw [decide_eq_false (p:=0 ≤ p.drop) (by omega)];simp
 ·rw [decide_eq_false (p:=p.drop ≤ 1048576) (by omega)];simp
 ·rw [decide_eq_false (p:=n + p.put.length ≤ 1048576) (by omega)];simp
theorem rightGo_good {n : Nat} {p : PieceT} {l : List PieceT} (h1 : 0 ≤ p.keep) (h2 : p.keep ≤ 1048576) (h3 : 0 ≤ p.drop) (h4 : p.drop ≤ 1048576) (h5 : n + p.put.length ≤ 1048576) : rightGo n (p :: l) = rightGo (n + p.put.length) l:=by
 rw [rightGo,decide_eq_true h1,decide_eq_true h2,decide_eq_true h3,decide_eq_true h4,decide_eq_true h5]
 rfl
set_option maxRecDepth 100000 in
theorem w_RightW (l : List PieceT) (hl : l.length ≤ 1000000000000) (hpl : ∀ p ∈ l,p.put.length ≤ 1000000000000) : Pure Tryz.prog 117 [piecesV l] (fun x => x = .bool (rightP l)):=by
 refine pure_wk (pure_fn 100 Tryz.func117 rfl rfl rfl fun B => ?_)
 refine ⟨fun g0 => go 200 ?_,fun g0 => go 200 ?_⟩
 ·have g0 : 4096 < l.length:=by have:=lt_of g0;simp at this;omega
  exact ⟨trivial,rfl,rfl,rfl,leaf_ff (by unfold rightP;rw [decide_eq_false (by omega)];rfl)⟩
 have g0 : l.length ≤ 4096:=by have:=not_lt_of g0;simp at this;omega
 show Goes _ _ _ _
 refine goes_iter (ι:=Nat × Nat) (fun i => i.1 ≤ l.length ∧ i.2 ≤ 1048576 ∧ rightP l = rightGo i.2 (l.drop i.1)) (fun i => l.length - i.1) (fun i => [(11,.int .i64 i.1),(10,.int .i64 (l.map pieceV).length),(9,piecesV l),(3,.int .i64 i.2)]) (fun _ => []) (0,0) 200 (fun _ => rfl) (fun _ => rfl) ⟨⟨Nat.zero_le _,Nat.zero_le _,?_⟩,?_,?_⟩ ?_
 ·unfold rightP
  rw [decide_eq_true g0]
  rfl
 ·exact ⟨⟨rfl,rfl⟩,⟨rfl,rfl⟩,⟨rfl,rfl⟩,⟨rfl,rfl⟩,trivial⟩
 ·trivial
 ·rintro ⟨i,n⟩ ⟨h1,h3,h2⟩ next
  simp only at h1 h2 h3
  refine ⟨fun hlt => go 200 ?_,fun hge => go 200 ?_⟩
  ·have hi : i < l.length:=by simpa using hlt
   have hx : (l.map pieceV)[i]? = some (pieceV l[i]):=by simp [hi]
   have hput:=hpl l[i] (List.getElem_mem hi)
   rw [drop_cons hi] at h2
   refine ⟨Int.natCast_nonneg i,_,hx,?_⟩
   refine ⟨fun g1 => go 200 ?_,fun g1 => go 200 ?_⟩
   ·have g1:=lt_of g1
    refine ⟨trivial,rfl,rfl,rfl,leaf_ff ?_⟩
    rw [h2]
    refine rightGo_bad ?_
    split at g1 <;> omega
   have g1:=not_lt_of g1
   have q1 : 0 ≤ (l[i]).keep ∧ 0 ≤ (l[i]).drop:=by split at g1 <;> omega
   refine ⟨fun g2 => go 200 ?_,fun g2 => go 200 ?_⟩
   ·have g2:=lt_of g2
    refine ⟨trivial,rfl,rfl,rfl,leaf_ff ?_⟩
    rw [h2]
    refine rightGo_bad ?_
    split at g2 <;> omega
   have g2:=not_lt_of g2
   have q2 : (l[i]).keep ≤ 1048576 ∧ (l[i]).drop ≤ 1048576:=by split at g2 <;> omega
   refine ⟨by constructor <;> omega,?_⟩
   refine ⟨fun g3 => go 200 ?_,fun g3 => go 200 ?_⟩
   ·have g3:=lt_of g3
    refine ⟨trivial,rfl,rfl,rfl,leaf_ff ?_⟩
    rw [h2]
    exact rightGo_bad (by omega)
   have g3:=not_lt_of g3
   refine ⟨by constructor <;> omega,?_⟩
   refine ⟨by constructor <;> omega,?_⟩
   show Goes _ _ _ _
   refine next (i + 1,n + (l[i]).put.length) _ _ ⟨⟨hi,by simp only;omega,?_⟩,?_,⟨⟨rfl,rfl⟩,⟨rfl,rfl⟩,⟨rfl,rfl⟩,⟨rfl,rfl⟩,trivial⟩,trivial⟩
   ·rw [h2]
    exact rightGo_good q1.1 q2.1 q1.2 q2.2 (by omega)
   ·simp only;omega
  ·have hi : l.length ≤ i:=by simpa using hge
   rw [List.drop_eq_nil_of_le hi] at h2
   exact ⟨trivial,rfl,rfl,rfl,leaf_tt h2⟩
theorem w_Right (l : List PieceT) (hl : l.length ≤ 1000000) (hpl : ∀ p ∈ l,p.put.length ≤ 1000000000) : Pure Tryz.prog 117 [piecesV l] (fun x => x = .bool (rightP l)) :=
 w_RightW l (by omega) fun p hp => by have:=hpl p hp;omega
set_option maxRecDepth 100000 in
theorem w_refRight (l : List PieceT) (hl : l.length ≤ 1000000) (hpl : ∀ p ∈ l,p.put.length ≤ 1000000000) : Pure Tryz.prog 138 [piecesV l] (fun x => x = .bool (rightP l)):=by
 refine pure_wk (pure_fn 100 Tryz.func138 rfl rfl rfl fun B => ?_)
 refine ⟨fun g0 => go 200 ?_,fun g0 => go 200 ?_⟩
 ·have g0 : 4096 < l.length:=by have:=lt_of g0;simp at this;omega
  exact ⟨trivial,rfl,rfl,rfl,leaf_ff (by unfold rightP;rw [decide_eq_false (by omega)];rfl)⟩
 have g0 : l.length ≤ 4096:=by have:=not_lt_of g0;simp at this;omega
 show Goes _ _ _ _
 refine goes_iter (ι:=Nat × Nat) (fun i => i.1 ≤ l.length ∧ i.2 ≤ 1048576 ∧ rightP l = rightGo i.2 (l.drop i.1)) (fun i => l.length - i.1) (fun i => [(4,.int .i64 i.1),(0,piecesV l),(3,.int .i64 i.2)]) (fun _ => []) (0,0) 200 (fun _ => rfl) (fun _ => rfl) ⟨⟨Nat.zero_le _,Nat.zero_le _,?_⟩,?_,?_⟩ ?_
 ·unfold rightP
  rw [decide_eq_true g0]
  rfl
 ·exact ⟨⟨rfl,rfl⟩,⟨rfl,rfl⟩,⟨rfl,rfl⟩,trivial⟩
 ·trivial
 ·rintro ⟨i,n⟩ ⟨h1,h3,h2⟩ next
  simp only at h1 h2 h3
  refine ⟨fun hlt => go 200 ?_,fun hge => go 200 ?_⟩
  ·have hi : i < l.length:=by simpa using hlt
   have hx : (l.map pieceV)[i]? = some (pieceV l[i]):=by simp [hi]
   have hput:=hpl l[i] (List.getElem_mem hi)
   rw [drop_cons hi] at h2
   refine ⟨Int.natCast_nonneg i,_,hx,?_⟩
   refine ⟨fun g1 => go 200 ?_,fun g1 => go 200 ?_⟩
   ·have g1:=lt_of g1
    exact ⟨trivial,rfl,rfl,rfl,leaf_ff (by rw [h2];exact rightGo_bad (by omega))⟩
   have g1:=not_lt_of g1
   refine ⟨Int.natCast_nonneg i,_,hx,?_⟩
   refine ⟨fun g2 => go 200 ?_,fun g2 => go 200 ?_⟩
   ·have g2:=lt_of g2
    exact ⟨trivial,rfl,rfl,rfl,leaf_ff (by rw [h2];exact rightGo_bad (by omega))⟩
   have g2:=not_lt_of g2
   refine ⟨Int.natCast_nonneg i,_,hx,?_⟩
   refine ⟨fun g3 => go 200 ?_,fun g3 => go 200 ?_⟩
   ·have g3:=lt_of g3
    exact ⟨trivial,rfl,rfl,rfl,leaf_ff (by rw [h2];exact rightGo_bad (by omega))⟩
   have g3:=not_lt_of g3
   refine ⟨Int.natCast_nonneg i,_,hx,?_⟩
   refine ⟨fun g4 => go 200 ?_,fun g4 => go 200 ?_⟩
   ·have g4:=lt_of g4
    exact ⟨trivial,rfl,rfl,rfl,leaf_ff (by rw [h2];exact rightGo_bad (by omega))⟩
   have g4:=not_lt_of g4
   refine ⟨Int.natCast_nonneg i,_,hx,?_⟩
   refine ⟨by constructor <;> omega,?_⟩
   refine ⟨fun g5 => go 200 ?_,fun g5 => go 200 ?_⟩
   ·have g5:=lt_of g5
    exact ⟨trivial,rfl,rfl,rfl,leaf_ff (by rw [h2];exact rightGo_bad (by omega))⟩
   have g5:=not_lt_of g5
   refine ⟨Int.natCast_nonneg i,_,hx,?_⟩
   refine ⟨by constructor <;> omega,?_⟩
   refine ⟨by constructor <;> omega,?_⟩
   show Goes _ _ _ _
   refine next (i + 1,n + (l[i]).put.length) _ _ ⟨⟨hi,by simp only;omega,?_⟩,?_,⟨⟨rfl,rfl⟩,⟨rfl,rfl⟩,⟨rfl,rfl⟩,trivial⟩,trivial⟩
   ·rw [h2]
    exact rightGo_good (by omega) (by omega) (by omega) (by omega) (by omega)
   ·simp only;omega
  ·have hi : l.length ≤ i:=by simpa using hge
   rw [List.drop_eq_nil_of_le hi] at h2
   exact ⟨trivial,rfl,rfl,rfl,leaf_tt h2⟩
end Bow
/- W8: Formed. -/
namespace Bow
open Go Go.Proofs
set_option maxRecDepth 100000 in
theorem w_Formed (o : OpT) (ho : o.Lt 1000000) (hpl : ∀ p ∈ o.pieces,p.put.length ≤ 1000000000) : Pure Tryz.prog 85 [opV o] (fun x => x = .bool (formedB o)):=by
 have hm:=w_May o.path
 have hm2:=w_May o.to
 have hk:=w_Key o.key
 have hr:=w_Right o.pieces ho.pieces hpl
 refine pure_wk (pure_fn 300 Tryz.func85 rfl rfl rfl fun B => ?_)
 clear ho hpl
 repeat' first
  | (refine ⟨fun _ => go 300 ?_,fun _ => go 300 ?_⟩)
  | (show CallThen _ _ _ _ _ _;refine call_pure hm rfl ?_;rintro x rfl)
  | (show CallThen _ _ _ _ _ _;refine call_pure hm2 rfl ?_;rintro x rfl)
  | (show CallThen _ _ _ _ _ _;refine call_pure hk rfl ?_;rintro x rfl)
  | (show CallThen _ _ _ _ _ _;refine call_pure hr rfl ?_;rintro x rfl)
  | (refine ⟨trivial,rfl,rfl,rfl,leaf_tt ?_⟩)
  | (refine ⟨trivial,rfl,rfl,rfl,leaf_ff ?_⟩)
  | (refine ⟨trivial,rfl,rfl,rfl,leaf_b ?_⟩)
  | fail
 all_goals (first | (simp_all [formedB,gapOk];done) | (simp_all [formedB,gapOk];intros;omega))
set_option maxRecDepth 100000 in
theorem w_refFormed (o : OpT) (ho : o.Lt 1000000) (hpl : ∀ p ∈ o.pieces,p.put.length ≤ 1000000000) : Pure Tryz.prog 132 [opV o] (fun x => x = .bool (formedB o)):=by
 have hm:=w_refMay o.path ho.path
 have hm2:=w_refMay o.to ho.to
 have hk:=w_refKey o.key
 have hr:=w_refRight o.pieces ho.pieces hpl
 refine pure_wk (pure_fn 300 Tryz.func132 rfl rfl rfl fun B => ?_)
 clear ho hpl
 repeat' first
  | (refine ⟨fun _ => go 300 ?_,fun _ => go 300 ?_⟩)
  | (show CallThen _ _ _ _ _ _;refine call_pure hm rfl ?_;rintro x rfl)
  | (show CallThen _ _ _ _ _ _;refine call_pure hm2 rfl ?_;rintro x rfl)
  | (show CallThen _ _ _ _ _ _;refine call_pure hk rfl ?_;rintro x rfl)
  | (show CallThen _ _ _ _ _ _;refine call_pure hr rfl ?_;rintro x rfl)
  | (refine ⟨trivial,rfl,rfl,rfl,leaf_tt ?_⟩)
  | (refine ⟨trivial,rfl,rfl,rfl,leaf_ff ?_⟩)
  | (refine ⟨trivial,rfl,rfl,rfl,leaf_b ?_⟩)
  | fail
 all_goals (first | (simp_all [formedB,gapOk];done) | (simp_all [formedB,gapOk];intros;omega))
set_option maxRecDepth 100000 in
theorem w_Light (o : OpT) (top : Nat) (ht : top ≤ 1000000) : Pure Tryz.prog 80 [opV o,.int .i64 top] (fun x => ∃ b : Bool,x = .bool b ∧ (b = true → o.Lt top ∧ putsLen o.pieces ≤ top)):=by
 have bad : ∃ y,Wk .ff y ∧ y.pureB = true ∧ ∃ b : Bool,y = .bool b ∧ (b = true → o.Lt top ∧ putsLen o.pieces ≤ top):=⟨_,Wk.ff,rfl,false,rfl,fun h => by cases h⟩
 refine pure_wk (pure_fn 300 Tryz.func80 rfl rfl rfl fun B => ?_)
 refine ⟨fun g1 => go 300 ?_,fun g1 => go 300 ?_⟩
 ·exact ⟨trivial,rfl,rfl,rfl,bad⟩
 refine ⟨fun g2 => go 300 ?_,fun g2 => go 300 ?_⟩
 ·exact ⟨trivial,rfl,rfl,rfl,bad⟩
 refine ⟨fun g3 => go 300 ?_,fun g3 => go 300 ?_⟩
 ·exact ⟨trivial,rfl,rfl,rfl,bad⟩
 refine ⟨fun g4 => go 300 ?_,fun g4 => go 300 ?_⟩
 ·exact ⟨trivial,rfl,rfl,rfl,bad⟩
 refine ⟨fun g5 => go 300 ?_,fun g5 => go 300 ?_⟩
 ·exact ⟨trivial,rfl,rfl,rfl,bad⟩
 refine ⟨fun g6 => go 300 ?_,fun g6 => go 300 ?_⟩
 ·exact ⟨trivial,rfl,rfl,rfl,bad⟩
 have g1:=not_lt_of g1
 have g2:=not_lt_of g2
 have g3:=not_lt_of g3
 have g4:=not_lt_of g4
 have g5:=not_lt_of g5
 have g6:=not_lt_of g6
 simp only [List.length_map] at g1 g2 g6
 have hlt : o.Lt top:=⟨by omega,by omega,by omega,by omega,by omega,by omega⟩
 show Goes _ _ _ _
 refine goes_iter (ι:=Nat × Nat) (fun i => i.1 ≤ o.pieces.length ∧ i.2 ≤ top ∧ putsLen o.pieces = i.2 + putsLen (o.pieces.drop i.1)) (fun i => o.pieces.length - i.1) (fun i => [(6,.int .i64 i.1),(5,.int .i64 i.2),(1,.int .i64 top),(2,.ptr (.loc 0) 0)]) (fun _ => [some (.box (opV o).cells)]) (0,0) 200 (fun _ => rfl) (fun _ => rfl) ⟨⟨Nat.zero_le _,Nat.zero_le _,by simp⟩,?_,?_⟩ ?_
 ·exact ⟨⟨rfl,rfl⟩,⟨rfl,rfl⟩,⟨rfl,rfl⟩,⟨rfl,rfl⟩,trivial⟩
 ·exact ⟨⟨rfl,rfl⟩,trivial⟩
 ·rintro ⟨i,n⟩ ⟨h1,h3,h2⟩ next
  simp only at h1 h2 h3
  refine ⟨fun hlt => go 200 ?_,fun hge => go 200 ?_⟩
  ·have hi : i < o.pieces.length:=by simpa using hlt
   have hx : (o.pieces.map pieceV)[i]? = some (pieceV o.pieces[i]):=by simp [hi]
   rw [drop_cons hi] at h2
   have h2 : putsLen o.pieces = n + ((o.pieces[i]).put.length + putsLen (o.pieces.drop (i + 1))):=h2
   refine ⟨Int.natCast_nonneg i,_,hx,?_⟩
   refine ⟨by constructor <;> omega,?_⟩
   refine ⟨fun g7 => go 200 ?_,fun g7 => go 200 ?_⟩
   ·exact ⟨trivial,rfl,rfl,rfl,bad⟩
   have g7:=not_lt_of g7
   refine ⟨Int.natCast_nonneg i,_,hx,?_⟩
   refine ⟨by constructor <;> omega,?_⟩
   refine ⟨by constructor <;> omega,?_⟩
   show Goes _ _ _ _
   refine next (i + 1,n + (o.pieces[i]).put.length) _ _ ⟨⟨hi,by simp only;omega,by simp only;omega⟩,?_,⟨⟨rfl,rfl⟩,⟨rfl,rfl⟩,⟨rfl,rfl⟩,⟨rfl,rfl⟩,trivial⟩,⟨⟨rfl,rfl⟩,trivial⟩⟩
   simp only;omega
  ·have hi : o.pieces.length ≤ i:=by simpa using hge
   rw [List.drop_eq_nil_of_le hi] at h2
   have h2 : putsLen o.pieces = n + 0:=h2
   exact ⟨trivial,rfl,rfl,rfl,_,Wk.tt,rfl,true,rfl,fun _ => ⟨hlt,by omega⟩⟩
structure LightL (l : List OpT) (count top : Nat) : Prop where
 len : l.length ≤ count
 ops : ∀ o ∈ l,o.Lt top ∧ putsLen o.pieces ≤ top
def opsV (l : List OpT) : V:=.sl 11 (l.map opV)
set_option maxRecDepth 100000 in
theorem w_LightList (l : List OpT) (count top : Nat) (hc : count ≤ 1000000) (ht : top ≤ 1000000) : Pure Tryz.prog 47 [opsV l,.int .i64 count,.int .i64 top] (fun x => ∃ b : Bool,x = .bool b ∧ (b = true → LightL l count top)):=by
 have bad : ∃ y,Wk .ff y ∧ y.pureB = true ∧ ∃ b : Bool,y = .bool b ∧ (b = true → LightL l count top):=⟨_,Wk.ff,rfl,false,rfl,fun h => by cases h⟩
 refine pure_wk (pure_fn 300 Tryz.func47 rfl rfl rfl fun B => ?_)
 refine ⟨fun g1 => go 300 ?_,fun g1 => go 300 ?_⟩
 ·exact ⟨trivial,rfl,rfl,rfl,bad⟩
 have g1:=not_lt_of g1
 simp only [List.length_map] at g1
 show Goes _ _ _ _
 refine goes_iter (ι:=Nat) (fun i => i ≤ l.length ∧ ∀ o ∈ l.take i,o.Lt top ∧ putsLen o.pieces ≤ top) (fun i => l.length - i) (fun i => [(7,.int .i64 i),(2,.int .i64 top),(0,opsV l)]) (fun _ => []) 0 200 (fun _ => rfl) (fun _ => rfl) ⟨⟨Nat.zero_le _,by simp⟩,?_,?_⟩ ?_
 ·exact ⟨⟨rfl,rfl⟩,⟨rfl,rfl⟩,⟨rfl,rfl⟩,trivial⟩
 ·trivial
 ·rintro i ⟨h1,h2⟩ next
  refine ⟨fun hlt => go 200 ?_,fun hge => go 200 ?_⟩
  ·have hi : i < l.length:=by simpa using hlt
   have hx : (l.map opV)[i]? = some (opV l[i]):=by simp [hi]
   refine ⟨Int.natCast_nonneg i,_,hx,?_⟩
   show CallThen _ _ _ _ _ _
   refine call_pure (w_Light l[i] top ht) rfl ?_
   rintro x ⟨b,rfl,hb⟩
   refine ⟨fun g => go 200 ?_,fun g => go 200 ?_⟩
   ·exact ⟨trivial,rfl,rfl,rfl,bad⟩
   have g : b = true:=by simpa using g
   refine ⟨by constructor <;> omega,?_⟩
   show Goes _ _ _ _
   refine next (i + 1) _ _ ⟨⟨hi,fun o ho => ?_⟩,by omega,⟨⟨rfl,rfl⟩,⟨rfl,rfl⟩,⟨rfl,rfl⟩,trivial⟩,trivial⟩
   rw [List.take_add_one,List.getElem?_eq_getElem hi] at ho
   rcases List.mem_append.1 ho with ho | ho
   ·exact h2 o ho
   ·simp at ho
    subst ho
    exact hb g
  ·have hi : l.length ≤ i:=by simpa using hge
   rw [List.take_of_length_le hi] at h2
   exact ⟨trivial,rfl,rfl,rfl,_,Wk.tt,rfl,true,rfl,fun _ => ⟨by omega,h2⟩⟩
end Bow
/- W9: Bare; puts; Fits. -/
namespace Bow
open Go Go.Proofs
theorem w_someInt (p : List Int) (h : p.length ≤ 1000000) : Pure Tryz.prog 130 [pathV p] (fun x => x = pathV p):=by
 refine pure_fn 100 Tryz.func130 rfl rfl rfl fun B => ?_
 refine ⟨Nat.le_trans (Nat.mul_le_mul_right _ (show (p.map intV).length ≤ 1000000 by simpa using h)) (by decide),?_⟩
 exact ⟨trivial,rfl,rfl,rfl,rfl,rfl,rfl⟩
theorem w_somePiece (p : List PieceT) (h : p.length ≤ 1000000) : Pure Tryz.prog 131 [piecesV p] (fun x => x = piecesV p):=by
 refine pure_fn 100 Tryz.func131 rfl rfl rfl fun B => ?_
 refine ⟨Nat.le_trans (Nat.mul_le_mul_right _ (show (p.map pieceV).length ≤ 1000000 by simpa using h)) (by decide),?_⟩
 exact ⟨trivial,rfl,rfl,rfl,rfl,rfl,rfl⟩
theorem wk_op {o : OpT} {cs : List V} (h : WkL cs (opV o).cells) : Wk (.agg cs) (opV o):=Wk.agg h
set_option maxRecDepth 100000 in
theorem w_Bare (o : OpT) (ho : o.Lt 1000000) : Pure Tryz.prog 88 [opV o] (fun x => x = opV (bareO o)):=by
 refine pure_wk (pure_fn 300 Tryz.func88 rfl rfl rfl fun B => ?_)
 show Goes _ _ _ _
 refine goes_draw 300 ?_
 refine ⟨_,w_someInt o.path ho.path,rfl,?_⟩
 refine ⟨by kernel_rfl,?_⟩
 refine ⟨by kernel_rfl,?_⟩
 have hp:=ho.path
 have ht:=ho.to
 have hpc:=ho.pieces
 refine ⟨fun g1 => go 300 ?_,fun g1 => go 300 ?_⟩
 ·have g1:=eq_of g1
  show Goes _ _ _ _
  refine goes_draw 300 ?_
  refine ⟨by kernel_rfl,?_⟩
  refine ⟨trivial,rfl,rfl,rfl,_,?_,?_,rfl⟩
  ·simp only [bareO,g1]
   refine wk_op ⟨.refl _,.refl _,.refl _,Wk.nil 1,.refl _,.refl _,.refl _,.refl _,.refl _,Wk.ff,Wk.nil 3,trivial⟩
  ·rfl
 refine ⟨fun g2 => go 300 ?_,fun g2 => go 300 ?_⟩
 ·have g2:=eq_of g2
  refine ⟨trivial,rfl,rfl,rfl,_,?_,?_,rfl⟩
  ·simp only [bareO,g2]
   refine wk_op ⟨.refl _,.refl _,.refl _,Wk.nil 1,.refl _,Wk.ff,.refl _,.refl _,.refl _,Wk.ff,Wk.nil 3,trivial⟩
  ·rfl
 refine ⟨fun g3 => go 300 ?_,fun g3 => go 300 ?_⟩
 ·have g3:=eq_of g3
  show Goes _ _ _ _
  refine goes_draw 300 ?_
  refine ⟨_,w_someInt o.to ho.to,rfl,?_⟩
  refine ⟨by kernel_rfl,?_⟩
  refine ⟨trivial,rfl,rfl,rfl,_,?_,?_,rfl⟩
  ·simp only [bareO,g3]
   refine wk_op ⟨.refl _,.refl _,.refl _,.refl _,.refl _,Wk.ff,.refl _,.refl _,.refl _,Wk.ff,Wk.nil 3,trivial⟩
  ·rfl
 refine ⟨fun g4 => go 300 ?_,fun g4 => go 300 ?_⟩
 ·have g4:=eq_of g4
  show Goes _ _ _ _
  refine goes_draw 300 ?_
  refine ⟨by kernel_rfl,?_⟩
  refine ⟨fun h => go 300 ?_,fun h => go 300 ?_⟩
  ·have h : o.gone = false:=by simpa using h
   refine ⟨trivial,rfl,rfl,rfl,_,?_,?_,rfl⟩
   ·simp only [bareO,g4,h]
    refine wk_op ⟨.refl _,.refl _,.refl _,Wk.nil 1,.refl _,Wk.ff,.refl _,.refl _,.refl _,.refl _,Wk.nil 3,trivial⟩
   ·rfl
  ·have h : o.gone = true:=by simpa using h
   refine ⟨trivial,rfl,rfl,rfl,_,?_,?_,rfl⟩
   ·simp only [bareO,g4,h]
    refine wk_op ⟨.refl _,.refl _,.refl _,Wk.nil 1,.refl _,Wk.ff,.refl _,.refl _,.refl _,.refl _,Wk.nil 3,trivial⟩
   ·rfl
 refine ⟨fun g5 => go 300 ?_,fun g5 => go 300 ?_⟩
 ·have g5:=eq_of g5
  refine ⟨trivial,rfl,rfl,rfl,_,?_,?_,rfl⟩
  ·simp only [bareO,g5]
   refine wk_op ⟨.refl _,.refl _,.refl _,Wk.nil 1,.refl _,Wk.ff,.refl _,.refl _,.refl _,Wk.ff,Wk.nil 3,trivial⟩
  ·rfl
 refine ⟨fun g6 => go 300 ?_,fun g6 => go 300 ?_⟩
 ·have g6:=eq_of g6
  show CallThen _ _ _ _ _ _
  refine call_pure (w_somePiece o.pieces ho.pieces) rfl ?_
  rintro x rfl
  refine ⟨trivial,rfl,rfl,rfl,_,?_,?_,rfl⟩
  ·simp only [bareO,g6]
   refine wk_op ⟨.refl _,.refl _,.refl _,Wk.nil 1,.refl _,Wk.ff,.refl _,.refl _,.refl _,Wk.ff,.refl _,trivial⟩
  ·rfl
 ·have g1:=ne_of g1
  have g2:=ne_of g2
  have g3:=ne_of g3
  have g4:=ne_of g4
  have g5:=ne_of g5
  have g6:=ne_of g6
  refine ⟨trivial,rfl,rfl,rfl,_,?_,?_,rfl⟩
  ·have e : bareO o = noOp o.kind:=by
    unfold bareO
    rw [show (o.kind == 1) = false by simpa using g1,show (o.kind == 2) = false by simpa using g2,show (o.kind == 3) = false by simpa using g3,show (o.kind == 4) = false by simpa using g4,show (o.kind == 5) = false by simpa using g5,show (o.kind == 6) = false by simpa using g6]
    rfl
   rw [e]
   refine wk_op ⟨.refl _,Wk.nil 1,.refl _,Wk.nil 1,.refl _,Wk.ff,.refl _,.refl _,.refl _,Wk.ff,Wk.nil 3,trivial⟩
  ·rfl
end Bow
/- W10: the reference's Bare; puts; Fits. -/
namespace Bow
open Go Go.Proofs
theorem room_of {n b : Nat} (h : n ≤ 1000000) (hb : b ≤ 70368744) : room n b:=Nat.le_trans (Nat.mul_le_mul h hb) (by decide)
set_option maxRecDepth 100000 in
theorem w_refBare (o : OpT) (ho : o.Lt 1000000) : Pure Tryz.prog 100 [opV o] (fun x => x = opV (bareO o)):=by
 refine pure_wk (pure_fn 300 Tryz.func100 rfl rfl rfl fun B => ?_)
 have hp:=ho.path
 have ht:=ho.to
 have hpc:=ho.pieces
 refine ⟨room_of (by simpa using ho.path) (by decide),?_⟩
 refine ⟨room_of (by simpa using ho.to) (by decide),?_⟩
 refine ⟨fun g1 => go 300 ?_,fun g1 => go 300 ?_⟩
 ·have g1:=eq_of g1
  refine ⟨trivial,rfl,rfl,rfl,rfl,rfl,_,?_,?_,rfl⟩
  ·simp only [bareO,g1]
   refine wk_op ⟨.refl _,.refl _,.refl _,Wk.nil 1,.refl _,.refl _,.refl _,.refl _,.refl _,Wk.ff,Wk.nil 3,trivial⟩
  ·rfl
 refine ⟨fun g2 => go 300 ?_,fun g2 => go 300 ?_⟩
 ·have g2:=eq_of g2
  refine ⟨trivial,rfl,rfl,rfl,rfl,rfl,_,?_,?_,rfl⟩
  ·simp only [bareO,g2]
   refine wk_op ⟨.refl _,.refl _,.refl _,Wk.nil 1,.refl _,Wk.ff,.refl _,.refl _,.refl _,Wk.ff,Wk.nil 3,trivial⟩
  ·rfl
 refine ⟨fun g3 => go 300 ?_,fun g3 => go 300 ?_⟩
 ·have g3:=eq_of g3
  refine ⟨trivial,rfl,rfl,rfl,rfl,rfl,rfl,rfl,_,?_,?_,rfl⟩
  ·simp only [bareO,g3]
   refine wk_op ⟨.refl _,.refl _,.refl _,.refl _,.refl _,Wk.ff,.refl _,.refl _,.refl _,Wk.ff,Wk.nil 3,trivial⟩
  ·rfl
 refine ⟨fun g4 => go 300 ?_,fun g4 => go 300 ?_⟩
 ·have g4:=eq_of g4
  refine ⟨fun h => go 300 ?_,fun h => go 300 ?_⟩
  ·have h : o.gone = false:=by simpa using h
   refine ⟨trivial,rfl,rfl,rfl,rfl,rfl,_,?_,?_,rfl⟩
   ·simp only [bareO,g4,h]
    refine wk_op ⟨.refl _,.refl _,.refl _,Wk.nil 1,.refl _,Wk.ff,.refl _,.refl _,.refl _,.refl _,Wk.nil 3,trivial⟩
   ·rfl
  ·have h : o.gone = true:=by simpa using h
   refine ⟨trivial,rfl,rfl,rfl,rfl,rfl,_,?_,?_,rfl⟩
   ·simp only [bareO,g4,h]
    refine wk_op ⟨.refl _,.refl _,.refl _,Wk.nil 1,.refl _,Wk.ff,.refl _,.refl _,.refl _,.refl _,Wk.nil 3,trivial⟩
   ·rfl
 refine ⟨fun g5 => go 300 ?_,fun g5 => go 300 ?_⟩
 ·have g5:=eq_of g5
  refine ⟨trivial,rfl,rfl,rfl,rfl,rfl,_,?_,?_,rfl⟩
  ·simp only [bareO,g5]
   refine wk_op ⟨.refl _,.refl _,.refl _,Wk.nil 1,.refl _,Wk.ff,.refl _,.refl _,.refl _,Wk.ff,Wk.nil 3,trivial⟩
  ·rfl
 refine ⟨fun g6 => go 300 ?_,fun g6 => go 300 ?_⟩
 ·have g6:=eq_of g6
  refine ⟨room_of (by simpa using ho.pieces) (by decide),?_⟩
  refine ⟨trivial,rfl,rfl,rfl,rfl,rfl,rfl,rfl,_,?_,?_,rfl⟩
  ·simp only [bareO,g6]
   refine wk_op ⟨.refl _,.refl _,.refl _,Wk.nil 1,.refl _,Wk.ff,.refl _,.refl _,.refl _,Wk.ff,.refl _,trivial⟩
  ·rfl
 ·have g1:=ne_of g1
  have g2:=ne_of g2
  have g3:=ne_of g3
  have g4:=ne_of g4
  have g5:=ne_of g5
  have g6:=ne_of g6
  refine ⟨trivial,rfl,rfl,rfl,_,?_,?_,rfl⟩
  ·have e : bareO o = noOp o.kind:=by
    unfold bareO
    rw [show (o.kind == 1) = false by simpa using g1,show (o.kind == 2) = false by simpa using g2,show (o.kind == 3) = false by simpa using g3,show (o.kind == 4) = false by simpa using g4,show (o.kind == 5) = false by simpa using g5,show (o.kind == 6) = false by simpa using g6]
    rfl
   rw [e]
   refine wk_op ⟨.refl _,Wk.nil 1,.refl _,Wk.nil 1,.refl _,Wk.ff,.refl _,.refl _,.refl _,Wk.ff,Wk.nil 3,trivial⟩
  ·rfl
theorem putsLen_cons (p : PieceT) (l : List PieceT) : putsLen (p :: l) = p.put.length + putsLen l:=rfl
theorem bare_lt {o : OpT} {n : Nat} (h : o.Lt n) : (bareO o).Lt n:=by
 unfold bareO noOp
 rcases Bool.eq_false_or_eq_true (o.kind == 1) with e | e <;> rw [e] <;> simp only [cond_true,cond_false]
 ·exact ⟨h.path,Nat.zero_le _,h.label,Nat.zero_le _,Nat.zero_le _,Nat.zero_le _⟩
 rcases Bool.eq_false_or_eq_true (o.kind == 2) with e | e <;> rw [e] <;> simp only [cond_true,cond_false]
 ·exact ⟨h.path,Nat.zero_le _,Nat.zero_le _,Nat.zero_le _,Nat.zero_le _,Nat.zero_le _⟩
 rcases Bool.eq_false_or_eq_true (o.kind == 3) with e | e <;> rw [e] <;> simp only [cond_true,cond_false]
 ·exact ⟨h.path,h.to,Nat.zero_le _,Nat.zero_le _,Nat.zero_le _,Nat.zero_le _⟩
 rcases Bool.eq_false_or_eq_true (o.kind == 4) with e | e <;> rw [e] <;> simp only [cond_true,cond_false]
 ·refine ⟨h.path,Nat.zero_le _,Nat.zero_le _,h.key,?_,Nat.zero_le _⟩
  cases o.gone <;> simp [h.value]
 rcases Bool.eq_false_or_eq_true (o.kind == 5) with e | e <;> rw [e] <;> simp only [cond_true,cond_false]
 ·exact ⟨h.path,Nat.zero_le _,h.label,Nat.zero_le _,Nat.zero_le _,Nat.zero_le _⟩
 rcases Bool.eq_false_or_eq_true (o.kind == 6) with e | e <;> rw [e] <;> simp only [cond_true,cond_false]
 ·exact ⟨h.path,Nat.zero_le _,Nat.zero_le _,Nat.zero_le _,Nat.zero_le _,h.pieces⟩
 ·exact ⟨Nat.zero_le _,Nat.zero_le _,Nat.zero_le _,Nat.zero_le _,Nat.zero_le _,Nat.zero_le _⟩
theorem bare_puts {o : OpT} : putsLen (bareO o).pieces ≤ putsLen o.pieces:=by
 unfold bareO noOp
 rcases Bool.eq_false_or_eq_true (o.kind == 1) with e | e <;> rw [e] <;> simp only [cond_true,cond_false]
 ·exact Nat.zero_le _
 rcases Bool.eq_false_or_eq_true (o.kind == 2) with e | e <;> rw [e] <;> simp only [cond_true,cond_false]
 ·exact Nat.zero_le _
 rcases Bool.eq_false_or_eq_true (o.kind == 3) with e | e <;> rw [e] <;> simp only [cond_true,cond_false]
 ·exact Nat.zero_le _
 rcases Bool.eq_false_or_eq_true (o.kind == 4) with e | e <;> rw [e] <;> simp only [cond_true,cond_false]
 ·exact Nat.zero_le _
 rcases Bool.eq_false_or_eq_true (o.kind == 5) with e | e <;> rw [e] <;> simp only [cond_true,cond_false]
 ·exact Nat.zero_le _
 rcases Bool.eq_false_or_eq_true (o.kind == 6) with e | e <;> rw [e] <;> simp only [cond_true,cond_false]
 ·exact Nat.le_refl _
 ·exact Nat.zero_le _
end Bow
/- W11: Fits; the chapter's examples; the laws' functions. -/
namespace Bow
open Go Go.Proofs
structure OpT.Ok (o : OpT) : Prop where
 lt : o.Lt 1000000
 puts : putsLen o.pieces ≤ 1048576
theorem put_le {l : List PieceT} : ∀ p ∈ l,p.put.length ≤ putsLen l:=by
 induction l with
 | nil => intro p h;cases h
 | cons q l ih =>
  intro p h
  rw [putsLen_cons]
  rcases List.mem_cons.1 h with rfl | h
  ·omega
  ·have:=ih p h;omega
theorem OpT.Ok.each {o : OpT} (h : o.Ok) : ∀ p ∈ o.pieces,p.put.length ≤ 1000000000:=fun p hp => by have:=put_le p hp;have:=h.puts;omega
theorem bare_ok {o : OpT} (h : o.Ok) : (bareO o).Ok:=⟨bare_lt h.lt,Nat.le_trans bare_puts h.puts⟩
end Bow
/- W12: the chapter's examples; the laws' functions. -/
namespace Bow
open Go Go.Proofs
end Bow
/- W13: the laws' functions: LimitsCheck, LimitsFits. -/
namespace Bow
open Go Go.Proofs
end Bow
/- W14: slices.Grow of nil, slices.Concat: printed by gen_w14.py. -/
namespace Bow
open Go Go.Proofs
theorem flatten_take_succ {α : Type} {l : List (List α)} {i : Nat} (hi : i < l.length) : (l.take (i + 1)).flatten = (l.take i).flatten ++ l[i] := by
  rw [List.take_succ_eq_append_getElem hi, List.flatten_append]
  simp
theorem flatten_take_le {α : Type} (l : List (List α)) (i : Nat) : (l.take i).flatten.length ≤ l.flatten.length := by
  conv => rhs; rw [← List.take_append_drop i l]
  rw [List.flatten_append, List.length_append]
  omega
theorem w_GrowNode (n : Nat) (h : n ≤ 10000000) : Fun Tryz.prog 191 [] [.nilsl, .int .i64 n] (fun x T => ∃ g, x = .osl (.loc 0) g 0 0 ∧ T = [some (.vec g 6 [])]) := by
  refine fun_fn 100 Tryz.func191 rfl rfl rfl fun imps B hi => ?_
  have : imps = [] := List.length_eq_zero_iff.1 hi
  subst this
  refine ⟨fun g1 => go 100 ?_, fun g1 => go 100 ?_⟩
  · have := lt_of g1; omega
  show Goes _ _ _ _
  refine goes_cap0 100 rfl rfl rfl rfl rfl ?_
  refine ⟨by constructor <;> omega, by constructor <;> omega, ?_⟩
  refine ⟨fun g2 => go 100 ?_, fun g2 => ?_⟩
  · have g2 := lt_of g2
    show Goes _ _ _ _
    refine goes_cap0 100 rfl rfl rfl rfl rfl ?_
    show Goes _ _ _ _
    refine goes_nilcut 100 rfl rfl rfl rfl rfl rfl rfl ?_
    show Goes _ _ _ _
    refine goes_growTo 100 n rfl rfl rfl rfl (congrArg (V.int .i64) (by omega)) (by omega) rfl rfl rfl rfl rfl (Nat.le_trans (Nat.mul_le_mul_right _ h) (by decide)) ?_
    show Goes _ _ _ _
    refine goes_cut (h := 0) 100 rfl rfl rfl rfl rfl rfl rfl rfl (Nat.zero_le _) ?_
    exact ⟨trivial, rfl, rfl, 2, rfl, rfl⟩
  · refine goes_own 0 6 rfl ?_
    refine go 100 ?_
    exact ⟨trivial, rfl, rfl, 0, rfl, rfl⟩
set_option maxRecDepth 100000 in
theorem w_ConcatNode (ls : List (List V)) (h : ls.flatten.length ≤ 1000000) (hl : ls.length ≤ 1000000) : Pure Tryz.prog 162 [.sl 1 (ls.map (V.sl 6))] (fun x => x = .sl 6 ls.flatten) := by
  refine pure_fn 100 Tryz.func162 rfl rfl rfl fun B => ?_
  show Goes _ _ _ _
  refine goes_iter (ι := Nat) (fun i => i ≤ ls.length) (fun i => ls.length - i) (fun i => [(3, .int .i64 (ls.take i).flatten.length), (11, .int .i64 i), (10, .int .i64 (ls.map (V.sl 6)).length), (9, .sl 1 (ls.map (V.sl 6))), (0, .sl 1 (ls.map (V.sl 6)))]) (fun _ => []) 0 100 (fun _ => rfl) (fun _ => rfl) ⟨Nat.zero_le _, ?_, trivial⟩ ?_
  · exact ⟨⟨rfl, rfl⟩, ⟨rfl, rfl⟩, ⟨rfl, rfl⟩, ⟨rfl, rfl⟩, ⟨rfl, rfl⟩, trivial⟩
  intro i k1 next
  have hb1 := flatten_take_le ls i
  refine ⟨fun hlt => go 100 ?_, fun hge => go 100 ?_⟩
  · have hi : i < ls.length := by simpa using hlt
    have hx : (ls.map (V.sl 6))[i]? = some (.sl 6 ls[i]) := by simp [hi]
    have hb2 := flatten_take_le ls (i + 1)
    have hs := flatten_take_succ hi
    have hsl : (ls.take (i + 1)).flatten.length = (ls.take i).flatten.length + ls[i].length := by rw [hs, List.length_append]
    refine ⟨Int.natCast_nonneg i, _, hx, ?_⟩
    refine ⟨by constructor <;> omega, ?_⟩
    refine ⟨fun g1 => go 100 ?_, fun g1 => go 100 ?_⟩
    · have := lt_of g1; omega
    refine ⟨by constructor <;> omega, ?_⟩
    refine next (i + 1) _ _ ⟨by omega, by omega, ?_, trivial⟩
    exact ⟨⟨by simp only [lk]; exact congrArg (V.int .i64) (by omega), rfl⟩, ⟨rfl, rfl⟩, ⟨rfl, rfl⟩, ⟨rfl, rfl⟩, ⟨rfl, rfl⟩, trivial⟩
  · have hi : i = ls.length := by have : ls.length ≤ i := by simpa using hge
                                  omega
    subst hi
    rw [List.take_length]
    show CallThen _ _ _ _ _ _
    refine call_sub [] (w_GrowNode ls.flatten.length (by omega)) rfl rfl trivial rfl rfl rfl ?_
    rintro x T1 ⟨g, rfl, rfl⟩
    refine ⟨rfl, ?_⟩
    show Goes _ _ _ _
    refine goes_iter (ι := Nat × Nat) (fun i => i.1 ≤ ls.length) (fun i => ls.length - i.1) (fun i => [(6, .osl (.loc 0) i.2 0 (ls.take i.1).flatten.length), (27, .int .i64 i.1), (26, .int .i64 (ls.map (V.sl 6)).length), (25, .sl 1 (ls.map (V.sl 6)))]) (fun i => [some (.vec i.2 6 (ls.take i.1).flatten)]) (0, g) 100 (fun _ => rfl) (fun _ => rfl) ⟨Nat.zero_le _, ?_, ?_⟩ ?_
    · exact ⟨⟨rfl, rfl⟩, ⟨rfl, rfl⟩, ⟨rfl, rfl⟩, ⟨rfl, rfl⟩, trivial⟩
    · exact ⟨⟨rfl, rfl⟩, trivial⟩
    rintro ⟨i, g⟩ k1 next
    have hb1 := flatten_take_le ls i
    simp only at k1 hb1
    refine ⟨fun hlt => go 100 ?_, fun hge => go 100 ?_⟩
    · have hi : i < ls.length := by simpa using hlt
      have hx : (ls.map (V.sl 6))[i]? = some (.sl 6 ls[i]) := by simp [hi]
      have hb2 := flatten_take_le ls (i + 1)
      have hs := flatten_take_succ hi
      have hsl : (ls.take (i + 1)).flatten.length = (ls.take i).flatten.length + ls[i].length := by rw [hs, List.length_append]
      refine ⟨Int.natCast_nonneg i, _, hx, ?_⟩
      simp only
      refine ⟨rfl, rfl, Nat.le_trans (Nat.mul_le_mul_right _ (show _ ≤ 1000000 by omega)) (by decide), ?_⟩
      refine ⟨by constructor <;> omega, ?_⟩
      refine next (i + 1, bump g) _ _ ⟨by simp only; omega, by simp only; omega, ?_, ?_⟩
      · exact ⟨⟨by simp only [lk]; exact congrArg (V.osl _ _ _) hsl.symm, rfl⟩, ⟨rfl, rfl⟩, ⟨rfl, rfl⟩, ⟨rfl, rfl⟩, trivial⟩
      · exact ⟨⟨by rw [hs], rfl⟩, trivial⟩
    · have hi : i = ls.length := by have : ls.length ≤ i := by simpa using hge
                                    omega
      subst hi
      exact ⟨trivial, rfl, rfl, rfl, rfl, rfl, by simp only [List.take_length]⟩
theorem w_GrowAttr (n : Nat) (h : n ≤ 10000000) : Fun Tryz.prog 193 [] [.nilsl, .int .i64 n] (fun x T => ∃ g, x = .osl (.loc 0) g 0 0 ∧ T = [some (.vec g 2 [])]) := by
  refine fun_fn 100 Tryz.func193 rfl rfl rfl fun imps B hi => ?_
  have : imps = [] := List.length_eq_zero_iff.1 hi
  subst this
  refine ⟨fun g1 => go 100 ?_, fun g1 => go 100 ?_⟩
  · have := lt_of g1; omega
  show Goes _ _ _ _
  refine goes_cap0 100 rfl rfl rfl rfl rfl ?_
  refine ⟨by constructor <;> omega, by constructor <;> omega, ?_⟩
  refine ⟨fun g2 => go 100 ?_, fun g2 => ?_⟩
  · have g2 := lt_of g2
    show Goes _ _ _ _
    refine goes_cap0 100 rfl rfl rfl rfl rfl ?_
    show Goes _ _ _ _
    refine goes_nilcut 100 rfl rfl rfl rfl rfl rfl rfl ?_
    show Goes _ _ _ _
    refine goes_growTo 100 n rfl rfl rfl rfl (congrArg (V.int .i64) (by omega)) (by omega) rfl rfl rfl rfl rfl (Nat.le_trans (Nat.mul_le_mul_right _ h) (by decide)) ?_
    show Goes _ _ _ _
    refine goes_cut (h := 0) 100 rfl rfl rfl rfl rfl rfl rfl rfl (Nat.zero_le _) ?_
    exact ⟨trivial, rfl, rfl, 2, rfl, rfl⟩
  · refine goes_own 0 2 rfl ?_
    refine go 100 ?_
    exact ⟨trivial, rfl, rfl, 0, rfl, rfl⟩
set_option maxRecDepth 100000 in
theorem w_ConcatAttr (ls : List (List V)) (h : ls.flatten.length ≤ 1000000) (hl : ls.length ≤ 1000000) : Pure Tryz.prog 168 [.sl 1 (ls.map (V.sl 2))] (fun x => x = .sl 2 ls.flatten) := by
  refine pure_fn 100 Tryz.func168 rfl rfl rfl fun B => ?_
  show Goes _ _ _ _
  refine goes_iter (ι := Nat) (fun i => i ≤ ls.length) (fun i => ls.length - i) (fun i => [(3, .int .i64 (ls.take i).flatten.length), (11, .int .i64 i), (10, .int .i64 (ls.map (V.sl 2)).length), (9, .sl 1 (ls.map (V.sl 2))), (0, .sl 1 (ls.map (V.sl 2)))]) (fun _ => []) 0 100 (fun _ => rfl) (fun _ => rfl) ⟨Nat.zero_le _, ?_, trivial⟩ ?_
  · exact ⟨⟨rfl, rfl⟩, ⟨rfl, rfl⟩, ⟨rfl, rfl⟩, ⟨rfl, rfl⟩, ⟨rfl, rfl⟩, trivial⟩
  intro i k1 next
  have hb1 := flatten_take_le ls i
  refine ⟨fun hlt => go 100 ?_, fun hge => go 100 ?_⟩
  · have hi : i < ls.length := by simpa using hlt
    have hx : (ls.map (V.sl 2))[i]? = some (.sl 2 ls[i]) := by simp [hi]
    have hb2 := flatten_take_le ls (i + 1)
    have hs := flatten_take_succ hi
    have hsl : (ls.take (i + 1)).flatten.length = (ls.take i).flatten.length + ls[i].length := by rw [hs, List.length_append]
    refine ⟨Int.natCast_nonneg i, _, hx, ?_⟩
    refine ⟨by constructor <;> omega, ?_⟩
    refine ⟨fun g1 => go 100 ?_, fun g1 => go 100 ?_⟩
    · have := lt_of g1; omega
    refine ⟨by constructor <;> omega, ?_⟩
    refine next (i + 1) _ _ ⟨by omega, by omega, ?_, trivial⟩
    exact ⟨⟨by simp only [lk]; exact congrArg (V.int .i64) (by omega), rfl⟩, ⟨rfl, rfl⟩, ⟨rfl, rfl⟩, ⟨rfl, rfl⟩, ⟨rfl, rfl⟩, trivial⟩
  · have hi : i = ls.length := by have : ls.length ≤ i := by simpa using hge
                                  omega
    subst hi
    rw [List.take_length]
    show CallThen _ _ _ _ _ _
    refine call_sub [] (w_GrowAttr ls.flatten.length (by omega)) rfl rfl trivial rfl rfl rfl ?_
    rintro x T1 ⟨g, rfl, rfl⟩
    refine ⟨rfl, ?_⟩
    show Goes _ _ _ _
    refine goes_iter (ι := Nat × Nat) (fun i => i.1 ≤ ls.length) (fun i => ls.length - i.1) (fun i => [(6, .osl (.loc 0) i.2 0 (ls.take i.1).flatten.length), (27, .int .i64 i.1), (26, .int .i64 (ls.map (V.sl 2)).length), (25, .sl 1 (ls.map (V.sl 2)))]) (fun i => [some (.vec i.2 2 (ls.take i.1).flatten)]) (0, g) 100 (fun _ => rfl) (fun _ => rfl) ⟨Nat.zero_le _, ?_, ?_⟩ ?_
    · exact ⟨⟨rfl, rfl⟩, ⟨rfl, rfl⟩, ⟨rfl, rfl⟩, ⟨rfl, rfl⟩, trivial⟩
    · exact ⟨⟨rfl, rfl⟩, trivial⟩
    rintro ⟨i, g⟩ k1 next
    have hb1 := flatten_take_le ls i
    simp only at k1 hb1
    refine ⟨fun hlt => go 100 ?_, fun hge => go 100 ?_⟩
    · have hi : i < ls.length := by simpa using hlt
      have hx : (ls.map (V.sl 2))[i]? = some (.sl 2 ls[i]) := by simp [hi]
      have hb2 := flatten_take_le ls (i + 1)
      have hs := flatten_take_succ hi
      have hsl : (ls.take (i + 1)).flatten.length = (ls.take i).flatten.length + ls[i].length := by rw [hs, List.length_append]
      refine ⟨Int.natCast_nonneg i, _, hx, ?_⟩
      simp only
      refine ⟨rfl, rfl, Nat.le_trans (Nat.mul_le_mul_right _ (show _ ≤ 1000000 by omega)) (by decide), ?_⟩
      refine ⟨by constructor <;> omega, ?_⟩
      refine next (i + 1, bump g) _ _ ⟨by simp only; omega, by simp only; omega, ?_, ?_⟩
      · exact ⟨⟨by simp only [lk]; exact congrArg (V.osl _ _ _) hsl.symm, rfl⟩, ⟨rfl, rfl⟩, ⟨rfl, rfl⟩, ⟨rfl, rfl⟩, trivial⟩
      · exact ⟨⟨by rw [hs], rfl⟩, trivial⟩
    · have hi : i = ls.length := by have : ls.length ≤ i := by simpa using hge
                                    omega
      subst hi
      exact ⟨trivial, rfl, rfl, rfl, rfl, rfl, by simp only [List.take_length]⟩
end Bow
/- W15: slices.Equal, slices.Clone, paths: printed by gen_w15.py. -/
namespace Bow
open Go Go.Proofs
theorem take_succ_eq {α : Type} {xs ys : List α} {i : Nat} (hx : i < xs.length) (hy : i < ys.length) : xs.drop i = ys.drop i ↔ xs[i] = ys[i] ∧ xs.drop (i + 1) = ys.drop (i + 1) := by
  rw [List.drop_eq_getElem_cons hx, List.drop_eq_getElem_cons hy, List.cons.injEq]
theorem PieceT.ext {a b : PieceT} (h1 : a.keep = b.keep) (h2 : a.drop = b.drop) (h3 : a.put = b.put) : a = b := by cases a; cases b; simp_all
instance : DecidableEq PieceT := fun a b => decidable_of_iff (a.keep = b.keep ∧ a.drop = b.drop ∧ a.put = b.put) ⟨fun h => PieceT.ext h.1 h.2.1 h.2.2, fun h => by subst h; exact ⟨rfl, rfl, rfl⟩⟩
set_option maxRecDepth 100000 in
theorem w_EqualInt (xs ys : List Int) (hl : xs.length ≤ 1000000) : Pure Tryz.prog 157 [.sl 1 (xs.map intV), .sl 1 (ys.map intV)] (fun x => x = .bool (decide (xs = ys))) := by
  refine pure_wk (pure_fn 100 Tryz.func157 rfl rfl rfl fun B => ?_)
  refine ⟨fun g1 => go 100 ?_, fun g1 => go 100 ?_⟩
  · have g1 := ne_of' g1
    refine ⟨trivial, rfl, rfl, rfl, leaf_ff (decide_eq_false fun e => g1 ?_)⟩
    rw [e]
  have g1 : xs.length = ys.length := by have := eq_of' g1; simp at this; omega
  show Goes _ _ _ _
  refine goes_iter (ι := Nat) (fun i => i ≤ xs.length ∧ (xs.drop i = ys.drop i ↔ xs = ys)) (fun i => xs.length - i) (fun i => [(13, .int .i64 i), (12, .int .i64 (xs.map intV).length), (1, .sl 1 (ys.map intV)), (0, .sl 1 (xs.map intV))]) (fun _ => []) 0 100 (fun _ => rfl) (fun _ => rfl) ⟨⟨Nat.zero_le _, Iff.rfl⟩, ?_, trivial⟩ ?_
  · exact ⟨⟨rfl, rfl⟩, ⟨rfl, rfl⟩, ⟨rfl, rfl⟩, ⟨rfl, rfl⟩, trivial⟩
  rintro i ⟨k1, k2⟩ next
  refine ⟨fun hlt => go 100 ?_, fun hge => go 100 ?_⟩
  · have hi : i < xs.length := by simpa using hlt
    have hi' : i < ys.length := by omega
    have hx : (xs.map intV)[i]? = some (intV xs[i]) := by simp [hi]
    have hy : (ys.map intV)[i]? = some (intV ys[i]) := by simp [hi']
    rw [take_succ_eq hi hi'] at k2
    show Goes _ _ _ _
    refine goes_draw 100 ?_
    refine ⟨Int.natCast_nonneg i, _, hx, Int.natCast_nonneg i, _, hy, ?_⟩
    refine ⟨by kernel_rfl, ?_⟩
    refine ⟨fun g2 => go 100 ?_, fun g2 => go 100 ?_⟩
    · refine ⟨trivial, rfl, rfl, rfl, leaf_ff (decide_eq_false fun e => ?_)⟩
      have := (k2.2 e).1
      rw [this] at g2
      simp at g2
    · refine ⟨by constructor <;> omega, ?_⟩
      have he : xs[i] = ys[i] := by
        exact eq_of' g2
      exact next (i + 1) _ _ ⟨⟨hi, by rw [← k2]; exact ⟨fun h => ⟨he, h⟩, fun h => h.2⟩⟩, by omega, ⟨⟨rfl, rfl⟩, ⟨rfl, rfl⟩, ⟨rfl, rfl⟩, ⟨rfl, rfl⟩, trivial⟩, trivial⟩
  · have hi : i = xs.length := by have : xs.length ≤ i := by simpa using hge
                                  omega
    subst hi
    refine ⟨trivial, rfl, rfl, rfl, leaf_tt (decide_eq_true (k2.1 ?_))⟩
    rw [List.drop_eq_nil_of_le (Nat.le_refl _), List.drop_eq_nil_of_le (by omega)]
def CloneQ (sz : Nat) (xs : List V) (x : V) (T : Heap) : Prop := (xs = [] ∧ x = .nilsl ∧ T = []) ∨ (x = .osl (.loc 0) 2 0 xs.length ∧ T = [some (.vec 2 sz xs)])
theorem w_CloneInt (xs : List V) (hl : xs.length ≤ 1000000) : Fun Tryz.prog 164 [] [.sl 1 xs] (CloneQ 1 xs) := by
  refine fun_fn 100 Tryz.func164 rfl rfl rfl fun imps B hi => ?_
  have : imps = [] := List.length_eq_zero_iff.1 hi
  subst this
  show Goes _ _ _ _
  refine goes_nileq 100 rfl rfl rfl rfl rfl rfl fun b hb => ?_
  refine ⟨fun g => go 100 ?_, fun g => go 100 ?_⟩
  · exact ⟨trivial, rfl, rfl, .inl ⟨hb g, rfl, rfl⟩⟩
  · refine ⟨trivial, rfl, rfl, Nat.le_trans (Nat.mul_le_mul_right _ (show _ ≤ 1000000 by simpa using hl)) (by decide), ?_⟩
    refine ⟨trivial, rfl, rfl, .inr ⟨?_, rfl⟩⟩
    simp [resV, bump]
theorem w_CloneNode (xs : List V) (hl : xs.length ≤ 1000000) : Fun Tryz.prog 84 [] [.sl 6 xs] (CloneQ 6 xs) := by
  refine fun_fn 100 Tryz.func84 rfl rfl rfl fun imps B hi => ?_
  have : imps = [] := List.length_eq_zero_iff.1 hi
  subst this
  show Goes _ _ _ _
  refine goes_nileq 100 rfl rfl rfl rfl rfl rfl fun b hb => ?_
  refine ⟨fun g => go 100 ?_, fun g => go 100 ?_⟩
  · exact ⟨trivial, rfl, rfl, .inl ⟨hb g, rfl, rfl⟩⟩
  · refine ⟨trivial, rfl, rfl, Nat.le_trans (Nat.mul_le_mul_right _ (show _ ≤ 1000000 by simpa using hl)) (by decide), ?_⟩
    refine ⟨trivial, rfl, rfl, .inr ⟨?_, rfl⟩⟩
    simp [resV, bump]
end Bow
