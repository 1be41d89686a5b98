/- The library, part 6: SP70, SP71, AE58, AE43, AE44, AE45, AE46, AE47, AE53, AE56, AE59, AE60, AE61, AE62, W117, W118, W60, W48, W61, W62. -/
import Derived.Test.YtbffliejmnokpaaGreatMe
import Derived.Test.YtbffliejmnokpaaGreatMd
import Derived.Test.YtbffliejmnokpaaGreatMc
/- SP70: two edits one behind the other, in plain Lean; that it ends; bounds. -/
namespace Bow
open Go
structure Cp where
 p : List PieceT
 q : List PieceT
 x : Mk
 fr : List UInt8
def cpStep (s : Cp) : Bool × Cp :=
 match rowPut s.q with
 | (u,q) => bif rowHas s.q then (true,⟨s.p,q,s.x.put u,s.fr⟩)
  else match (bif s.fr.isEmpty then rowPut s.p else (s.fr,s.p)) with
  | (fr,p) => match rowRun q with
   | ((n,gone,more),q) =>
    bif !fr.isEmpty then
     (true,⟨p,rowTake (min (min (bif more then n else (fr.length : Int)) fr.length) n) q,bif gone then s.x else s.x.put (fr.take (min (bif more then n else (fr.length : Int)) fr.length).toNat),fr.drop (min (bif more then n else (fr.length : Int)) fr.length).toNat⟩)
    else match rowRun p with
     | ((m,dropped,any),p) =>
      bif dropped then (true,⟨rowTake m p,q,s.x.drop m,fr⟩)
      else bif !any && !more then (false,⟨p,q,s.x,fr⟩)
      else match (bif !more then m else bif any then min n m else n) with
       | k => (true,⟨rowTake (min k m) p,rowTake (min k n) q,bif gone then s.x.drop k else s.x.kept k,fr⟩)
def cpGo : Nat → Cp → Cp
 | 0,s => s
 | f + 1,s => match cpStep s with
  | (b,s') => bif b then cpGo f s' else s'
def cpM (s : Cp) : Int:=rowR s.p + rowR s.q + s.fr.length
def composeP (a b : List PieceT) : List PieceT × Int :=
 bif !rightP a || !rightP b then ([],2)
 else match cpGo ((cpM ⟨normP a,normP b,Mk.nil,[]⟩).toNat + 1) ⟨normP a,normP b,Mk.nil,[]⟩ with
  | s => bif !rightP s.x.l then ([],3) else (s.x.l,0)
structure Cp.Ok (s : Cp) : Prop where
 p : RowOk s.p
 q : RowOk s.q
 x : s.x.Ok
 w : s.x.w + 3 * cpM s ≤ 900000000000
def cpP (s : Cp) : Nat:=putsLen s.x.l + putsLen s.p + putsLen s.q + s.fr.length
theorem rowHas_put {q : List PieceT} (h : rowHas q = true) : 1 ≤ (rowPut q).1.length:=by
 cases q with
 | nil => cases h
 | cons p r =>
  have h : (!(decide (0 < p.keep) || p.put.isEmpty)) = _:=h
  rw [rowPut]
  cases hb : (decide (0 < p.keep) || p.put.isEmpty) with
  | true => rw [hb] at h;cases h
  | false =>
   rw [cond_false]
   simp only [Bool.or_eq_false_iff] at hb
   have : p.put ≠ []:=by simpa using hb.2
   exact List.length_pos_iff.2 this
theorem rowHas_no {q : List PieceT} (h : rowHas q = false) : (rowPut q) = ([],q):=by
 cases q with
 | nil => rfl
 | cons p r =>
  have h : (!(decide (0 < p.keep) || p.put.isEmpty)) = _:=h
  rw [rowPut]
  cases hb : (decide (0 < p.keep) || p.put.isEmpty) with
  | true => rfl
  | false => rw [hb] at h;cases h
theorem run_pos {n : Int} {x s : Bool} {r : List PieceT} (h : RunIs n x s r) : (s = true → 1 ≤ n) ∧ (s = false → n = 0 ∧ x = false ∧ r = []) ∧ (x = true → s = true):=by
 rcases h with ⟨rfl,rfl,rfl,rfl⟩ | ⟨rfl,p,l,rfl,h⟩
 ·exact ⟨fun e => (by cases e),fun _ => ⟨rfl,rfl,rfl⟩,fun e => (by cases e)⟩
 ·refine ⟨fun _ => ?_,fun e => (by cases e),fun _ => rfl⟩
  rcases h with ⟨-,rfl,h6⟩ | ⟨-,rfl,h6,_⟩ <;> omega
theorem run_again {n : Int} {x s : Bool} {r : List PieceT} (h : RunIs n x s r) : rowRun r = ((n,x,s),r):=by
 rcases h with ⟨rfl,rfl,rfl,rfl⟩ | ⟨rfl,p,l,rfl,h⟩
 ·rfl
 ·rcases h with ⟨rfl,rfl,h6⟩ | ⟨rfl,rfl,h6,h7⟩
  ·rw [rowRun,decide_eq_true h6];rfl
  ·rw [rowRun,decide_eq_false h7,decide_eq_true h6];rfl
inductive CpTo (s : Cp) : Bool × Cp → Prop
 | put (h : rowHas s.q = true) : CpTo s (true,⟨s.p,(rowPut s.q).2,s.x.put (rowPut s.q).1,s.fr⟩)
 | old (fr p q n gone more k) (h : rowHas s.q = false) (hf : (bif s.fr.isEmpty then rowPut s.p else (s.fr,s.p)) = (fr,p)) (hq : rowRun s.q = ((n,gone,more),q)) (hne : fr ≠ []) (hk : k = min (bif more then n else (fr.length : Int)) fr.length) :
   CpTo s (true,⟨p,rowTake (min k n) q,bif gone then s.x else s.x.put (fr.take k.toNat),fr.drop k.toNat⟩)
 | drop (p q n gone more m any p') (h : rowHas s.q = false) (hf : (bif s.fr.isEmpty then rowPut s.p else (s.fr,s.p)) = ([],p)) (hq : rowRun s.q = ((n,gone,more),q)) (hp : rowRun p = ((m,true,any),p')) : CpTo s (true,⟨rowTake m p',q,s.x.drop m,[]⟩)
 | fin (p q n gone m p') (h : rowHas s.q = false) (hf : (bif s.fr.isEmpty then rowPut s.p else (s.fr,s.p)) = ([],p)) (hq : rowRun s.q = ((n,gone,false),q)) (hp : rowRun p = ((m,false,false),p')) : CpTo s (false,⟨p',q,s.x,[]⟩)
 | both (p q n gone more m any p' k) (h : rowHas s.q = false) (hf : (bif s.fr.isEmpty then rowPut s.p else (s.fr,s.p)) = ([],p)) (hq : rowRun s.q = ((n,gone,more),q)) (hp : rowRun p = ((m,false,any),p')) (hne : (!any && !more) = false) (hk : k = (bif !more then m else bif any then min n m else n)) :
   CpTo s (true,⟨rowTake (min k m) p',rowTake (min k n) q,bif gone then s.x.drop k else s.x.kept k,[]⟩)
theorem cpTo (s : Cp) : CpTo s (cpStep s):=by
 unfold cpStep
 cases h : rowHas s.q with
 | true => exact .put h
 | false =>
  rw [rowHas_no h]
  simp only [cond_false]
  obtain ⟨⟨fr,p⟩,hf⟩ : ∃ z,(bif s.fr.isEmpty then rowPut s.p else (s.fr,s.p)) = z:=⟨_,rfl⟩
  obtain ⟨⟨⟨n,gone,more⟩,q⟩,hq⟩ : ∃ z,rowRun s.q = z:=⟨_,rfl⟩
  rw [hf,hq]
  simp only
  cases fr with
  | cons c fr => exact .old (c :: fr) p q n gone more _ h hf hq (by simp) rfl
  | nil =>
   simp only [List.isEmpty_nil,Bool.not_true,cond_false]
   obtain ⟨⟨⟨m,dropped,any⟩,p'⟩,hp⟩ : ∃ z,rowRun p = z:=⟨_,rfl⟩
   rw [hp]
   simp only
   cases dropped with
   | true => exact .drop p q n gone more m any p' h hf hq hp
   | false =>
    cases hne : (!any && !more) with
    | true =>
     simp only [Bool.and_eq_true,Bool.not_eq_true'] at hne
     obtain ⟨rfl,rfl⟩:=hne
     exact .fin p q n gone m p' h hf hq hp
    | false => exact .both p q n gone more m any p' _ h hf hq hp hne rfl
theorem CpTo.eq {s : Cp} {r : Bool × Cp} (h : CpTo s r) : cpStep s = r:=by
 unfold cpStep
 cases h with
 | put h => simp only [h,cond_true]
 | old fr p q n gone more k h hf hq hne hk =>
  rw [rowHas_no h,h]
  simp only [cond_false]
  rw [hf,hq]
  have : fr.isEmpty = false:=by simpa using hne
  simp only [this,Bool.not_false,cond_true,← hk]
 | drop p q n gone more m any p' h hf hq hp =>
  rw [rowHas_no h,h]
  simp only [cond_false]
  rw [hf,hq]
  simp only [List.isEmpty_nil,Bool.not_true,cond_false,hp,cond_true]
 | fin p q n gone m p' h hf hq hp =>
  rw [rowHas_no h,h]
  simp only [cond_false]
  rw [hf,hq]
  simp only [List.isEmpty_nil,Bool.not_true,cond_false,hp,Bool.not_false,Bool.and_self,cond_true]
 | both p q n gone more m any p' k h hf hq hp hne hk =>
  rw [rowHas_no h,h]
  simp only [cond_false]
  rw [hf,hq]
  simp only [List.isEmpty_nil,Bool.not_true,cond_false,hp,hne,← hk]
theorem fresh_ok {s : Cp} (h : s.Ok) {fr : List UInt8} {p : List PieceT} (hf : (bif s.fr.isEmpty then rowPut s.p else (s.fr,s.p)) = (fr,p)) : RowOk p ∧ rowR p + fr.length = rowR s.p + s.fr.length ∧ putsLen p + fr.length = putsLen s.p + s.fr.length:=by
 cases he : s.fr.isEmpty with
 | true =>
  rw [he] at hf
  have e : s.fr = []:=by simpa using he
  obtain ⟨h1,h2,_,_⟩:=rowPut_ok h.p
  have h3:=rowPut_puts s.p
  rw [cond_true] at hf
  rw [hf] at h1 h2 h3
  rw [e]
  simp only at h1 h2 h3
  exact ⟨h1,by simp;omega,by simp;omega⟩
 | false =>
  rw [he,cond_false] at hf
  injection hf with e1 e2
  subst e1 e2
  exact ⟨h.p,rfl,rfl⟩
theorem run_ok {r r' : List PieceT} {n : Int} {x s : Bool} (h : RowOk r) (hr : rowRun r = ((n,x,s),r')) : RowOk r' ∧ RunIs n x s r' ∧ rowR r' ≤ rowR r ∧ putsLen r' ≤ putsLen r ∧ 0 ≤ n ∧ n ≤ 1000000000000:=by
 obtain ⟨a1,a2,a3⟩:=rowRun_ok h
 have b:=rowRun_is r
 have c:=(rowRun_R h.nn).1
 have d:=rowRun_puts r
 rw [hr] at a1 a2 a3 b c d
 exact ⟨a1,b,c,d,a2,a3⟩
theorem step_ok {s s' : Cp} {b : Bool} (h : s.Ok) (hc : CpTo s (b,s')) : s'.Ok ∧ (b = true → cpM s' < cpM s) ∧ cpP s' ≤ cpP s ∧ 0 ≤ cpM s:=by
 have hw:=h.w
 have rp:=rowR_nn h.p.nn
 have rq:=rowR_nn h.q.nn
 have m0 : 0 ≤ cpM s:=by unfold cpM;omega
 have hcpM : cpM s = rowR s.p + rowR s.q + s.fr.length:=rfl
 have hcpP : cpP s = putsLen s.x.l + putsLen s.p + putsLen s.q + s.fr.length:=rfl
 refine ⟨?_,?_,?_,m0⟩ <;> generalize hz : (b,s') = z at hc <;> cases hc
 all_goals injection hz with hz1 hz2;subst hz1 hz2
 case refine_1.put hh =>
  obtain ⟨a1,a2,_,_⟩:=rowPut_ok h.q
  obtain ⟨b1,b2⟩:=Mk.put_ok2 (s:=(rowPut s.q).1) h.x
  exact ⟨h.p,a1,b1,by unfold cpM at *;simp only;omega⟩
 case refine_2.put hh =>
  intro _
  obtain ⟨a1,a2,_,_⟩:=rowPut_ok h.q
  have:=rowHas_put hh
  unfold cpM
  simp only
  omega
 case refine_3.put hh =>
  have a1:=rowPut_puts s.q
  unfold cpP
  simp only [Mk.put_puts]
  omega
 case refine_1.old fr p q n gone more k hh hf hq hne hk =>
  obtain ⟨f1,f2,f3⟩:=fresh_ok h hf
  obtain ⟨q1,q2,q3,q4,q5,q6⟩:=run_ok h.q hq
  obtain ⟨p1,p2,p3⟩:=run_pos q2
  have hl:=List.length_pos_iff.2 hne
  have hk1 : 1 ≤ k ∧ k ≤ fr.length ∧ (more = true → k ≤ n):=by
   rw [hk]
   cases more with
   | true => have:=p1 rfl;simp only [cond_true];omega
   | false => refine ⟨?_,?_,fun e => (by cases e)⟩ <;> simp only [cond_false] <;> omega
  obtain ⟨t1,t2,_⟩:=rowTake_ok (n:=min k n) q1 q2 (by omega) (fun _ => by omega)
  have hd : ((fr.drop k.toNat).length : Int) = fr.length - k:=by rw [List.length_drop];omega
  have ht : ((fr.take k.toNat).length : Int) = k:=by rw [List.length_take];omega
  have hb : (0 : Int) ≤ bif more then min k n else 0:=by cases more <;> simp <;> omega
  refine ⟨f1,t1,?_,?_⟩
  ·cases gone with
   | true => exact h.x
   | false => exact (Mk.put_ok2 h.x).1
  ·unfold cpM at *
   simp only
   rw [hd,t2]
   cases gone with
   | true => simp only [cond_true];omega
   | false =>
    have:=(Mk.put_ok2 (s:=fr.take k.toNat) h.x).2
    simp only [cond_false]
    omega
 case refine_2.old fr p q n gone more k hh hf hq hne hk =>
  intro _
  obtain ⟨f1,f2,f3⟩:=fresh_ok h hf
  obtain ⟨q1,q2,q3,q4,q5,q6⟩:=run_ok h.q hq
  obtain ⟨p1,p2,p3⟩:=run_pos q2
  have hl:=List.length_pos_iff.2 hne
  have hk1 : 1 ≤ k ∧ k ≤ fr.length:=by
   rw [hk]
   cases more with
   | true => have:=p1 rfl;simp only [cond_true];omega
   | false => simp only [cond_false];omega
  obtain ⟨t1,t2,_⟩:=rowTake_ok (n:=min k n) q1 q2 (by omega) (fun _ => by omega)
  have hd : ((fr.drop k.toNat).length : Int) = fr.length - k:=by rw [List.length_drop];omega
  have hb : (0 : Int) ≤ bif more then min k n else 0:=by cases more <;> simp <;> omega
  unfold cpM
  simp only
  rw [hd,t2]
  omega
 case refine_3.old fr p q n gone more k hh hf hq hne hk =>
  obtain ⟨f1,f2,f3⟩:=fresh_ok h hf
  obtain ⟨q1,q2,q3,q4,q5,q6⟩:=run_ok h.q hq
  unfold cpP
  simp only [rowTake_puts,List.length_drop]
  cases gone with
  | true => simp only [cond_true];omega
  | false => simp only [cond_false,Mk.put_puts,List.length_take];omega
 case refine_1.drop p q n gone more m any p' hh hf hq hp =>
  obtain ⟨f1,f2,f3⟩:=fresh_ok h hf
  obtain ⟨q1,q2,q3,q4,q5,q6⟩:=run_ok h.q hq
  obtain ⟨r1,r2,r3,r4,r5,r6⟩:=run_ok f1 hp
  obtain ⟨t1,t2,_⟩:=rowTake_ok (n:=m) r1 r2 r5 (fun _ => Int.le_refl _)
  obtain ⟨d1,d2⟩:=Mk.drop_ok2 (n:=m) h.x r5
  have:=(run_pos r2).2.2 rfl
  subst this
  refine ⟨t1,q1,d1,?_⟩
  unfold cpM at *
  simp only [cond_true] at t2
  simp only [List.length_nil] at f2 ⊢
  omega
 case refine_2.drop p q n gone more m any p' hh hf hq hp =>
  intro _
  obtain ⟨f1,f2,f3⟩:=fresh_ok h hf
  obtain ⟨q1,q2,q3,q4,q5,q6⟩:=run_ok h.q hq
  obtain ⟨r1,r2,r3,r4,r5,r6⟩:=run_ok f1 hp
  obtain ⟨t1,t2,_⟩:=rowTake_ok (n:=m) r1 r2 r5 (fun _ => Int.le_refl _)
  have e:=(run_pos r2).2.2 rfl
  have:=(run_pos r2).1 e
  subst e
  unfold cpM at *
  simp only [cond_true] at t2
  simp only [List.length_nil] at f2 ⊢
  omega
 case refine_3.drop p q n gone more m any p' hh hf hq hp =>
  obtain ⟨f1,f2,f3⟩:=fresh_ok h hf
  obtain ⟨q1,q2,q3,q4,q5,q6⟩:=run_ok h.q hq
  obtain ⟨r1,r2,r3,r4,r5,r6⟩:=run_ok f1 hp
  unfold cpP
  simp only [rowTake_puts,Mk.drop_puts,List.length_nil] at f3 ⊢
  omega
 case refine_1.fin p q n gone m p' hh hf hq hp =>
  obtain ⟨f1,f2,f3⟩:=fresh_ok h hf
  obtain ⟨q1,q2,q3,q4,q5,q6⟩:=run_ok h.q hq
  obtain ⟨r1,r2,r3,r4,r5,r6⟩:=run_ok f1 hp
  refine ⟨r1,q1,h.x,?_⟩
  unfold cpM at *
  simp only [List.length_nil] at f2 ⊢
  omega
 case refine_2.fin p q n gone m p' hh hf hq hp => exact fun e => by cases e
 case refine_3.fin p q n gone m p' hh hf hq hp =>
  obtain ⟨f1,f2,f3⟩:=fresh_ok h hf
  obtain ⟨q1,q2,q3,q4,q5,q6⟩:=run_ok h.q hq
  obtain ⟨r1,r2,r3,r4,r5,r6⟩:=run_ok f1 hp
  unfold cpP
  simp only [List.length_nil] at f3 ⊢
  omega
 case refine_1.both p q n gone more m any p' k hh hf hq hp hne hk =>
  obtain ⟨f1,f2,f3⟩:=fresh_ok h hf
  obtain ⟨q1,q2,q3,q4,q5,q6⟩:=run_ok h.q hq
  obtain ⟨r1,r2,r3,r4,r5,r6⟩:=run_ok f1 hp
  have hp1:=(run_pos r2).1
  have hq1:=(run_pos q2).1
  have hk1 : 1 ≤ k ∧ (any = true → k ≤ m) ∧ (more = true → k ≤ n):=by
   rw [hk]
   cases any <;> cases more <;> simp at hne hp1 hq1 ⊢ <;> omega
  obtain ⟨t1,t2,_⟩:=rowTake_ok (n:=min k m) r1 r2 (by omega) (fun _ => by omega)
  obtain ⟨u1,u2,_⟩:=rowTake_ok (n:=min k n) q1 q2 (by omega) (fun _ => by omega)
  refine ⟨t1,u1,?_,?_⟩
  ·cases gone with
   | true => exact (Mk.drop_ok2 h.x (by omega)).1
   | false => exact (Mk.kept_ok h.x (by omega)).1
  ·unfold cpM at *
   simp only [List.length_nil] at f2 ⊢
   rw [t2,u2]
   have hsum : k ≤ (bif any then min k m else 0) + (bif more then min k n else 0):=by
    cases any <;> cases more <;> simp at hne hk1 ⊢ <;> omega
   cases gone with
   | true => have:=(Mk.drop_ok2 (n:=k) h.x (by omega)).2;simp only [cond_true];omega
   | false => have:=(Mk.kept_ok (n:=k) h.x (by omega)).2;simp only [cond_false];omega
 case refine_2.both p q n gone more m any p' k hh hf hq hp hne hk =>
  intro _
  obtain ⟨f1,f2,f3⟩:=fresh_ok h hf
  obtain ⟨q1,q2,q3,q4,q5,q6⟩:=run_ok h.q hq
  obtain ⟨r1,r2,r3,r4,r5,r6⟩:=run_ok f1 hp
  have hp1:=(run_pos r2).1
  have hq1:=(run_pos q2).1
  have hk1 : 1 ≤ k ∧ (any = true → k ≤ m) ∧ (more = true → k ≤ n):=by
   rw [hk]
   cases any <;> cases more <;> simp at hne hp1 hq1 ⊢ <;> omega
  obtain ⟨t1,t2,_⟩:=rowTake_ok (n:=min k m) r1 r2 (by omega) (fun _ => by omega)
  obtain ⟨u1,u2,_⟩:=rowTake_ok (n:=min k n) q1 q2 (by omega) (fun _ => by omega)
  unfold cpM
  simp only [List.length_nil] at f2 ⊢
  rw [t2,u2]
  have hsum : k ≤ (bif any then min k m else 0) + (bif more then min k n else 0):=by
   cases any <;> cases more <;> simp at hne hk1 ⊢ <;> omega
  omega
 case refine_3.both p q n gone more m any p' k hh hf hq hp hne hk =>
  obtain ⟨f1,f2,f3⟩:=fresh_ok h hf
  obtain ⟨q1,q2,q3,q4,q5,q6⟩:=run_ok h.q hq
  obtain ⟨r1,r2,r3,r4,r5,r6⟩:=run_ok f1 hp
  unfold cpP
  simp only [rowTake_puts,List.length_nil] at f3 ⊢
  cases gone with
  | true => simp only [cond_true,Mk.drop_puts];omega
  | false => simp only [cond_false];show putsLen s.x.l + _ + _ + 0 ≤ _;omega
theorem cpGo_succ {f : Nat} {s s' : Cp} {b : Bool} (h : cpStep s = (b,s')) : cpGo (f + 1) s = bif b then cpGo f s' else s':=by rw [cpGo,h]
theorem go_ok : ∀ (f : Nat) {s : Cp},s.Ok → (cpGo f s).Ok ∧ cpP (cpGo f s) ≤ cpP s
 | 0,s,h => ⟨h,Nat.le_refl _⟩
 | f + 1,s,h => by
  obtain ⟨⟨b,s'⟩,hs⟩ : ∃ z,cpStep s = z:=⟨_,rfl⟩
  have hc:=cpTo s
  rw [hs] at hc
  obtain ⟨h1,_,h3,_⟩:=step_ok h hc
  rw [cpGo_succ hs]
  cases b with
  | false => exact ⟨h1,h3⟩
  | true =>
   obtain ⟨g1,g2⟩:=go_ok f h1
   exact ⟨g1,Nat.le_trans g2 h3⟩
theorem cp_start {a b : List PieceT} (ha : rightP a = true) (hb : rightP b = true) : Cp.Ok ⟨normP a,normP b,Mk.nil,[]⟩ ∧ cpM ⟨normP a,normP b,Mk.nil,[]⟩ ≤ 80000000000:=by
 obtain ⟨oa,wa⟩:=norm_ok ha
 obtain ⟨ob,wb⟩:=norm_ok hb
 have : cpM ⟨normP a,normP b,Mk.nil,[]⟩ ≤ 80000000000:=by unfold cpM;simp only [List.length_nil];omega
 refine ⟨⟨oa,ob,Mk.nil_ok,?_⟩,this⟩
 show (0 : Int) + sumW [] + _ ≤ _
 simp only [sumW]
 omega
theorem compose_puts (a b : List PieceT) : putsLen (composeP a b).1 ≤ putsLen a + putsLen b:=by
 unfold composeP
 cases hr : !rightP a || !rightP b with
 | true => exact Nat.zero_le _
 | false =>
  simp only [Bool.or_eq_false_iff,Bool.not_eq_false'] at hr
  have h:=(go_ok ((cpM ⟨normP a,normP b,Mk.nil,[]⟩).toNat + 1) (cp_start hr.1 hr.2).1).2
  have h0 : cpP ⟨normP a,normP b,Mk.nil,[]⟩ = putsLen a + putsLen b:=by
   unfold cpP
   simp only [norm_puts,List.length_nil]
   show 0 + _ + _ + 0 = _
   omega
  rw [h0] at h
  simp only [cond_false]
  generalize cpGo _ _ = s at h ⊢
  cases rightP s.x.l with
  | false => exact Nat.zero_le _
  | true =>
   unfold cpP at h
   simp only [Bool.not_true,cond_false]
   omega
theorem compose_right {a b l : List PieceT} (h : composeP a b = (l,0)) : rightP l = true:=by
 unfold composeP at h
 cases hr : !rightP a || !rightP b with
 | true => rw [hr] at h;simp at h
 | false =>
  rw [hr] at h
  simp only [cond_false] at h
  generalize cpGo _ _ = s at h
  cases hl : rightP s.x.l with
  | false => rw [hl] at h;simp at h
  | true =>
   rw [hl] at h
   simp only [Bool.not_true,cond_false,Prod.mk.injEq] at h
   rw [← h.1]
   exact hl
end Bow
/- SP71: lists made with fewer operations (simplify), in plain Lean. -/
namespace Bow
open Go
def normR (l : List PieceT) : List PieceT:=bif rightP l then normP l else []
def idleO (o : OpT) : Bool:=formedB o && (bif decide (o.kind = 6) then decide ((normR o.pieces).length = 0) else bif decide (o.kind = 3) then !o.path.isEmpty && (decide (o.path.dropLast = o.to) && (decide (o.at_ = lastP o.path) || decide (o.at_ = lastP o.path + 1))) else false)
def busyO (o : OpT) : Bool:=formedB o && !idleO o
def pairO (a b : OpT) : Option (Option OpT) :=
 bif !busyO a || !busyO b then none
 else bif decide (a.kind = 1) && decide (a.path ++ [a.at_] = b.path) && decide (b.kind = 2) then some none
 else bif decide (a.kind = 1) && decide (a.path ++ [a.at_] = b.path) && decide (b.kind = 5) then some (some (bareO { a with label:=b.label }))
 else bif !decide (a.kind = b.kind) || !decide (a.path = b.path) then none
 else bif decide (a.kind = 5) then some (some (bareO b))
 else bif decide (a.kind = 4) then (bif decide (a.key = b.key) then some (some (bareO b)) else none)
 else bif decide (a.kind = 6) then (bif !decide ((composeP a.pieces b.pieces).2 = 0) then none else bif decide ((composeP a.pieces b.pieces).1.length = 0) then some none else some (some (bareO { b with pieces:=(composeP a.pieces b.pieces).1 })))
 else none
def pushO : List OpT → OpT → List OpT
 | [],x => [x]
 | [a],x => match pairO a x with
  | none => [x,a]
  | some (some z) => [z]
  | some none => []
 | a :: y :: rest,x => match pairO a x with
  | none => x :: a :: y :: rest
  | some (some z) => pushO (y :: rest) z
  | some none => pushO rest y
def sqz : List OpT → List OpT
 | [] => []
 | x :: rest => pushO rest x
def listR : List OpT → List OpT → List OpT
 | [],s => s
 | o :: l,s => bif idleO o then listR l s else listR l (pushO s (bareO o))
def listS (l : List OpT) : List OpT:=(listR l []).reverse
theorem push_cons (a : OpT) (rest : List OpT) (x : OpT) : pushO (a :: rest) x = match pairO a x with
  | none => x :: a :: rest
  | some (some z) => pushO rest z
  | some none => sqz rest:=by
 cases rest with
 | nil =>
  rw [pushO]
  cases pairO a x with
  | none => rfl
  | some z => cases z <;> rfl
 | cons y rest =>
  rw [pushO]
  cases pairO a x with
  | none => rfl
  | some z => cases z <;> rfl
theorem sqz_two (a b : OpT) (rest : List OpT) : sqz (b :: a :: rest) = match pairO a b with
  | none => b :: a :: rest
  | some (some z) => sqz (z :: rest)
  | some none => sqz rest:=by
 exact push_cons a rest b
theorem costs_cons (o : OpT) (l : List OpT) : costs (o :: l) = costO o + costs l:=by rw [costs]
theorem costs_nil : costs [] = 0:=by rw [costs]
theorem costs_app : ∀ a b : List OpT,costs (a ++ b) = costs a + costs b
 | [],b => by rw [List.nil_append,costs_nil];omega
 | x :: a,b => by rw [List.cons_append,costs_cons,costs_cons,costs_app a b];omega
theorem pair_cost {a b z : OpT} (h : pairO a b = some (some z)) : costO z ≤ costO a + costO b:=by
 have hb:=fun o => bare_cost o
 unfold pairO at h
 cases h1 : !busyO a || !busyO b with
 | true => rw [h1] at h;cases h
 | false =>
 rw [h1,cond_false] at h
 cases h2 : decide (a.kind = 1) && decide (a.path ++ [a.at_] = b.path) && decide (b.kind = 2) with
 | true => rw [h2] at h;simp at h
 | false =>
 rw [h2,cond_false] at h
 cases h3 : decide (a.kind = 1) && decide (a.path ++ [a.at_] = b.path) && decide (b.kind = 5) with
 | true =>
  rw [h3,cond_true] at h
  injection h with h
  injection h with h
  rw [← h]
  refine Nat.le_trans (hb _) ?_
  unfold costO
  simp only
  omega
 | false =>
 rw [h3,cond_false] at h
 cases h4 : !decide (a.kind = b.kind) || !decide (a.path = b.path) with
 | true => rw [h4] at h;cases h
 | false =>
 rw [h4,cond_false] at h
 cases h5 : decide (a.kind = 5) with
 | true =>
  rw [h5,cond_true] at h
  injection h with h
  injection h with h
  rw [← h]
  exact Nat.le_trans (hb _) (by omega)
 | false =>
 rw [h5,cond_false] at h
 cases h6 : decide (a.kind = 4) with
 | true =>
  rw [h6,cond_true] at h
  cases h7 : decide (a.key = b.key) with
  | false => rw [h7] at h;cases h
  | true =>
   rw [h7,cond_true] at h
   injection h with h
   injection h with h
   rw [← h]
   exact Nat.le_trans (hb _) (by omega)
 | false =>
 rw [h6,cond_false] at h
 cases h7 : decide (a.kind = 6) with
 | false => rw [h7] at h;cases h
 | true =>
 rw [h7,cond_true] at h
 have hp:=compose_puts a.pieces b.pieces
 generalize composeP a.pieces b.pieces = r at h hp
 obtain ⟨l,e⟩:=r
 simp only at h hp
 cases h8 : !decide (e = 0) with
 | true => rw [h8] at h;cases h
 | false =>
 rw [h8,cond_false] at h
 cases h9 : decide (l.length = 0) with
 | true => rw [h9] at h;simp at h
 | false =>
 rw [h9,cond_false] at h
 injection h with h
 injection h with h
 rw [← h]
 refine Nat.le_trans (hb _) ?_
 unfold costO
 simp only
 omega
theorem push_cost : ∀ (n : Nat) (s : List OpT) (x : OpT),s.length ≤ n → costs (pushO s x) ≤ costs s + costO x ∧ (pushO s x).length ≤ s.length + 1
 | _,[],x,_ => by rw [pushO,costs_cons,costs_nil];exact ⟨by omega,by simp⟩
 | n + 1,a :: rest,x,hn => by
  rw [push_cons,costs_cons]
  cases h : pairO a x with
  | none => simp only [costs_cons,List.length_cons];omega
  | some z =>
   cases z with
   | some z =>
    have:=push_cost n rest z (by simp at hn;omega)
    have:=pair_cost h
    simp only [List.length_cons]
    omega
   | none =>
    simp only
    cases rest with
    | nil => show costs [] ≤ _ ∧ _;rw [costs_nil];simp [sqz]
    | cons y rest =>
     have:=push_cost n rest y (by simp at hn;omega)
     show costs (pushO rest y) ≤ _ ∧ (pushO rest y).length ≤ _
     simp only [costs_cons,List.length_cons]
     omega
 | 0,a :: rest,x,hn => by simp at hn
theorem listR_cost : ∀ (l s : List OpT),costs (listR l s) ≤ costs l + costs s
 | [],s => by rw [listR,costs_nil];omega
 | o :: l,s => by
  rw [listR,costs_cons]
  cases idleO o with
  | true => have:=listR_cost l s;simp only [cond_true];omega
  | false =>
   have h1:=listR_cost l (pushO s (bareO o))
   have h2:=(push_cost _ s (bareO o) (Nat.le_refl _)).1
   have h3:=bare_cost o
   simp only [cond_false]
   omega
theorem costs_reverse (l : List OpT) : costs l.reverse = costs l:=by
 induction l with
 | nil => rfl
 | cons o l ih => rw [List.reverse_cons,costs_app,ih,costs_cons,costs_cons,costs_nil];omega
theorem listS_cost (l : List OpT) : costs (listS l) ≤ costs l:=by
 unfold listS
 rw [costs_reverse]
 exact listR_cost l []
theorem listR_len : ∀ (l s : List OpT),(listR l s).length ≤ l.length + s.length
 | [],s => by rw [listR];simp
 | o :: l,s => by
  rw [listR]
  cases idleO o with
  | true => have:=listR_len l s;simp;omega
  | false =>
   have h1:=listR_len l (pushO s (bareO o))
   have h2:=(push_cost _ s (bareO o) (Nat.le_refl _)).2
   simp
   omega
theorem listS_len (l : List OpT) : (listS l).length ≤ l.length:=by
 unfold listS
 rw [List.length_reverse]
 exact listR_len l []
end Bow
/- AE58: own memory whose elements are to say less. -/
namespace Bow
open Go
end Bow
/- AE43: own memory that stands elsewhere, read: its length, an element's place, what lies there; pointers held against nil; a range over a function that holds own objects. -/
namespace Bow
open Go
section
variable {c : Cx} {E : Env} {T : Heap} {ops : Array Oper} {i : Nat} {rest : List Nat} {k : List Item} {o : Oper}
theorem run_ptreq {P : Program} {t e : TypeId} (ht : P.underlying t = some (.pointer e)) (a : Option Addr) (w : World) : (binOp .eql t (.pointer a) (.pointer none)).run P w = .ok (.bool a.isNone) w ∧ (binOp .neq t (.pointer a) (.pointer none)).run P w = .ok (.bool (!a.isNone)) w := by
  have heq : (Op.equal t (.pointer a) (.pointer none)).run P w = .ok a.isNone w := by
    unfold Op.equal Op.maxDepth Op.equalIn
    cases a <;> simp [Sem.run_bind, run_underlying ht]
  constructor
  · unfold binOp
    simp only [Sem.run_bind, heq]
    simp
  · unfold binOp
    simp only [Sem.run_bind, heq]
    simp
theorem goes_nileqP {t t' e : TypeId} {x : Operand} (n : Nat) (ho : lget ops.toList i = some o) (hg : o.guard = none) (hop : o.op = .binOp .eql t x (.const (.pointer none)) t') (hx : opd E x = .nilp) (ht : tyU c.P t = some (.pointer e))
    (h : putE c.nt o.dst .tt E False fun E' => evp c n (.inRegion ops rest :: k) E' T) : Goes c (.inRegion ops (i :: rest) :: k) E T := by
  refine goes_opTo n ho hg hop (OpTo.still fun o hop w β H m a hs => ⟨.bool true, ?_, .tt⟩) (fun cl h => by cases h) h
  have hr := opd_rep hs x
  simp only [hx, V.conv] at hr
  generalize hq : a.eval x = q at hr
  cases hr
  have e2 : a.eval (.const (.pointer none)) = .pointer none := rfl
  have hgd : (eqGuard .eql t x (.const (.pointer none)) (.pointer none) (.pointer none)).run c.P w = .ok () w := by simp [eqGuard]
  simp only [execOp, hop, hq, e2, Sem.run_bind, hgd, Result.andThen_ok, (run_ptreq (tyU_sound ht) none w).1]
  rfl
theorem goes_ptrP {t t' e : TypeId} {x : Operand} {kb off : Nat} {cs : List V} (n : Nat) (ho : lget ops.toList i = some o) (hg : o.guard = none) (hop : o.op = .binOp .eql t x (.const (.pointer none)) t') (hx : opd E x = .ptr (.loc kb) off) (hk : lget T kb = some (some (.box cs))) (ht : tyU c.P t = some (.pointer e))
    (h : putE c.nt o.dst .ff E False fun E' => evp c n (.inRegion ops rest :: k) E' T) : Goes c (.inRegion ops (i :: rest) :: k) E T := by
  rw [lget_eq] at hk
  refine goes_opTo n ho hg hop (OpTo.still fun o hop w β H m a hs => ⟨.bool false, ?_, .ff⟩) (fun cl h => by cases h) h
  have hr := opd_rep hs x
  obtain ⟨r, hrm, hH⟩ := hs.at hk
  simp only [hx, V.conv, Ref.conv, hrm] at hr
  generalize hq : a.eval x = q at hr
  cases hr with
  | ptrLive _ _ b N cs' hH' hβ =>
    have e2 : a.eval (.const (.pointer none)) = .pointer none := rfl
    have hgd : (eqGuard .eql t x (.const (.pointer none)) (.pointer (some ⟨b, off, none⟩)) (.pointer none)).run c.P w = .ok () w := by simp [eqGuard]
    simp only [execOp, hop, hq, e2, Sem.run_bind, hgd, Result.andThen_ok, (run_ptreq (tyU_sound ht) (some ⟨b, off, none⟩) w).1]
    rfl
  | ptrDead _ _ _ hd => rw [hH] at hd; cases hd
end
end Bow
/- AE44: regions that draw their order and hold a call that hands back own memory. -/
namespace Bow
open Go
end Bow
/- AE45: own memory under names: calls that hand back named memory, calls that write over it, calls that only read it; stores into it. -/
namespace Bow
open Go
section
variable {w w' : World} {β β' : Nat → Loc} {H H' : Heap}
end
section
variable {c : Cx} {E : Env} {T : Heap} {ops : Array Oper} {i : Nat} {rest : List Nat} {k : List Item} {o : Oper}
end
end Bow
/- AE46: a nil slice in a cell of a box, as own memory; named results that say less. -/
namespace Bow
open Go
section
variable {c : Cx} {E : Env} {T : Heap}
end
end Bow
/- AE47: a function whose named memory nobody looks at any more. -/
namespace Bow
open Go
end Bow
/- AE53: named memory, lent to a function that leaves nothing behind: what it hands back lies elsewhere, where the sizes of its slices' elements tell so. -/
namespace Bow
open Go
mutual
def V.apart (ss : List Nat) : V → Bool
  | .int .. | .bool _ | .tt | .ff | .str _ | .nilsl | .nilp | .nilf | .nili | .nilmap | .undef => true
  | .sl sz xs => !ss.contains sz && V.apartL ss xs
  | .agg cs => V.apartL ss cs
  | .tup cs => V.apartL ss cs
  | .iface _ v => v.apart ss
  | _ => false
def V.apartL (ss : List Nat) : List V → Bool
  | [] => true
  | v :: vs => v.apart ss && V.apartL ss vs
end
theorem apartL_get {ss : List Nat} : ∀ {vs : List V}, V.apartL ss vs = true → ∀ v ∈ vs, v.apart ss = true
  | [], _, v, h => by cases h
  | x :: vs, hg, v, h => by
    simp only [V.apartL, Bool.and_eq_true] at hg
    rcases List.mem_cons.1 h with rfl | h
    · exact hg.1
    · exact apartL_get hg.2 v h
theorem apart_cells {ss : List Nat} {x : V} (h : x.apart ss = true) : ∀ c ∈ x.cells, c.apart ss = true := by
  cases x with
  | agg cs =>
    simp only [V.apart] at h
    exact apartL_get (vs := cs) h
  | _ =>
    intro c hc
    simp only [V.cells, List.mem_singleton] at hc
    subst hc
    exact h
def sealO (s : Nat) : HObj → HObj
  | .held t => .held t
  | _ => .held s
def sealH (L : Nat → Nat) (H : Heap) : Heap := H.mapIdx fun r o => o.map (sealO (L r))
theorem seal_get {L : Nat → Nat} {H : Heap} {r : Nat} : (sealH L H)[r]? = (H[r]?).map fun o => o.map (sealO (L r)) := by simp [sealH]
theorem seal_len {L : Nat → Nat} {H : Heap} : (sealH L H).length = H.length := by simp [sealH]
theorem sealO_is (s : Nat) (o : HObj) : isSeal (sealO s o) := by cases o <;> trivial
theorem sealO_held (s : Nat) (o : HObj) : ∃ t, sealO s o = .held t := by cases o <;> exact ⟨_, rfl⟩
theorem sealO_open {s : Nat} {o : HObj} (h : ¬ isSeal o) : sealO s o = .held s := by cases o <;> first | rfl | exact absurd trivial h
theorem seal_of {L : Nat → Nat} {H : Heap} {r : Nat} {o : HObj} (h : (sealH L H)[r]? = some (some o)) : ∃ o', H[r]? = some (some o') ∧ o = sealO (L r) o' := by
  rw [seal_get] at h
  rcases e : H[r]? with - | - | o'
  · rw [e] at h; cases h
  · rw [e] at h; cases h
  · rw [e] at h
    injection h with h
    injection h with h
    exact ⟨o', rfl, h.symm⟩
theorem seal_no {L : Nat → Nat} {β : Nat → Loc} {H : Heap} (b : Nat) : ¬ ownB β (sealH L H) b := by
  rintro ⟨r, N, ⟨o, h, hn⟩, _⟩
  obtain ⟨o', _, rfl⟩ := seal_of h
  exact hn (sealO_is _ _)
theorem seal_free {L : Nat → Nat} {β : Nat → Loc} {H : Heap} {b sz : Nat} (h : freeB β H b sz) : freeB β (sealH L H) b sz := by
  refine ⟨seal_no b, fun r s N hr hb => ?_⟩
  obtain ⟨o, ho, e⟩ := seal_of hr
  by_cases hs : isSeal o
  · cases o <;> first | exact hs.elim | skip
    injection e with e
    subst e
    exact h.2 r _ N ho hb
  · exact (h.1 ⟨r, N, ⟨o, ho, hs⟩, hb⟩).elim
theorem HRel.sealed {w : World} {β : Nat → Loc} {H : Heap} (h : HRel w β H) (L : Nat → Nat) : HRel w β (sealH L H) := by
  refine ⟨fun r o ho => ?_, fun r r' b N N' hl hl' hb hb' => ?_⟩
  · obtain ⟨o', ho', rfl⟩ := seal_of ho
    obtain ⟨t, e⟩ := sealO_held (L r) o'
    rw [e]
    cases e2 : β r with
    | none => trivial
    | nil => trivial
    | blk b N => exact h.lt ⟨o', ho'⟩ e2
  · obtain ⟨o, ho⟩ := hl
    obtain ⟨o', ho'⟩ := hl'
    obtain ⟨z, hz, _⟩ := seal_of ho
    obtain ⟨z', hz', _⟩ := seal_of ho'
    exact h.inj r r' b N N' ⟨z, hz⟩ ⟨z', hz'⟩ hb hb'
theorem Rep.sealed {w : World} {β : Nat → Loc} {H : Heap} {v : V} {u : Value} (h : Rep w β H v u) (L : Nat → Nat) : v.apart [] = true → Rep w β (sealH L H) v u := by
  induction h with
  | int k n => exact fun _ => .int k n
  | bool b => exact fun _ => .bool b
  | tt => exact fun _ => .tt
  | ff => exact fun _ => .ff
  | str s h => exact fun _ => .str s h
  | nilsl => exact fun _ => .nilsl
  | nilp => exact fun _ => .nilp
  | nilf => exact fun _ => .nilf
  | nili => exact fun _ => .nili
  | nilmap => exact fun _ => .nilmap
  | undef v => exact fun _ => .undef v
  | sl sz xs a cap vals hcap hmax hsz ha hr ih =>
    intro hp
    simp only [V.apart, Bool.and_eq_true] at hp
    refine .sl sz xs a cap vals hcap hmax hsz (fun hne => ?_) (fun i x j c h1 h2 => ih i x j c h1 h2 (apart_cells (apartL_get hp.2 x (List.mem_of_getElem? h1)) c (List.mem_of_getElem? h2)))
    obtain ⟨ad, e, h1, h2⟩ := ha hne
    exact ⟨ad, e, seal_free h1, h2⟩
  | agg cs vs hl h ih =>
    intro hp
    simp only [V.apart] at hp
    exact .agg cs vs hl fun j c v hj hv => ih j c v hj hv (apartL_get hp c (List.mem_of_getElem? hj))
  | tup cs vs hl h ih =>
    intro hp
    simp only [V.apart] at hp
    exact .tup cs vs hl fun j c v hj hv => ih j c v hj hv (apartL_get hp c (List.mem_of_getElem? hj))
  | iface t x v h ih =>
    intro hp
    simp only [V.apart] at hp
    exact .iface t x v (ih hp)
  | _ => intro hp; simp [V.apart] at hp
theorem Rep.unsealed {w : World} {β β' : Nat → Loc} {H H' : Heap} {L : Nat → Nat} {ss : List Nat} (hL : ∀ r, L r ∈ ss) (hH : ∀ r o, (sealH L H)[r]? = some (some o) → H'[r]? = some (some o) ∧ β' r = β r) {v : V} {u : Value} (h : Rep w β' H' v u) : v.apart ss = true → Rep w β H v u := by
  induction h with
  | int k n => exact fun _ => .int k n
  | bool b => exact fun _ => .bool b
  | tt => exact fun _ => .tt
  | ff => exact fun _ => .ff
  | str s h => exact fun _ => .str s h
  | nilsl => exact fun _ => .nilsl
  | nilp => exact fun _ => .nilp
  | nilf => exact fun _ => .nilf
  | nili => exact fun _ => .nili
  | nilmap => exact fun _ => .nilmap
  | undef v => exact fun _ => .undef v
  | sl sz xs a cap vals hcap hmax hsz ha hr ih =>
    intro hp
    simp only [V.apart, Bool.and_eq_true, Bool.not_eq_true'] at hp
    refine .sl sz xs a cap vals hcap hmax hsz (fun hne => ?_) (fun i x j c h1 h2 => ih i x j c h1 h2 (apart_cells (apartL_get hp.2 x (List.mem_of_getElem? h1)) c (List.mem_of_getElem? h2)))
    obtain ⟨ad, e, h1, h2⟩ := ha hne
    refine ⟨ad, e, ⟨?_, fun r s N hr hb => ?_⟩, h2⟩
    · rintro ⟨r, N, ⟨o, ho, hs⟩, hb⟩
      obtain ⟨k1, k2⟩ := hH r (.held (L r)) (by rw [seal_get, ho]; simp [sealO_open hs])
      have := h1.2 r _ N k1 (k2.trans hb)
      have h3 := hL r
      rw [this] at h3
      have h4 := hp.1
      rw [List.contains_iff_mem.2 h3] at h4
      cases h4
    · obtain ⟨k1, k2⟩ := hH r (.held s) (by rw [seal_get, hr]; rfl)
      exact h1.2 r s N k1 (k2.trans hb)
  | agg cs vs hl h ih =>
    intro hp
    simp only [V.apart] at hp
    exact .agg cs vs hl fun j c v hj hv => ih j c v hj hv (apartL_get hp c (List.mem_of_getElem? hj))
  | tup cs vs hl h ih =>
    intro hp
    simp only [V.apart] at hp
    exact .tup cs vs hl fun j c v hj hv => ih j c v hj hv (apartL_get hp c (List.mem_of_getElem? hj))
  | iface t x v h ih =>
    intro hp
    simp only [V.apart] at hp
    exact .iface t x v (ih hp)
  | _ => intro hp; simp [V.apart] at hp
inductive Lz (B : Base) (L : Nat → Nat) : V → V → Prop
  | wk {x y : V} (h : Wk x y) (hy : y.apart [] = true) : Lz B L x y
  | row (r g sz : Nat) (xs : List V) (h : B r = some (.vec g sz xs)) (hL : L r = sz) (hx : V.apartL [] xs = true) : Lz B L (.osl (.abs r) g 0 xs.length) (.sl sz xs)
  | agg (cs ds : List V) (hl : cs.length = ds.length) (h : ∀ (j : Nat) (c d : V), cs[j]? = some c → ds[j]? = some d → Lz B L c d) : Lz B L (.agg cs) (.agg ds)
  | sl (sz : Nat) (xs ys : List V) (hl : xs.length = ys.length) (hy : ∀ y ∈ ys, okE sz y) (h : ∀ (i : Nat) (x y : V) (j : Nat) (c d : V), xs[i]? = some x → ys[i]? = some y → x.cells[j]? = some c → y.cells[j]? = some d → Lz B L c d) : Lz B L (.sl sz xs) (.sl sz ys)
theorem Lz.rep {B : Base} {L : Nat → Nat} {w : World} {β : Nat → Loc} {H : Heap} (hrel : HRel w β H) (hB : ∀ q o, B q = some o → H[q]? = some (some o)) {x y : V} (h : Lz B L x y) : ∀ {v : Value}, Rep w β H x v → Rep w β (sealH L H) y v := by
  induction h with
  | wk h hy => exact fun {v} hv => (h w β H v hv).sealed L hy
  | row r g sz xs h hL hx =>
    intro v hv
    have hH := hB r _ h
    have hob := hrel.obj r _ hH
    have hvec : ∀ sz2 xs2, H[r]? = some (some (.vec g sz2 xs2)) → sz2 = sz ∧ xs2 = xs := fun sz2 xs2 h2 => by
      rw [hH] at h2
      injection h2 with h2
      injection h2 with h2
      injection h2 with _ e1 e2
      exact ⟨e1.symm, e2.symm⟩
    generalize hn : xs.length = n at hv
    cases hv with
    | oslNil _ _ sz2 xs2 ad hH' hβ =>
      rw [hβ] at hob
      have : xs = [] := hob
      subst this
      exact .sl sz [] ad 0 (fun _ => Go.undef) (Nat.le_refl _) (Nat.zero_le _) (by simp) (fun hne => absurd rfl hne) (fun i x j c hi => by simp at hi)
    | oslBlk _ _ _ _ sz2 xs2 b N ad cap hH' hβ hl hN hcap ha hlen =>
      obtain ⟨rfl, rfl⟩ := hvec _ _ hH'
      rw [hβ] at hob
      obtain ⟨vs, e, _, h1, h2, h3, h4, h5, h6⟩ := hob
      subst hn
      refine .sl sz2 xs2 ad cap (fun j => vs.getD j Go.undef) hl (by omega) h5 (fun hne => ?_) (fun i x j c hi hj => ?_)
      · have h0 : 0 < xs2.length := List.length_pos_iff.2 hne
        have := ha (by omega)
        subst this
        refine ⟨_, rfl, ⟨seal_no _, fun q s N' hq hb => ?_⟩, (Array.getElem?_eq_some_iff.1 h1).1, fun j hj => ?_⟩
        · obtain ⟨o, ho, e⟩ := seal_of hq
          have : q = r := hrel.inj q r b N' N ⟨o, ho⟩ ⟨_, hH⟩ hb hβ
          subst this
          rw [hH] at ho
          injection ho with ho
          injection ho with ho
          subst ho
          injection e with e
          exact e.trans hL
        · have hjv : j < vs.size := by omega
          rw [Nat.zero_mul, at_add, cell_of_row w b j vs e (0, 0) h1]
          simp [hjv]
      · have hlt : i * sz2 + j < vs.size := by
          have e1 := lt_of_get hi
          have e2 := lt_of_get hj
          have e3 := (h5 x (List.mem_of_getElem? hi)).1
          have : (i + 1) * sz2 ≤ xs2.length * sz2 := Nat.mul_le_mul_right _ e1
          rw [Nat.add_mul] at this
          omega
        exact (h6 i x j c (vs.getD (i * sz2 + j) Go.undef) hi hj (by simp [hlt])).sealed L (apart_cells (apartL_get hx x (List.mem_of_getElem? hi)) c (List.mem_of_getElem? hj))
    | oslStale _ _ _ _ g' sz' xs' _ hH' hg =>
      rw [hH] at hH'
      injection hH' with hH'
      injection hH' with hH'
      injection hH' with e0 _ _
      omega
    | oslDead _ _ _ _ _ hd => rw [hH] at hd; cases hd
  | agg cs ds hl h ih =>
    intro v hv
    cases hv with
    | agg _ vs hl' h' =>
      refine .agg ds vs (hl.symm.trans hl') fun j d u hj hu => ?_
      have hjc : j < cs.length := by have := lt_of_get hj; omega
      exact ih j _ d (List.getElem?_eq_getElem hjc) hj (h' j _ u (List.getElem?_eq_getElem hjc) hu)
  | sl sz xs ys hl hy h ih =>
    intro v hv
    generalize hn : xs.length = n at hl
    generalize hq : V.sl sz xs = q at hv
    cases hv with
    | sl sz' xs' a cap vals hcap hmax hsz ha hr =>
      injection hq with e1 e2
      subst e1 e2
      rw [hn, hl]
      refine .sl sz ys a cap vals (by omega) hmax hy (fun hne => ?_) (fun i y j d hi hj => ?_)
      · obtain ⟨ad, k1, k2, k3, k4⟩ := ha (fun e => hne (by rw [e] at hn; exact List.length_eq_zero_iff.1 (by simp at hn; omega)))
        exact ⟨ad, k1, seal_free k2, k3, fun j hj => k4 j (by rw [hn, hl]; exact hj)⟩
      · have hix : i < xs.length := by have := lt_of_get hi; omega
        have hx := List.getElem?_eq_getElem hix
        have hc1 := (hsz _ (List.mem_of_getElem? hx)).1
        have hc2 := (hy _ (List.mem_of_getElem? hi)).1
        have hjx : j < (xs[i]).cells.length := by have := lt_of_get hj; omega
        exact ih i _ y j _ d hx hi (List.getElem?_eq_getElem hjx) hj (hr i _ j _ hx (List.getElem?_eq_getElem hjx))
    | _ => cases hq
end Bow
/- AE56: own memory, lent to a function that leaves nothing behind: rows of elements of one size, and pointers to what holds them. -/
namespace Bow
open Go
inductive Lp (B : Base) (s : Nat) : V → V → Prop
  | lz {x y : V} (h : Lz B (fun _ => s) x y) : Lp B s x y
  | part (r g off len : Nat) (xs : List V) (h : B r = some (.vec g s xs)) (hlen : off + len ≤ xs.length) (hx : V.apartL [] xs = true) : Lp B s (.osl (.abs r) g off len) (.sl s ((xs.drop off).take len))
  | box (r : Nat) (cs ds : List V) (h : B r = some (.box cs)) (hl : cs.length = ds.length) (hd : ∀ (j : Nat) (c d : V), cs[j]? = some c → ds[j]? = some d → Lp B s c d) : Lp B s (.ptr (.abs r) 0) (.iptr ds 0)
theorem Lp.rep {B : Base} {s : Nat} {w : World} {β : Nat → Loc} {H : Heap} (hrel : HRel w β H) (hB : ∀ q o, B q = some o → H[q]? = some (some o)) {x y : V} (h : Lp B s x y) : ∀ {v : Value}, Rep w β H x v → Rep w β (sealH (fun _ => s) H) y v := by
  induction h with
  | lz h => exact fun {v} hv => h.rep hrel hB hv
  | part r g off len xs h hlen hx =>
    intro v hv
    have hH := hB r _ h
    have hob := hrel.obj r _ hH
    have hvec : ∀ sz2 xs2, H[r]? = some (some (.vec g sz2 xs2)) → sz2 = s ∧ xs2 = xs := fun sz2 xs2 h2 => by
      rw [hH] at h2
      injection h2 with h2
      injection h2 with h2
      injection h2 with _ e1 e2
      exact ⟨e1.symm, e2.symm⟩
    have hlen' : ((xs.drop off).take len).length = len := by rw [List.length_take, List.length_drop]; omega
    have hget : ∀ (i : Nat) (x : V), ((xs.drop off).take len)[i]? = some x → xs[off + i]? = some x := fun i x hi => by
      rw [List.getElem?_take] at hi
      split at hi
      · rw [List.getElem?_drop] at hi
        exact hi
      · cases hi
    generalize hys : (xs.drop off).take len = ys at hlen' hget
    have hmem : ∀ x ∈ ys, x ∈ xs := fun x hx => by
      obtain ⟨i, hi⟩ := List.getElem?_of_mem hx
      exact List.mem_of_getElem? (hget i x hi)
    cases hv with
    | oslNil _ _ sz2 xs2 ad hH' hβ =>
      have : ys = [] := List.length_eq_zero_iff.1 hlen'
      subst this
      exact .sl s [] ad 0 (fun _ => Go.undef) (Nat.le_refl _) (Nat.zero_le _) (by simp) (fun hne => absurd rfl hne) (fun i x j c hi => by simp at hi)
    | oslBlk _ _ _ _ sz2 xs2 b N ad cap hH' hβ hl hN hcap ha hlen2 =>
      obtain ⟨rfl, rfl⟩ := hvec _ _ hH'
      rw [hβ] at hob
      obtain ⟨vs, e, _, h1, h2, h3, h4, h5, h6⟩ := hob
      have hcell : ∀ j, j < ys.length * sz2 → off * sz2 + j < vs.size := fun j hj => by
        have : (off + len) * sz2 ≤ xs2.length * sz2 := Nat.mul_le_mul_right _ hlen
        rw [Nat.add_mul] at this
        rw [hlen'] at hj
        omega
      have key := Rep.sl (w := w) (β := β) (H := sealH (fun _ => sz2) H) sz2 ys ad cap (fun j => vs.getD (off * sz2 + j) Go.undef) (by omega) (by omega) (fun x hx => h5 x (hmem x hx)) (fun hne => ?_) (fun i x j c hi hj => ?_)
      · rw [hlen'] at key
        exact key
      · have h0 : 0 < ys.length := List.length_pos_iff.2 hne
        have := ha (by omega)
        subst this
        refine ⟨_, rfl, ⟨seal_no _, fun q s' N' hq hb => ?_⟩, (Array.getElem?_eq_some_iff.1 h1).1, fun j hj => ?_⟩
        · obtain ⟨o, ho, e⟩ := seal_of hq
          have : q = r := hrel.inj q r b N' N ⟨o, ho⟩ ⟨_, hH⟩ hb hβ
          subst this
          rw [hH] at ho
          injection ho with ho
          injection ho with ho
          subst ho
          injection e with e
        · have hjv := hcell j hj
          rw [add_none, cell_of_row w b (off * sz2 + j) vs e (0, 0) h1]
          simp [hjv]
      · have hgx := hget i x hi
        have hlt : off * sz2 + (i * sz2 + j) < vs.size := by
          refine hcell _ ?_
          have e1 := lt_of_get hi
          have e2 := lt_of_get hj
          have e3 := (h5 x (hmem x (List.mem_of_getElem? hi))).1
          have : (i + 1) * sz2 ≤ ys.length * sz2 := Nat.mul_le_mul_right _ e1
          rw [Nat.add_mul] at this
          omega
        have hlt2 : (off + i) * sz2 + j < vs.size := by rw [Nat.add_mul]; omega
        have := (h6 (off + i) x j c (vs.getD ((off + i) * sz2 + j) Go.undef) hgx hj (by simp [hlt2])).sealed (fun _ => sz2) (apart_cells (apartL_get hx x (hmem x (List.mem_of_getElem? hi))) c (List.mem_of_getElem? hj))
        rw [show off * sz2 + (i * sz2 + j) = (off + i) * sz2 + j by rw [Nat.add_mul, Nat.add_assoc]]
        exact this
    | oslStale _ _ _ _ g' sz' xs' _ hH' hg =>
      rw [hH] at hH'
      injection hH' with hH'
      injection hH' with hH'
      injection hH' with e0 _ _
      omega
    | oslDead _ _ _ _ _ hd => rw [hH] at hd; cases hd
  | box r cs ds h hl hd ih =>
    intro v hv
    have hH := hB r _ h
    have hob := hrel.obj r _ hH
    cases hv with
    | ptrLive _ _ b N cs' hH' hβ =>
      rw [hβ] at hob
      obtain ⟨vs, e, h1, h2, h3, h4⟩ := hob
      have key : Rep w β (sealH (fun _ => s) H) (.iptr ds 0) (.pointer (some ((⟨b, 0, none⟩ : Addr).add 0))) := by
        refine .iptr ds 0 ⟨b, 0, none⟩ (fun j => vs.getD j Go.undef) (seal_no b) (Array.getElem?_eq_some_iff.1 h1).1 (fun j hj => ?_) (fun j d hj => ?_)
        · have hjv : j < vs.size := by omega
          rw [at_add, cell_of_row w b j vs e (0, 0) h1]
          simp [hjv]
        · have hjd := lt_of_get hj
          have hjc : j < cs.length := by omega
          have hjv : j < vs.size := by omega
          exact ih j _ d (List.getElem?_eq_getElem hjc) hj (h4 j _ _ (List.getElem?_eq_getElem hjc) (by simp [hjv]))
      rw [at_add] at key
      exact key
    | ptrDead _ _ _ hd => rw [hH] at hd; cases hd
inductive Lt (T : Heap) (s : Nat) : V → V → Prop
  | wk {x y : V} (hx : x.pureB = true) (h : Wk x y) (hy : y.apart [] = true) : Lt T s x y
  | row (k g : Nat) (xs : List V) (h : T[k]? = some (some (.vec g s xs))) (hx : V.apartL [] xs = true) : Lt T s (.osl (.loc k) g 0 xs.length) (.sl s xs)
  | part (k g off len : Nat) (xs : List V) (h : T[k]? = some (some (.vec g s xs))) (hlen : off + len ≤ xs.length) (hx : V.apartL [] xs = true) : Lt T s (.osl (.loc k) g off len) (.sl s ((xs.drop off).take len))
  | box (k : Nat) (cs ds : List V) (h : T[k]? = some (some (.box cs))) (hl : cs.length = ds.length) (hd : ∀ (j : Nat) (c d : V), cs[j]? = some c → ds[j]? = some d → Lt T s c d) : Lt T s (.ptr (.loc k) 0) (.iptr ds 0)
theorem loc_conv {m : List Nat} {k r : Nat} (h : m[k]? = some r) : (Ref.loc k).conv m = .abs r := by
  simp only [Ref.conv]
  rw [h]
theorem Lt.conv {T H : Heap} {m : List Nat} {s : Nat} (hlen : m.length = T.length) (hloc : ∀ (k r : Nat) (o : Option HObj), m[k]? = some r → T[k]? = some o → H[r]? = some (o.map (HObj.conv m))) {x y : V} (h : Lt T s x y) : Lp (fun r => (H[r]?).join) s (x.conv m) y := by
  induction h with
  | wk hx h hy =>
    rw [pure_conv _ _ hx]
    exact .lz (.wk h hy)
  | row k g xs h hx =>
    have hk := lt_of_get h
    obtain ⟨r, hr⟩ : ∃ r, m[k]? = some r := ⟨_, List.getElem?_eq_getElem (by omega)⟩
    have e : (V.osl (.loc k) g 0 xs.length).conv m = .osl (.abs r) g 0 xs.length := by rw [V.conv, loc_conv hr]
    rw [e]
    refine .lz (.row r g s xs ?_ rfl hx)
    show (H[r]?).join = _
    rw [hloc k r _ hr h]
    rfl
  | part k g off len xs h hlen hx =>
    have hk := lt_of_get h
    obtain ⟨r, hr⟩ : ∃ r, m[k]? = some r := ⟨_, List.getElem?_eq_getElem (by omega)⟩
    have e : (V.osl (.loc k) g off len).conv m = .osl (.abs r) g off len := by rw [V.conv, loc_conv hr]
    rw [e]
    refine .part r g off len xs ?_ hlen hx
    show (H[r]?).join = _
    rw [hloc k r _ hr h]
    rfl
  | box k cs ds h hl hd ih =>
    have hk := lt_of_get h
    obtain ⟨r, hr⟩ : ∃ r, m[k]? = some r := ⟨_, List.getElem?_eq_getElem (by omega)⟩
    have e : (V.ptr (.loc k) 0).conv m = .ptr (.abs r) 0 := by rw [V.conv, loc_conv hr]
    rw [e]
    refine .box r (V.convL m cs) ds ?_ (by rw [V.convL_eq, List.length_map]; exact hl) fun j c d hj hdj => ?_
    · show (H[r]?).join = _
      rw [hloc k r _ hr h]
      rfl
    · rw [V.convL_eq, List.getElem?_map, Option.map_eq_some_iff] at hj
      obtain ⟨c', hc', rfl⟩ := hj
      exact ih j c' d hc' hdj
def LtL (T : Heap) (s : Nat) : List V → List V → Prop
  | [], [] => True
  | x :: xs, y :: ys => Lt T s x y ∧ LtL T s xs ys
  | _, _ => False
theorem LtL.get {T : Heap} {s : Nat} : ∀ {xs ys : List V}, LtL T s xs ys → xs.length = ys.length ∧ ∀ (j : Nat) (y : V), ys[j]? = some y → ∃ x, xs[j]? = some x ∧ Lt T s x y
  | [], [], _ => ⟨rfl, fun j y h => by simp at h⟩
  | x :: xs, y :: ys, h => by
    obtain ⟨h1, h2⟩ := LtL.get h.2
    refine ⟨by simp [h1], fun j z hz => ?_⟩
    cases j with
    | zero => simp at hz; subst hz; exact ⟨x, rfl, h.1⟩
    | succ j => simpa using h2 j z (by simpa using hz)
  | [], _ :: _, h => h.elim
  | _ :: _, [], h => h.elim
theorem call_lendT {c : Cx} {g : FuncId} {args args' : List V} {E : Env} {T : Heap} {K : V → St → Prop} {Q : V → Prop} (s : Nat) (hf : Pure c.P g args' Q) (hz : LtL T s args args') (ha' : V.pureL args' = true)
    (hx : ∀ x, Q x → x.apart [s] = true) (h : ∀ x, Q x → K x ⟨E, T, c.B, c.D⟩) : CallThen c g args E T K := by
  unfold Pure Fun at hf
  unfold CallThen
  refine ⟨hf.1, fun w β H m a vals cs hs hl hr => ?_⟩
  obtain ⟨hzl, hzg⟩ := hz.get
  have hs0 : SRel [] 0 w β (sealH (fun _ => s) H) [] ⟨[], [], fun r => ((sealH (fun _ => s) H)[r]?).getD none, []⟩ bare := by
    refine ⟨hs.hrel.sealed (fun _ => s), rfl, fun k => by simp [lk, V.conv]; exact .undef _, rfl, List.nodup_nil, by simp, rfl, fun r h _ => ?_, fun r h1 => ?_, by simp, by simp, by simp, rfl, by simp⟩
    · simp only
      rw [List.getElem?_eq_getElem h]
      rfl
    · simp only
      rw [List.getElem?_eq_none h1]
      rfl
  obtain ⟨x, T', v, w', β', H', m', fr, ⟨rfl, hp, hq⟩, k1, k2, k3, k4⟩ := hf.2 w β (sealH (fun _ => s) H) [] _ vals cs hs0 (hzl.symm.trans hl) (fun j y v hj hv => by
    obtain ⟨x0, h1, h2⟩ := hzg j y hj
    have h3 := hr j x0 v h1 hv
    rw [pure_conv _ _ (pureL_mem _ ha' y (List.mem_of_getElem? hj))]
    refine (h2.conv hs.mlen hs.loc).rep hs.hrel (fun q o hq => ?_) h3
    have hq : (H[q]?).join = some o := hq
    cases e : H[q]? with
    | none => rw [e] at hq; cases hq
    | some z =>
      rw [e] at hq
      have hq : z = some o := hq
      rw [hq])
  have hm' : m' = [] := List.length_eq_zero_iff.1 k1.mlen
  subst hm'
  have hb : RowKit.Below w.heap.size w w' := ⟨k2.os, k2.tape, k2.output, k2.size, fun q hq => k2.keep q hq (seal_no q)⟩
  have g2 : Fr w β H w' β H := Fr.of_below hb
  rw [pure_conv _ _ hp] at k3
  refine ⟨x, _, v, w', β, H, m, fr, h x hq, hs.same g2 (hs.hrel.of_below hb), g2, ?_, k4.1, k4.2.1, k4.2.2, List.prefix_refl _⟩
  rw [pure_conv _ _ hp]
  refine k3.unsealed (L := fun _ => s) (ss := [s]) (fun r => by simp) (fun r o ho => ?_) (hx x hq)
  have hlt : r < (sealH (fun _ => s) H).length := lt_of_get ho
  have hH' : H'[r]? = some (some o) := by
    have := k1.base r (Nat.lt_of_lt_of_le hlt k2.len) (by simp)
    simp only at this
    rw [this, ho]
    rfl
  refine ⟨hH', ?_⟩
  obtain ⟨o', _, rfl⟩ := seal_of ho
  obtain ⟨t, e⟩ := sealO_held s o'
  rw [e] at hH'
  exact (k2.seals r t hH').2
end Bow
/- AE59: own memory that another own row takes over; own slices cut behind, and their room. -/
namespace Bow
open Go
section
variable {imps : List Nat} {nt : Nat} {w : World} {β : Nat → Loc} {H : Heap} {m : List Nat} {E : Env} {T : Heap} {B : Base} {D : List Nat} {a : Act}
theorem into_get {H : Heap} {rk rj q : Nat} {o o' : HObj} (h : ((H.set rk (some o')).set rj none)[q]? = some (some o)) : (q = rk ∧ o = o') ∨ (q ≠ rk ∧ q ≠ rj ∧ H[q]? = some (some o)) := by
  rcases get_set_some h with ⟨_, h2, _⟩ | ⟨h1, h2⟩
  · cases h2
  · rcases get_set_some h2 with ⟨e1, e2, _⟩ | ⟨e1, e2⟩
    · injection e2 with e2
      exact .inl ⟨e1, e2⟩
    · exact .inr ⟨e1, h1, e2⟩
theorem SRel.takeOver (h : SRel imps nt w β H m ⟨E, T, B, D⟩ a) {k jn rk rj g g2 sz sz2 n : Nat} {xs ys : List V} (hk : T[k]? = some (some (.vec g2 sz2 ys))) (hs2 : sz2 ≠ 0) (hj : T[jn]? = some (some (.vec g sz xs))) (hne : k ≠ jn) (hmk : m[k]? = some rk) (hmj : m[jn]? = some rj) (hn : n ≤ xs.length) :
    SRel imps nt w (upd β rk (β rj)) ((H.set rk (some (.vec (bump g2) sz (xs.take n)))).set rj none) m ⟨E, (T.set k (some (.vec (bump g2) sz (xs.take n)))).set jn none, B, D⟩ a ∧
      Fr w β H w (upd β rk (β rj)) ((H.set rk (some (.vec (bump g2) sz (xs.take n)))).set rj none) := by
  have hHk : H[rk]? = some (some (.vec g2 sz2 ys)) := h.loc k rk _ hmk hk
  have hHj : H[rj]? = some (some (.vec g sz xs)) := h.loc jn rj _ hmj hj
  have hrne : rk ≠ rj := fun e => hne (h.inj hmk (by rw [e]; exact hmj))
  have hβk : β rk ≠ .none := fun e => by
    have := h.hrel.obj rk _ hHk
    rw [e] at this
    exact hs2 this
  have hlt := lt_bump g2
  have f : Fr w β H w (upd β rk (β rj)) ((H.set rk (some (.vec (bump g2) sz (xs.take n)))).set rj none) := by
    refine ⟨⟨rfl, rfl, rfl, Nat.le_refl _, by simp, fun q o' _ ho' => ?_, fun _ _ _ => rfl, ?_, fun q hq => ?_, fun q s hs => ?_⟩, fun q _ hq => ?_⟩
    · rcases into_get ho' with ⟨rfl, rfl⟩ | ⟨h1, _, h3⟩
      · exact ⟨_, hHk, ⟨Nat.le_of_lt hlt, fun e => by omega⟩, fun _ e => by have e : g2 = bump g2 := e; omega⟩
      · exact ⟨o', h3, Evo.refl _, fun _ _ => upd_ne h1⟩
    · rintro b ⟨q, M, ⟨o, ho, hns⟩, hb⟩
      rcases into_get ho with ⟨rfl, rfl⟩ | ⟨h1, _, h3⟩
      · rw [upd_same] at hb
        exact .inr ⟨rj, M, ⟨_, hHj, fun h => h⟩, hb⟩
      · rw [upd_ne h1] at hb
        exact .inr ⟨q, M, ⟨o, h3, hns⟩, hb⟩
    · exact upd_ne (hq.ne hHk fun h => h)
    · rcases into_get hs with ⟨_, h2⟩ | ⟨h1, _, h3⟩
      · cases h2
      · exact ⟨h3, upd_ne h1⟩
    · have : q ≠ rk := fun e => hβk (e ▸ hq)
      rw [upd_ne this]
      exact hq
  have hrel : HRel w (upd β rk (β rj)) ((H.set rk (some (.vec (bump g2) sz (xs.take n)))).set rj none) := by
    refine h.hrel.step f (fun q o ho => ?_) ?_
    · rcases into_get ho with ⟨rfl, rfl⟩ | ⟨h1, _, h3⟩
      · right
        rw [upd_same]
        have hob := h.hrel.obj rj _ hHj
        cases hβ : β rj with
        | none => rw [hβ] at hob; exact hob
        | nil =>
          rw [hβ] at hob
          have : xs = [] := hob
          subst this
          exact List.take_nil
        | blk b N =>
          rw [hβ] at hob
          rw [hβ] at f
          obtain ⟨vs, et, _, h1, h2, h3, h4, h5, h6⟩ := hob
          refine ⟨vs, et, tyG_bump _ _, h1, h2, Nat.le_trans (Nat.mul_le_mul_right _ (by simp; omega)) h3, h4, fun x hx => h5 x (List.mem_of_mem_take hx), fun p x j c v hi hj hv => ?_⟩
          rw [List.getElem?_take] at hi
          split at hi
          · exact (h6 p x j c v hi hj hv).mono f
          · cases hi
      · exact .inl ⟨h3, upd_ne h1, fun _ _ _ => rfl⟩
    · rintro q q' b M M' ⟨o, ho⟩ ⟨o', ho'⟩ hb hb'
      rcases into_get ho with ⟨rfl, _⟩ | ⟨h1, h2, h3⟩ <;> rcases into_get ho' with ⟨rfl, _⟩ | ⟨k1, k2, k3⟩
      · rfl
      · rw [upd_same] at hb
        rw [upd_ne k1] at hb'
        exact absurd (h.hrel.inj q' rj b M' M ⟨_, k3⟩ ⟨_, hHj⟩ hb' hb) k2
      · rw [upd_same] at hb'
        rw [upd_ne h1] at hb
        exact absurd (h.hrel.inj q rj b M M' ⟨_, h3⟩ ⟨_, hHj⟩ hb hb') h2
      · rw [upd_ne h1] at hb
        rw [upd_ne k1] at hb'
        exact h.hrel.inj q q' b M M' ⟨_, h3⟩ ⟨_, k3⟩ hb hb'
  refine ⟨?_, f⟩
  have hml : m.length = T.length := h.mlen
  have hrkl := h.lt hmk
  have hrjl := h.lt hmj
  have hkT := lt_of_get hk
  have hjT := lt_of_get hj
  have hTget : ∀ (q : Nat) (o : Option HObj), ((T.set k (some (.vec (bump g2) sz (xs.take n)))).set jn none)[q]? = some o → (q = jn ∧ o = none) ∨ (q = k ∧ q ≠ jn ∧ o = some (.vec (bump g2) sz (xs.take n))) ∨ (q ≠ jn ∧ q ≠ k ∧ T[q]? = some o) := fun q o hq => by
    by_cases e1 : q = jn
    · subst e1
      rw [List.getElem?_set] at hq
      simp [hjT] at hq
      exact .inl ⟨rfl, hq.symm⟩
    · rw [List.getElem?_set_ne (fun x => e1 x.symm)] at hq
      by_cases e2 : q = k
      · subst e2
        rw [List.getElem?_set] at hq
        simp [hkT] at hq
        exact .inr (.inl ⟨rfl, e1, hq.symm⟩)
      · rw [List.getElem?_set_ne (fun x => e2 x.symm)] at hq
        exact .inr (.inr ⟨e1, e2, hq⟩)
  refine ⟨hrel, h.size, fun j => (h.env j).mono f, by simpa using hml, h.nodup, fun j q o hjq ho => ?_, h.imp, fun q hq hqm => ?_, fun q hq => h.fut q (by simpa using hq), h.own, fun p hp => by simpa using h.scE p hp, fun j o ho => ?_, h.defs, fun j q hjq => ?_⟩
  · rcases hTget j o ho with ⟨rfl, rfl⟩ | ⟨rfl, h1, rfl⟩ | ⟨h1, h2, h3⟩
    · have : q = rj := Option.some.inj (hjq.symm.trans hmj)
      subst this
      simp [hrjl]
    · have : q = rk := Option.some.inj (hjq.symm.trans hmk)
      subst this
      rw [List.getElem?_set_ne (fun x => hrne x.symm)]
      simp [hrkl, HObj.conv]
    · have n1 : q ≠ rj := fun e => h1 (h.inj hjq (e ▸ hmj))
      have n2 : q ≠ rk := fun e => h2 (h.inj hjq (e ▸ hmk))
      rw [List.getElem?_set_ne (fun x => n1 x.symm), List.getElem?_set_ne (fun x => n2 x.symm)]
      exact h.loc j q o hjq h3
  · have n1 : q ≠ rj := fun e => hqm (e ▸ List.mem_of_getElem? hmj)
    have n2 : q ≠ rk := fun e => hqm (e ▸ List.mem_of_getElem? hmk)
    rw [List.getElem?_set_ne (fun x => n1 x.symm), List.getElem?_set_ne (fun x => n2 x.symm)]
    exact h.base q (by simpa using hq) hqm
  · simp only [List.length_set]
    rcases hTget j (some o) ho with ⟨_, h2⟩ | ⟨_, _, h2⟩ | ⟨_, _, h3⟩
    · cases h2
    · injection h2 with h2
      subst h2
      trivial
    · exact h.scT j o h3
  · obtain ⟨r', b, N, h1, h2, h3, h4⟩ := h.marks j q hjq
    have n1 : q ≠ jn := fun e => by simp only at h2; rw [e, hj] at h2; cases h2
    have n2 : q ≠ k := fun e => by simp only at h2; rw [e, hk] at h2; cases h2
    have n3 : r' ≠ rk := fun e => n2 (h.inj h1 (e ▸ hmk))
    refine ⟨r', b, N, h1, ?_, by rw [upd_ne n3]; exact h3, h4⟩
    simp only
    rw [List.getElem?_set_ne (fun x => n1 x.symm), List.getElem?_set_ne (fun x => n2 x.symm)]
    exact h2
end
section
variable {c : Cx} {E : Env} {T : Heap} {ops : Array Oper} {i : Nat} {rest : List Nat} {k : List Item} {o : Oper}
theorem opTo_cutHi {t e : TypeId} {x hi : Operand} {kk : IntKind} {ti : TypeInfo} {kn g off l sz h : Nat} {xs : List V} (hx : opd E x = .osl (.loc kn) g off l) (hh : opd E hi = .int kk h) (ht : tyU c.P t = some (.slice e)) (hi' : tyI c.P e = some ti)
    (hk : T[kn]? = some (some (.vec g sz xs))) (hle : h ≤ l) : OpTo c (.slice t x none (some hi) none) E T (.osl (.loc kn) g off h) T := by
  intro o hop w β H m a hs
  have hv := opd_rep hs x
  obtain ⟨r, hr, hH⟩ := hs.at hk
  simp only [hx, V.conv, Ref.conv, hr] at hv
  simp only [HObj.conv] at hH
  have e2 := rep_int (m := m) (by have := opd_rep hs hi; rwa [hh] at this)
  have hvec2 : ∀ sz2 xs2, H[r]? = some (some (.vec g sz2 xs2)) → sz2 = sz ∧ xs2 = xs := fun sz2 xs2 h2 => by
    rw [hH] at h2
    injection h2 with h2
    injection h2 with h2
    injection h2 with _ e1 e2
    exact ⟨e1.symm, e2.symm⟩
  generalize hq : a.eval x = q at hv
  have hrun : ∀ (ad : Option Addr) (cap : Nat), q = .slice ad l cap → l ≤ cap → (execOp a.eval o).run c.P w = .ok (.value (.slice (if cap = 0 then ad else Option.map (fun x => x.add 0) ad) h cap)) w := by
    intro ad cap hqe hlc
    subst hqe
    have hhc : h ≤ cap := by omega
    simp [execOp, hop, hq, e2, Instr.sliceAt, Instr.slice, Instr.sliceBounds, Instr.sliceBound, asIntOf, run_underlying (tyU_sound ht), run_sizeOf' (tyI_sound hi'), hhc]
  cases hv with
  | oslNil _ _ sz2 xs2 ad hH' hβ =>
    obtain rfl : h = 0 := by omega
    refine ⟨_, _, w, β, H, m, hrun ad 0 rfl (Nat.le_refl _), .inl rfl, hs, Fr.refl _ _ _, ?_, List.prefix_refl _⟩
    simp only [V.conv, Ref.conv, hr]
    exact .oslNil r _ sz2 xs2 _ hH' hβ
  | oslBlk _ _ _ _ sz2 xs2 b N ad cap hH' hβ hl hN hcap ha hlen =>
    refine ⟨_, _, w, β, H, m, hrun ad cap rfl hl, .inl rfl, hs, Fr.refl _ _ _, ?_, List.prefix_refl _⟩
    simp only [V.conv, Ref.conv, hr]
    exact .oslBlk r g off h sz2 xs2 b N _ _ hH' hβ (by omega) hN hcap (fun hc => by
      rw [if_neg (by omega), ha hc]
      simp [add_none]) (by omega)
  | oslStale _ _ _ _ g' sz' xs' _ hH' hg =>
    rw [hH] at hH'
    injection hH' with hH'
    injection hH' with hH'
    injection hH' with e0 _ _
    omega
  | oslDead _ _ _ _ _ hd => rw [hH] at hd; cases hd
theorem opTo_cut3 {t e : TypeId} {x hi mx : Operand} {kk kk' : IntKind} {ti : TypeInfo} {kn g off l sz h : Nat} {xs : List V} (hx : opd E x = .osl (.loc kn) g off l) (hh : opd E hi = .int kk h) (hmx : opd E mx = .int kk' h) (ht : tyU c.P t = some (.slice e)) (hi' : tyI c.P e = some ti)
    (hk : T[kn]? = some (some (.vec g sz xs))) (hle : h ≤ l) : OpTo c (.slice t x none (some hi) (some mx)) E T (.osl (.loc kn) g off h) T := by
  intro o hop w β H m a hs
  have hv := opd_rep hs x
  obtain ⟨r, hr, hH⟩ := hs.at hk
  simp only [hx, V.conv, Ref.conv, hr] at hv
  simp only [HObj.conv] at hH
  have e2 := rep_int (m := m) (by have := opd_rep hs hi; rwa [hh] at this)
  have e3 := rep_int (m := m) (by have := opd_rep hs mx; rwa [hmx] at this)
  generalize hq : a.eval x = q at hv
  have hrun : ∀ (ad : Option Addr) (cap : Nat), q = .slice ad l cap → l ≤ cap → (execOp a.eval o).run c.P w = .ok (.value (.slice (if h = 0 then ad else Option.map (fun x => x.add 0) ad) h h)) w := by
    intro ad cap hqe hlc
    subst hqe
    have hhc : h ≤ cap := by omega
    simp [execOp, hop, hq, e2, e3, Instr.sliceAt, Instr.slice, Instr.sliceBounds, Instr.sliceBound, asIntOf, run_underlying (tyU_sound ht), run_sizeOf' (tyI_sound hi'), hhc]
  cases hv with
  | oslNil _ _ sz2 xs2 ad hH' hβ =>
    obtain rfl : h = 0 := by omega
    refine ⟨_, _, w, β, H, m, hrun ad 0 rfl (Nat.le_refl _), .inl rfl, hs, Fr.refl _ _ _, ?_, List.prefix_refl _⟩
    simp only [V.conv, Ref.conv, hr]
    exact .oslNil r _ sz2 xs2 _ hH' hβ
  | oslBlk _ _ _ _ sz2 xs2 b N ad cap hH' hβ hl hN hcap ha hlen =>
    refine ⟨_, _, w, β, H, m, hrun ad cap rfl hl, .inl rfl, hs, Fr.refl _ _ _, ?_, List.prefix_refl _⟩
    simp only [V.conv, Ref.conv, hr]
    exact .oslBlk r g off h sz2 xs2 b N _ _ hH' hβ (Nat.le_refl _) (Nat.le_trans (Nat.mul_le_mul_right _ (by omega)) hN) (by omega) (fun hc => by
      rw [if_neg (by omega), ha (by omega)]
      simp [add_none]) (by omega)
  | oslStale _ _ _ _ g' sz' xs' _ hH' hg =>
    rw [hH] at hH'
    injection hH' with hH'
    injection hH' with hH'
    injection hH' with e0 _ _
    omega
  | oslDead _ _ _ _ _ hd => rw [hH] at hd; cases hd
theorem opTo_cutlo {t e : TypeId} {x lo : Operand} {kk : IntKind} {ti : TypeInfo} {kn g off l sz h : Nat} {xs : List V} (hx : opd E x = .osl (.loc kn) g off l) (hh : opd E lo = .int kk h) (ht : tyU c.P t = some (.slice e)) (hi' : tyI c.P e = some ti) (hsz : ti.size = sz)
    (hk : T[kn]? = some (some (.vec g sz xs))) (hle : h ≤ l) : OpTo c (.slice t x (some lo) none none) E T (.osl (.loc kn) g (off + h) (l - h)) T := by
  intro o hop w β H m a hs
  have hv := opd_rep hs x
  obtain ⟨r, hr, hH⟩ := hs.at hk
  simp only [hx, V.conv, Ref.conv, hr] at hv
  simp only [HObj.conv] at hH
  have e2 := rep_int (m := m) (by have := opd_rep hs lo; rwa [hh] at this)
  have hvec2 : ∀ sz2 xs2, H[r]? = some (some (.vec g sz2 xs2)) → sz2 = sz ∧ xs2 = xs := fun sz2 xs2 h2 => by
    rw [hH] at h2
    injection h2 with h2
    injection h2 with h2
    injection h2 with _ e1 e2
    exact ⟨e1.symm, e2.symm⟩
  generalize hq : a.eval x = q at hv
  have hrun : ∀ (ad : Option Addr) (cap : Nat), q = .slice ad l cap → l ≤ cap → (execOp a.eval o).run c.P w = .ok (.value (.slice (if cap - h = 0 then ad else Option.map (fun x => x.add (h * sz)) ad) (l - h) (cap - h))) w := by
    intro ad cap hqe hlc
    subst hqe
    have hhc : h ≤ cap := by omega
    simp [execOp, hop, hq, e2, Instr.sliceAt, Instr.slice, Instr.sliceBounds, Instr.sliceBound, asIntOf, run_underlying (tyU_sound ht), run_sizeOf' (tyI_sound hi'), hsz, hle]
    by_cases hch : cap = h
    · simp [hch]
    · rw [if_neg hch, if_neg (by omega)]
  cases hv with
  | oslNil _ _ sz2 xs2 ad hH' hβ =>
    obtain ⟨rfl, rfl⟩ := hvec2 _ _ hH'
    obtain rfl : h = 0 := by omega
    refine ⟨_, _, w, β, H, m, hrun ad 0 rfl (Nat.le_refl _), .inl rfl, hs, Fr.refl w β H, ?_, List.prefix_refl _⟩
    simp only [V.conv, Ref.conv, hr]
    exact .oslNil r g sz2 xs2 _ hH hβ
  | oslBlk _ _ _ _ sz2 xs2 b N ad cap hH' hβ hl hN hcap ha hlen =>
    obtain ⟨rfl, rfl⟩ := hvec2 _ _ hH'
    refine ⟨_, _, w, β, H, m, hrun ad cap rfl hl, .inl rfl, hs, Fr.refl w β H, ?_, List.prefix_refl _⟩
    simp only [V.conv, Ref.conv, hr]
    refine .oslBlk r g (off + h) (l - h) sz2 xs2 b N _ _ hH hβ (by omega) (by rw [show off + h + (cap - h) = off + cap by omega]; exact hN) (by omega) (fun hc => ?_) (by omega)
    rw [if_neg (by omega), ha (by omega)]
    simp [Addr.add, Nat.add_mul]
  | oslStale _ _ _ _ g' sz' xs' _ hH' hg =>
    rw [hH] at hH'
    injection hH' with hH'
    injection hH' with hH'
    injection hH' with e0 _ _
    omega
  | oslDead _ _ _ _ _ hd => rw [hH] at hd; cases hd
end
end Bow
/- AE60: own memory, lent to a function that leaves own rows of its own. -/
namespace Bow
open Go
mutual
def V.retB (s : Nat) : V → Bool
  | .osl (.loc _) _ _ _ => true
  | .tup vs => V.retL s vs
  | v => v.apart [s]
def V.retL (s : Nat) : List V → Bool
  | [] => true
  | v :: vs => v.retB s && V.retL s vs
end
def rowsB (s : Nat) : Heap → Bool
  | [] => true
  | some (.vec _ _ xs) :: T => V.apartL [s] xs && rowsB s T
  | _ :: _ => false
theorem rowsB_get {s : Nat} : ∀ {T : Heap}, rowsB s T = true → ∀ (k : Nat) (o : Option HObj), T[k]? = some o → ∃ g sz xs, o = some (.vec g sz xs) ∧ V.apartL [s] xs = true
  | [], _, k, o, h => by simp at h
  | some (.vec g sz xs) :: T, hb, k, o, h => by
    simp only [rowsB, Bool.and_eq_true] at hb
    cases k with
    | zero =>
      simp only [List.getElem?_cons_zero, Option.some.injEq] at h
      exact ⟨g, sz, xs, h.symm, hb.1⟩
    | succ k => exact rowsB_get hb.2 k o (by simpa using h)
  | none :: T, hb, _, _, _ => by simp [rowsB] at hb
  | some (.box _) :: T, hb, _, _, _ => by simp [rowsB] at hb
  | some (.loop ..) :: T, hb, _, _, _ => by simp [rowsB] at hb
  | some .dfr :: T, hb, _, _, _ => by simp [rowsB] at hb
  | some (.held _) :: T, hb, _, _, _ => by simp [rowsB] at hb
mutual
theorem apart_conv {ss : List Nat} (m : List Nat) : ∀ v : V, v.apart ss = true → v.conv m = v
  | .agg cs, h => by
    simp only [V.apart] at h
    rw [V.conv, apartL_conv m cs h]
  | .tup cs, h => by
    simp only [V.apart] at h
    rw [V.conv, apartL_conv m cs h]
  | .iface t v, h => by
    simp only [V.apart] at h
    rw [V.conv, apart_conv m v h]
  | .int .., _ | .bool _, _ | .tt, _ | .ff, _ | .str _, _ | .sl .., _ | .nilsl, _ | .nilp, _ | .nilf, _ | .nili, _ | .nilmap, _ | .undef, _ => rfl
  | .osl .., h | .iptr .., h | .ptr .., h | .eptr .., h | .fn .., h | .yld _, h => by simp [V.apart] at h
theorem apartL_conv {ss : List Nat} (m : List Nat) : ∀ vs : List V, V.apartL ss vs = true → V.convL m vs = vs
  | [], _ => rfl
  | v :: vs, h => by
    simp only [V.apartL, Bool.and_eq_true] at h
    rw [V.convL, apart_conv m v h.1, apartL_conv m vs h.2]
end
theorem Rep.carried {w : World} {β1 β2 : Nat → Loc} {H1 H2 : Heap} {s : Nat} (hf : ∀ b sz, sz ≠ s → freeB β1 H1 b sz → freeB β2 H2 b sz) {v : V} {u : Value} (h : Rep w β1 H1 v u) : v.apart [s] = true → Rep w β2 H2 v u := by
  induction h with
  | int k n => exact fun _ => .int k n
  | bool b => exact fun _ => .bool b
  | tt => exact fun _ => .tt
  | ff => exact fun _ => .ff
  | str s h => exact fun _ => .str s h
  | nilsl => exact fun _ => .nilsl
  | nilp => exact fun _ => .nilp
  | nilf => exact fun _ => .nilf
  | nili => exact fun _ => .nili
  | nilmap => exact fun _ => .nilmap
  | undef v => exact fun _ => .undef v
  | sl sz xs a cap vals hcap hmax hsz ha hr ih =>
    intro hp
    simp only [V.apart, Bool.and_eq_true, Bool.not_eq_true'] at hp
    refine .sl sz xs a cap vals hcap hmax hsz (fun hne => ?_) (fun i x j c h1 h2 => ih i x j c h1 h2 (apart_cells (apartL_get hp.2 x (List.mem_of_getElem? h1)) c (List.mem_of_getElem? h2)))
    obtain ⟨ad, e, h1, h2⟩ := ha hne
    refine ⟨ad, e, hf _ _ (fun e => ?_) h1, h2⟩
    have := hp.1
    rw [e] at this
    simp at this
  | agg cs vs hl h ih =>
    intro hp
    simp only [V.apart] at hp
    exact .agg cs vs hl fun j c v hj hv => ih j c v hj hv (apartL_get hp c (List.mem_of_getElem? hj))
  | tup cs vs hl h ih =>
    intro hp
    simp only [V.apart] at hp
    exact .tup cs vs hl fun j c v hj hv => ih j c v hj hv (apartL_get hp c (List.mem_of_getElem? hj))
  | iface t x v h ih =>
    intro hp
    simp only [V.apart] at hp
    exact .iface t x v (ih hp)
  | _ => intro hp; simp [V.apart] at hp
theorem retL_get {s : Nat} : ∀ {vs : List V}, V.retL s vs = true → ∀ v ∈ vs, v.retB s = true
  | [], _, v, h => by cases h
  | x :: vs, hg, v, h => by
    simp only [V.retL, Bool.and_eq_true] at hg
    rcases List.mem_cons.1 h with rfl | h
    · exact hg.1
    · exact retL_get hg.2 v h
theorem Rep.handed {w : World} {β1 β2 : Nat → Loc} {H1 H2 : Heap} {s n : Nat} {m1 : List Nat} (hf : ∀ b sz, sz ≠ s → freeB β1 H1 b sz → freeB β2 H2 b sz) (hn : ∀ r, n ≤ r → H2[r]? = H1[r]? ∧ β2 r = β1 r) (hm : ∀ r ∈ m1, n ≤ r) :
    ∀ (v : V) {u : Value}, v.retB s = true → Rep w β1 H1 (v.conv m1) u → Rep w β2 H2 (v.conv m1) u := by
  intro v
  induction v using V.rec (motive_2 := fun vs => ∀ v ∈ vs, ∀ {u : Value}, v.retB s = true → Rep w β1 H1 (v.conv m1) u → Rep w β2 H2 (v.conv m1) u) with
  | osl r g off len =>
    intro u hb h
    cases r with
    | loc k =>
      simp only [V.conv, Ref.conv] at h ⊢
      cases e : m1[k]? with
      | none => rw [e] at h; cases h
      | some r =>
        rw [e] at h
        simp only at h ⊢
        obtain ⟨h1, h2⟩ := hn r (hm r (List.mem_of_getElem? e))
        cases h with
        | oslNil _ _ sz2 xs2 ad hH' hβ => exact .oslNil _ _ _ _ _ (h1.trans hH') (h2.trans hβ)
        | oslBlk _ _ _ _ sz2 xs2 b N ad cap hH' hβ hl hN hcap ha hlen => exact .oslBlk _ _ _ _ _ _ _ _ _ _ (h1.trans hH') (h2.trans hβ) hl hN hcap ha hlen
        | oslStale _ _ _ _ g' sz' xs' _ hH' hg hv => exact .oslStale _ _ _ _ _ _ _ _ (h1.trans hH') hg hv
        | oslDead _ _ _ _ _ hd hv => exact .oslDead _ _ _ _ _ (h1.trans hd) hv
    | abs _ => simp [V.retB, V.apart] at hb
    | bad => simp [V.retB, V.apart] at hb
  | tup vs ih =>
    intro u hb h
    simp only [V.retB] at hb
    simp only [V.conv] at h ⊢
    cases h with
    | tup _ us hl h =>
      refine .tup _ us hl fun j c v hj hv => ?_
      have h1 := h j c v hj hv
      rw [convL_get, Option.map_eq_some_iff] at hj
      obtain ⟨c0, hc0, rfl⟩ := hj
      exact ih c0 (List.mem_of_getElem? hc0) (retL_get hb c0 (List.mem_of_getElem? hc0)) h1
  | nil =>
    rename_i v hv u hb h
    cases hv
  | cons v vs ih1 ih2 =>
    rename_i x hx u hb h
    rcases List.mem_cons.1 hx with rfl | hx
    · exact ih1 hb h
    · exact ih2 x hx hb h
  | _ =>
    intro u hb h
    simp only [V.retB] at hb
    rw [apart_conv m1 _ hb] at h ⊢
    exact h.carried hf hb
theorem call_lendF {c : Cx} {g : FuncId} {args args' : List V} {E : Env} {T : Heap} {K : V → St → Prop} {Q : V → Heap → Prop} (s : Nat) (hf : Fun c.P g [] args' Q) (hz : LtL T s args args') (ha' : V.pureL args' = true)
    (hx : ∀ x T', Q x T' → x.retB s = true ∧ rowsB s T' = true) (h : ∀ x T', Q x T' → catC T T' fun T2 => K (x.ren (rangeFrom T.length T'.length)) ⟨E, T2, c.B, c.D⟩) : CallThen c g args E T K := by
  unfold Fun at hf
  unfold CallThen
  refine ⟨hf.1, fun w β H m a vals cs hs hl hr => ?_⟩
  obtain ⟨hzl, hzg⟩ := hz.get
  have hs0 : SRel [] 0 w β (sealH (fun _ => s) H) [] ⟨[], [], fun r => ((sealH (fun _ => s) H)[r]?).getD none, []⟩ bare := by
    refine ⟨hs.hrel.sealed (fun _ => s), rfl, fun k => by simp [lk, V.conv]; exact .undef _, rfl, List.nodup_nil, by simp, rfl, fun r h _ => ?_, fun r h1 => ?_, by simp, by simp, by simp, rfl, by simp⟩
    · simp only
      rw [List.getElem?_eq_getElem h]
      rfl
    · simp only
      rw [List.getElem?_eq_none h1]
      rfl
  obtain ⟨x, T', v, w', β1, H1, m1, fr, hq, k1, k2, k3, k4⟩ := hf.2 w β (sealH (fun _ => s) H) [] _ vals cs hs0 (hzl.symm.trans hl) (fun j y v hj hv => by
    obtain ⟨x0, h1, h2⟩ := hzg j y hj
    have h3 := hr j x0 v h1 hv
    rw [pure_conv _ _ (pureL_mem _ ha' y (List.mem_of_getElem? hj))]
    refine (h2.conv hs.mlen hs.loc).rep hs.hrel (fun q o hq => ?_) h3
    have hq : (H[q]?).join = some o := hq
    cases e : H[q]? with
    | none => rw [e] at hq; cases hq
    | some z =>
      rw [e] at hq
      have hq : z = some o := hq
      rw [hq])
  obtain ⟨hxr, hxT⟩ := hx x T' hq
  have h := h x T' hq
  rw [catC_eq] at h
  have hm1l : m1.length = T'.length := k1.mlen
  have hml : m.length = T.length := hs.mlen
  have hlen : H.length ≤ H1.length := by have := k2.len; rwa [seal_len] at this
  have hseal : ∀ r o, (sealH (fun _ => s) H)[r]? = some (some o) → H1[r]? = some (some o) ∧ β1 r = β r := fun r o ho => by
    obtain ⟨o', _, rfl⟩ := seal_of ho
    have hlt : r < (sealH (fun _ => s) H).length := lt_of_get ho
    have hlt1 : r < H1.length := Nat.lt_of_lt_of_le hlt k2.len
    have hnm : r ∉ m1 := fun hm => by
      obtain ⟨i, hi⟩ := List.getElem?_of_mem hm
      have := k1.own i r (Nat.zero_le _) hi
      simp only at this
      rw [ho] at this
      cases this
    have hH' : H1[r]? = some (some (sealO s o')) := by
      have := k1.base r hlt1 hnm
      simp only at this
      rw [this, ho]
      rfl
    refine ⟨hH', ?_⟩
    obtain ⟨t, e⟩ := sealO_held s o'
    rw [e] at hH'
    exact (k2.seals r t hH').2
  have hfresh : ∀ r ∈ m1, H.length ≤ r := fun r hr => by
    obtain ⟨i, hi⟩ := List.getElem?_of_mem hr
    have hiT : i < T'.length := by have := lt_of_get hi; omega
    obtain ⟨g0, sz0, xs0, ho, _⟩ := rowsB_get hxT i _ (List.getElem?_eq_getElem hiT)
    have hH1 := k1.loc i r _ hi (List.getElem?_eq_getElem hiT)
    rw [ho] at hH1
    have hz := k1.own i r (Nat.zero_le _) hi
    simp only at hz
    rcases Nat.lt_or_ge r H.length with h1 | h1
    · obtain ⟨o1, e1, _⟩ := k2.evo r _ (by rw [seal_len]; exact h1) hH1
      rw [e1] at hz
      cases hz
    · exact h1
  obtain ⟨H', hH'⟩ : ∃ H', H' = H ++ H1.drop H.length := ⟨_, rfl⟩
  obtain ⟨β', hβ'⟩ : ∃ β' : Nat → Loc, β' = fun r => if r < H.length then β r else β1 r := ⟨_, rfl⟩
  have hH'l : H'.length = H1.length := by rw [hH', List.length_append, List.length_drop]; omega
  have hold : ∀ r, r < H.length → H'[r]? = H[r]? ∧ β' r = β r := fun r hr => ⟨by rw [hH', List.getElem?_append_left hr], by rw [hβ']; simp [hr]⟩
  have hnew : ∀ r, H.length ≤ r → H'[r]? = H1[r]? ∧ β' r = β1 r := fun r hr => ⟨by
    rw [hH', List.getElem?_append_right hr, List.getElem?_drop, Nat.add_sub_cancel' hr], by rw [hβ']; simp [Nat.not_lt.2 hr]⟩
  have hfree : ∀ b sz, sz ≠ s → freeB β1 H1 b sz → freeB β' H' b sz := fun b sz hne hfb => by
    refine ⟨?_, fun r t N hr hb => ?_⟩
    · rintro ⟨r, N, ⟨o, ho, hns⟩, hb⟩
      rcases Nat.lt_or_ge r H.length with h1 | h1
      · obtain ⟨e1, e2⟩ := hold r h1
        rw [e1] at ho
        rw [e2] at hb
        obtain ⟨q1, q2⟩ := hseal r (.held s) (by rw [seal_get, ho]; simp [sealO_open hns])
        exact hne (hfb.2 r s N q1 (q2.trans hb)).symm
      · obtain ⟨e1, e2⟩ := hnew r h1
        exact hfb.1 ⟨r, N, ⟨o, by rw [← e1]; exact ho, hns⟩, by rw [← e2]; exact hb⟩
    · rcases Nat.lt_or_ge r H.length with h1 | h1
      · obtain ⟨e1, e2⟩ := hold r h1
        rw [e1] at hr
        rw [e2] at hb
        obtain ⟨q1, q2⟩ := hseal r (.held t) (by rw [seal_get, hr]; rfl)
        exact hfb.2 r t N q1 (q2.trans hb)
      · obtain ⟨e1, e2⟩ := hnew r h1
        exact hfb.2 r t N (by rw [← e1]; exact hr) (by rw [← e2]; exact hb)
  have hkeep : ∀ b, b < w.heap.size → w'.heap[b]? = w.heap[b]? := fun b hb => k2.keep b hb (seal_no b)
  have f : Fr w β H w' β' H' := by
    refine ⟨⟨k2.os, k2.tape, k2.output, k2.size, by omega, fun r o' hr ho' => ?_, fun b hb _ => hkeep b hb, ?_, fun r hr => (hold r hr.lt).2, fun r t ht => ?_⟩, fun r hr hn => by rw [(hold r hr).2]; exact hn⟩
    · rw [(hold r hr).1] at ho'
      exact ⟨o', ho', Evo.refl _, fun _ _ => (hold r hr).2⟩
    · rintro b ⟨r, N, ⟨o, ho, hns⟩, hb⟩
      rcases Nat.lt_or_ge r H.length with h1 | h1
      · obtain ⟨e1, e2⟩ := hold r h1
        exact .inr ⟨r, N, ⟨o, by rw [← e1]; exact ho, hns⟩, by rw [← e2]; exact hb⟩
      · obtain ⟨e1, e2⟩ := hnew r h1
        rcases k2.fresh b ⟨r, N, ⟨o, by rw [← e1]; exact ho, hns⟩, by rw [← e2]; exact hb⟩ with q | q
        · exact .inl q
        · exact absurd q (seal_no b)
    · rcases Nat.lt_or_ge r H.length with h1 | h1
      · obtain ⟨e1, e2⟩ := hold r h1
        exact ⟨by rw [← e1]; exact ht, e2⟩
      · obtain ⟨e1, _⟩ := hnew r h1
        have := (k2.seals r t (by rw [← e1]; exact ht)).1
        have := lt_of_get this
        rw [seal_len] at this
        omega
  have hmk : ∀ (r : Nat) (o : HObj), H.length ≤ r → H1[r]? = some (some o) → ∃ g0 sz0 xs0, o = .vec g0 sz0 xs0 ∧ V.apartL [s] xs0 = true := fun r o hr ho => by
    by_cases hm : r ∈ m1
    · obtain ⟨i, hi⟩ := List.getElem?_of_mem hm
      have hiT : i < T'.length := by have := lt_of_get hi; omega
      obtain ⟨g0, sz0, xs0, h1, h2⟩ := rowsB_get hxT i _ (List.getElem?_eq_getElem hiT)
      have hH1 := k1.loc i r _ hi (List.getElem?_eq_getElem hiT)
      rw [h1, ho] at hH1
      injection hH1 with hH1
      injection hH1 with hH1
      exact ⟨g0, sz0, xs0, hH1, h2⟩
    · have := k1.base r (lt_of_get ho) hm
      simp only at this
      rw [ho, List.getElem?_eq_none (by rw [seal_len]; exact hr)] at this
      cases this
  have hrel : HRel w' β' H' := by
    refine ⟨fun r o ho => ?_, ?_⟩
    · rcases Nat.lt_or_ge r H.length with h1 | h1
      · obtain ⟨e1, e2⟩ := hold r h1
        rw [e1] at ho
        rw [e2]
        have hob := hs.hrel.obj r o ho
        exact hob.mono f.toFr0 fun b N hb => hkeep b (hs.hrel.lt ⟨o, ho⟩ hb)
      · obtain ⟨e1, e2⟩ := hnew r h1
        rw [e1] at ho
        rw [e2]
        obtain ⟨g0, sz0, xs0, rfl, hap⟩ := hmk r o h1 ho
        have hob := k1.hrel.obj r _ ho
        cases hβ : β1 r with
        | none => rw [hβ] at hob; exact hob
        | nil => rw [hβ] at hob; exact hob
        | blk b N =>
          rw [hβ] at hob
          obtain ⟨vs, e, q0, q1, q2, q3, q4, q5, q6⟩ := hob
          exact ⟨vs, e, q0, q1, q2, q3, q4, q5, fun i x j c v hi hj hv => (q6 i x j c v hi hj hv).carried hfree (apart_cells (apartL_get hap x (List.mem_of_getElem? hi)) c (List.mem_of_getElem? hj))⟩
    · have up : ∀ r b N, live H' r → β' r = .blk b N → live H1 r ∧ β1 r = .blk b N := fun r b N hl hb => by
        obtain ⟨o, ho⟩ := hl
        rcases Nat.lt_or_ge r H.length with h1 | h1
        · obtain ⟨e1, e2⟩ := hold r h1
          rw [e1] at ho
          rw [e2] at hb
          obtain ⟨q1, q2⟩ := hseal r (sealO s o) (by rw [seal_get, ho]; rfl)
          exact ⟨⟨_, q1⟩, q2.trans hb⟩
        · obtain ⟨e1, e2⟩ := hnew r h1
          exact ⟨⟨o, by rw [← e1]; exact ho⟩, by rw [← e2]; exact hb⟩
      intro r r' b N N' hl hl' hb hb'
      obtain ⟨p1, p2⟩ := up r b N hl hb
      obtain ⟨p3, p4⟩ := up r' b N' hl' hb'
      exact k1.hrel.inj r r' b N N' p1 p3 p2 p4
  obtain ⟨m', hm'⟩ : ∃ m', m' = m ++ m1 := ⟨_, rfl⟩
  have hsub : Sub (rangeFrom T.length T'.length) m' m1 := by
    refine ⟨by rw [rangeFrom_len]; exact hm1l, fun i k hk => ?_⟩
    have hi := lt_of_get hk
    rw [rangeFrom_len] at hi
    rw [rangeFrom_get _ _ _ hi] at hk
    injection hk with hk
    subst hk
    have e := List.getElem?_eq_getElem (show i < m1.length by omega)
    exact ⟨_, by rw [hm', List.getElem?_append_right (by omega), hml, Nat.add_sub_cancel_left]; exact e, e⟩
  have hext : ∀ u : V, u.sc m.length → u.conv m' = u.conv m := fun u hu => by rw [hm']; exact V.conv_ext (Nat.le_refl _) u hu
  refine ⟨_, _, v, w', β', H', m', fr, h, ?_, f, ?_, k4.1, k4.2.1, k4.2.2, by rw [hm']; exact List.prefix_append _ _⟩
  · refine ⟨hrel, hs.size, fun k => ?_, by rw [hm']; simp [hml, hm1l], ?_, fun k r o hk ho' => ?_, ?_, fun r hr hn => ?_, fun r hr => hs.fut r (by omega), fun k r hk hm => ?_, fun p hp => ?_, fun k o ho' => ?_, hs.defs, fun j k hj => ?_⟩
    · simp only
      rw [hext _ (by have := lk_sc E k hs.scE; rwa [hml])]
      exact (hs.env k).mono f
    · rw [hm']
      refine List.nodup_append.2 ⟨hs.nodup, k1.nodup, fun a ha b hb e => ?_⟩
      subst e
      obtain ⟨j, hj⟩ := List.getElem?_of_mem ha
      have := hs.lt hj
      have := hfresh _ hb
      omega
    · simp only at ho'
      rw [hm'] at hk
      rcases Nat.lt_or_ge k m.length with h1 | h1
      · rw [List.getElem?_append_left h1] at hk
        rw [List.getElem?_append_left (by omega)] at ho'
        rw [(hold r (hs.lt hk)).1, hs.loc k r o hk ho']
        cases o with
        | none => rfl
        | some o =>
          simp only [Option.map_some, Option.some.injEq]
          have := hs.scT k o ho'
          rw [hm']
          exact (HObj.conv_ext (Nat.le_refl _) o (by rw [hml]; exact this)).symm
      · rw [List.getElem?_append_right h1] at hk
        rw [List.getElem?_append_right (by omega), ← hml] at ho'
        have hr := hfresh r (List.mem_of_getElem? hk)
        rw [(hnew r hr).1, k1.loc _ r o hk ho']
        obtain ⟨g0, sz0, xs0, rfl, _⟩ := rowsB_get hxT _ _ ho'
        rfl
    · have := hs.imp
      rw [hm', List.take_append_of_le_length]
      · exact this
      · have := congrArg List.length this
        simp at this
        omega
    · simp only
      have hrm : r ∉ m := fun hm => hn (by rw [hm']; exact List.mem_append_left _ hm)
      have hr1 : r ∉ m1 := fun hm => hn (by rw [hm']; exact List.mem_append_right _ hm)
      rcases Nat.lt_or_ge r H.length with h1 | h1
      · rw [(hold r h1).1]
        exact hs.base r h1 hrm
      · rw [(hnew r h1).1, k1.base r (by omega) hr1]
        have e0 : c.B r = none := hs.fut r h1
        simp only
        rw [List.getElem?_eq_none (by rw [seal_len]; exact h1), e0]
        rfl
    · rw [hm'] at hm
      rcases Nat.lt_or_ge k m.length with h1 | h1
      · rw [List.getElem?_append_left h1] at hm
        exact hs.own k r hk hm
      · rw [List.getElem?_append_right h1] at hm
        exact hs.fut r (hfresh r (List.mem_of_getElem? hm))
    · simp only
      rw [List.length_append]
      exact V.sc_mono (n := T.length) (by omega) _ (hs.scE p hp)
    · simp only at ho' ⊢
      rw [List.length_append]
      rcases Nat.lt_or_ge k T.length with h1 | h1
      · rw [List.getElem?_append_left h1] at ho'
        exact HObj.sc_mono (n := T.length) (by omega) _ (hs.scT k o ho')
      · rw [List.getElem?_append_right h1] at ho'
        obtain ⟨g0, sz0, xs0, e, _⟩ := rowsB_get hxT _ _ ho'
        injection e with e
        subst e
        trivial
    · obtain ⟨r', b, N, h1, h2, h3, h4⟩ := hs.marks j k hj
      refine ⟨r', b, N, by rw [hm', List.getElem?_append_left (lt_of_get h1)]; exact h1, ?_, by rw [(hold r' (hs.lt h1)).2]; exact h3, h4⟩
      simp only at h2 ⊢
      rw [List.getElem?_append_left (lt_of_get h2)]
      exact h2
  · rw [V.ren_conv hsub x (by rw [rangeFrom_len, ← hm1l]; exact sc_of_rep x k3)]
    exact Rep.handed hfree hnew hfresh x hxr k3
end Bow
/- AE61: regions that draw their order, with operations whose facts are shown by hand: calls that write, calls that are lent own memory. -/
namespace Bow
open Go
section
variable {c : Cx} {ops : Array Oper} {i : Nat} {o : Oper} {E : Env} {T : Heap} {gs : List Tmp}
theorem fact_to {tc : List Nat} {x : V} {eff : List (Nat × Option HObj)} (ho : ops[i]? = some o) (hg : Guarded ops o E gs true) (hnd : ∀ cl, o.op ≠ .defer cl)
    (h : ∀ E' T', (∀ z ∈ o.op.operands.toList, opd E' z = opd E z) → T'.length = T.length → (∀ k ∈ tc, T'[k]? = T[k]?) → OpTo c o.op E' T' x (app T' eff)) : Fact c ops i E T ⟨o.dst, gs ++ tmpsOf o.op.operands.toList, tc, x, eff, none⟩ := by
  intro E' T' e1 e2 e3 w β H m a b cs rest k hs k1 k2 _
  have hto := h E' T' (opd_agree fun t ht => e2 t (List.mem_append_right _ ht)) e1 e3
  obtain ⟨nx, v, w', β', H', m', hrun, hnx, g1, g2, g3, g4⟩ := hto o rfl w β H m a hs
  have hmm : m = m' := g4.eq_of_length (by
    have a1 := hs.mlen
    have a2 := g1.mlen
    simp only [app_length] at a1 a2
    rw [a1, a2])
  subst hmm
  exact ⟨v, w', β', H', op_step ho (hg.wanted (fun t ht => e2 t (List.mem_append_left _ ht)) hs) hnd hrun hnx, g1, g2.toFr0, fun q hq hn _ => g2.virt q hq hn, g3⟩
theorem fact_call_then {f : Operand} {args : Array Operand} {ts : Array TypeId} {g : FuncId} {first cap : List V} {tc : List Nat} {x : V} {eff : List (Nat × Option HObj)} (ho : ops[i]? = some o) (hg : Guarded ops o E gs true)
    (hop : o.op = .call { callee := .value f, args := args, argTypes := ts }) (hf : opd E f = .fn (.func g) first cap)
    (h : ∀ E' T', T'.length = T.length → (∀ k ∈ tc, T'[k]? = T[k]?) → CallThen c g (first ++ args.toList.map (opd E) ++ cap) E' T' (fun y s' => y = x ∧ s' = ⟨E', app T' eff, c.B, c.D⟩)) : Fact c ops i E T ⟨o.dst, gs ++ tmpsOf o.op.operands.toList, tc, x, eff, none⟩ := by
  intro E' T' e1 e2 e3 w β H m a b cs rest k hs k1 k2 _
  have hag := opd_agree (E := E) (E' := E') (xs := o.op.operands.toList) fun t ht => e2 t (List.mem_append_right _ ht)
  rw [hop] at hag
  have hf' : opd E' f = .fn (.func g) first cap := by rw [hag f (by simp [Op.operands, Call.operands])]; exact hf
  have ha' : args.toList.map (opd E') = args.toList.map (opd E) := List.map_congr_left fun z hz => hag z (by simp [Op.operands, Call.operands]; exact .inr (by simpa using hz))
  obtain ⟨va, vc, hq, hl, hr⟩ := fn_rep hs hf' args
  rw [ha'] at hl hr
  have hc := h E' T' e1 e3
  unfold CallThen at hc
  obtain ⟨hen, hc⟩ := hc
  obtain ⟨y, s', v, w', β', H', m', fr, ⟨rfl, rfl⟩, g1, g2, g3, g4, g5, g6, g7⟩ := hc w β H m a _ (b.atR a (.inRegion ops (i :: rest) :: k) :: cs) hs hl hr
  have hmm : m = m' := g7.eq_of_length (by
    have a1 := hs.mlen
    have a2 := g1.mlen
    simp only [app_length] at a1 a2
    rw [a1, a2])
  subst hmm
  exact ⟨v, w', β', H', call_steps ho (hg.wanted (fun t ht => e2 t (List.mem_append_left _ ht)) hs) hop hq hen g4 g6, g1, g2.toFr0, fun q hq hn _ => g2.virt q hq hn, g3⟩
theorem fact_call_thenMake {f : Operand} {args : Array Operand} {ts : Array TypeId} {g : FuncId} {first cap : List V} {tc : List Nat} {p sz : Nat} {xs : List V} (ho : ops[i]? = some o) (hg : Guarded ops o E gs true)
    (hop : o.op = .call { callee := .value f, args := args, argTypes := ts }) (hf : opd E f = .fn (.func g) first cap) (hd : T[p]? = some (some (.vec 0 0 [])))
    (h : ∀ E' T', T'.length = T.length → (∀ k ∈ tc, T'[k]? = T[k]?) → CallThen c g (first ++ args.toList.map (opd E) ++ cap) E' T' (fun y s' => ∃ g0, y = .osl (.loc T'.length) g0 0 xs.length ∧ s' = ⟨E', T' ++ [some (.vec g0 sz xs)], c.B, c.D⟩)) :
    Fact c ops i E T ⟨o.dst, gs ++ tmpsOf o.op.operands.toList, tc, .osl (.loc p) 2 0 xs.length, [(p, some (.vec 2 sz xs))], some p⟩ := by
  intro E' T' e1 e2 e3 w β H m a b cs rest k hs b1 b2 b4
  obtain ⟨q, q1, q2, q3⟩ := b4 p rfl
  have hag := opd_agree (E := E) (E' := E') (xs := o.op.operands.toList) fun t ht => e2 t (List.mem_append_right _ ht)
  rw [hop] at hag
  have hf' : opd E' f = .fn (.func g) first cap := by rw [hag f (by simp [Op.operands, Call.operands])]; exact hf
  have ha' : args.toList.map (opd E') = args.toList.map (opd E) := List.map_congr_left fun z hz => hag z (by simp [Op.operands, Call.operands]; exact .inr (by simpa using hz))
  obtain ⟨va, vc, hq, hl, hr⟩ := fn_rep hs hf' args
  rw [ha'] at hl hr
  have hc := h E' T' e1 e3
  unfold CallThen at hc
  obtain ⟨hen, hc⟩ := hc
  obtain ⟨y, s', v, w', β', H', m', fr, ⟨g0, rfl, rfl⟩, k1, k2, k3, k4, k5, k6, k7⟩ := hc w β H m a _ (b.atR a (.inRegion ops (i :: rest) :: k) :: cs) hs hl hr
  have hml : m.length = T'.length := hs.mlen
  have hm'l : m'.length = T'.length + 1 := by have := k1.mlen; simpa using this
  obtain ⟨r', rfl⟩ : ∃ r', m' = m ++ [r'] := by
    obtain ⟨l, rfl⟩ := k7
    have : l.length = 1 := by rw [List.length_append] at hm'l; omega
    match l, this with
    | [r'], _ => exact ⟨r', rfl⟩
  have hmr : (m ++ [r'])[T'.length]? = some r' := by rw [List.getElem?_append_right (by omega), hml, Nat.sub_self]; rfl
  have hmm : ∀ (j r : Nat), m[j]? = some r → (m ++ [r'])[j]? = some r := fun j r hj => by rw [List.getElem?_append_left (lt_of_get hj)]; exact hj
  have hTT : ∀ j, j < T'.length → (T' ++ [some (.vec g0 sz xs)])[j]? = T'[j]? := fun j hj => List.getElem?_append_left hj
  have hr' : H'[r']? = some (some (.vec g0 sz xs)) := k1.loc T'.length r' (some (.vec g0 sz xs)) hmr (by simp)
  have hr'l := lt_of_get hr'
  have hql := hs.lt q1
  have hpT : p < T'.length := by have := lt_of_get q1; omega
  have hT'p : T'[p]? = some (some (.vec 0 0 [])) := q3.trans hd
  have hH'q : H'[q]? = some (some (.vec 0 0 [])) := k1.loc p q (some (.vec 0 0 [])) (hmm p q q1) (by rw [hTT p hpT]; exact hT'p)
  have hqr : q ≠ r' := fun e => by
    have := k1.inj (hmm p q q1) (by rw [e]; exact hmr)
    omega
  have hlen : H.length ≤ H'.length := k2.len
  have hβ'q : β' q = .none := k2.virt q hql q2
  have hob := k1.hrel.obj r' _ hr'
  obtain ⟨H2, hH2⟩ : ∃ H2 : Heap, H2 = (H'.set r' none).set q (some (.vec 2 sz xs)) := ⟨_, rfl⟩
  obtain ⟨β2, hβ2⟩ : ∃ β2 : Nat → Loc, β2 = upd β' q (β' r') := ⟨_, rfl⟩
  have hβq : β2 q = β' r' := by rw [hβ2]; exact upd_same _ _ _
  have hβn : ∀ r, r ≠ q → β2 r = β' r := fun r hr => by rw [hβ2]; exact upd_ne hr
  have hH2l : H2.length = H'.length := by rw [hH2]; simp
  have hH2q : H2[q]? = some (some (.vec 2 sz xs)) := by rw [hH2]; exact List.getElem?_set_self (by simp; omega)
  have hH2r : H2[r']? = some none := by rw [hH2, List.getElem?_set_ne hqr, List.getElem?_set_self hr'l]
  have hH2n : ∀ r, r ≠ q → r ≠ r' → H2[r]? = H'[r]? := fun r h1 h2 => by rw [hH2, List.getElem?_set_ne (fun e => h1 e.symm), List.getElem?_set_ne (fun e => h2 e.symm)]
  have hcase : ∀ (r : Nat) (o : HObj), H2[r]? = some (some o) → (r = q ∧ o = .vec 2 sz xs) ∨ (r ≠ q ∧ r ≠ r' ∧ H'[r]? = some (some o)) := fun r o hr => by
    by_cases h1 : r = q
    · subst h1
      rw [hH2q] at hr
      injection hr with hr
      injection hr with hr
      exact .inl ⟨rfl, hr.symm⟩
    · by_cases h2 : r = r'
      · subst h2
        rw [hH2r] at hr
        cases hr
      · rw [hH2n r h1 h2] at hr
        exact .inr ⟨h1, h2, hr⟩
  have f : Fr0 w' β' H' w' β2 H2 := by
    refine ⟨rfl, rfl, rfl, Nat.le_refl _, by rw [hH2l]; exact Nat.le_refl _, ?_, fun _ _ _ => rfl, ?_, fun r hr => hβn r (hr.ne hH'q (fun h => h)), fun r s hs => ?_⟩
    · intro r o' _ ho'
      rcases hcase r o' ho' with ⟨rfl, rfl⟩ | ⟨h1, _, h3⟩
      · exact ⟨_, hH'q, ⟨Nat.zero_le _, fun e => by omega⟩, fun hn => absurd hβ'q hn⟩
      · exact ⟨o', h3, Evo.refl _, fun _ _ => hβn r h1⟩
    · rintro bb ⟨r, M, ⟨o', hl', hln⟩, hb⟩
      rcases hcase r o' hl' with ⟨rfl, _⟩ | ⟨h1, _, h3⟩
      · rw [hβq] at hb
        exact .inr ⟨r', M, ⟨_, hr', fun h => h⟩, hb⟩
      · rw [hβn r h1] at hb
        exact .inr ⟨r, M, ⟨_, h3, hln⟩, hb⟩
    · rcases hcase r _ hs with ⟨_, h2⟩ | ⟨h1, _, h3⟩
      · cases h2
      · exact ⟨h3, hβn r h1⟩
  have hrel : HRel w' β2 H2 := by
    refine k1.hrel.step0 f ?_ ?_
    · intro r o' ho'
      rcases hcase r o' ho' with ⟨rfl, rfl⟩ | ⟨h1, _, h3⟩
      · refine .inr ?_
        rw [hβq]
        cases hb : β' r' with
        | none => rw [hb] at hob; exact hob
        | nil => rw [hb] at hob; exact hob
        | blk bb N =>
          rw [hb] at hob
          obtain ⟨vs, e, _, c2, c3, c4, c5, c6, c7⟩ := hob
          exact ⟨vs, e, tyG_two _, c2, c3, c4, c5, c6, fun i x j c v h1 h2 h3 => (c7 i x j c v h1 h2 h3).mono0 f⟩
      · exact .inl ⟨h3, hβn r h1, fun _ _ _ => rfl⟩
    · rintro r s bb M M' ⟨o1, h1⟩ ⟨o2, h2⟩ hb hb'
      rcases hcase r o1 h1 with ⟨rfl, _⟩ | ⟨n1, n2, l1⟩
      · rcases hcase s o2 h2 with ⟨rfl, _⟩ | ⟨n3, n4, l2⟩
        · rfl
        · rw [hβq] at hb
          rw [hβn s n3] at hb'
          exact absurd (k1.hrel.inj r' s bb M M' ⟨_, hr'⟩ ⟨_, l2⟩ hb hb').symm n4
      · rcases hcase s o2 h2 with ⟨rfl, _⟩ | ⟨n3, n4, l2⟩
        · rw [hβq] at hb'
          rw [hβn r n1] at hb
          exact absurd (k1.hrel.inj r r' bb M M' ⟨_, l1⟩ ⟨_, hr'⟩ hb hb') n2
        · rw [hβn r n1] at hb
          rw [hβn s n3] at hb'
          exact k1.hrel.inj r s bb M M' ⟨_, l1⟩ ⟨_, l2⟩ hb hb'
  have ft : Fr0 w β H w' β2 H2 := k2.toFr0.trans f
  have hnr : ∀ (j r : Nat), m[j]? = some r → r ≠ r' := fun j r hj e => by
    have := k1.inj (hmm j r hj) (by rw [e]; exact hmr)
    have := lt_of_get hj
    omega
  have himp : c.imps.length ≤ m.length := by
    have := congrArg List.length hs.imp
    simp at this
    omega
  have hsr : SRel c.imps c.nt w' β2 H2 m ⟨E', T'.set p (some (.vec 2 sz xs)), c.B, c.D⟩ a := by
    refine ⟨hrel, hs.size, fun k => (hs.env k).mono0 ft, by simpa using hml, hs.nodup, fun j r ob hj hob' => ?_, hs.imp, fun r hr hm => ?_, fun r hr => k1.fut r (by omega), hs.own, fun p hp => by simpa using hs.scE p hp, fun j ob hob' => ?_, hs.defs, fun j n hj => ?_⟩
    · by_cases hjp : j = p
      · subst hjp
        rw [q1] at hj
        injection hj with hj
        subst hj
        simp only at hob'
        rw [List.getElem?_set_self hpT] at hob'
        injection hob' with hob'
        subst hob'
        exact hH2q
      · simp only at hob'
        rw [List.getElem?_set_ne (fun e => hjp e.symm)] at hob'
        have hrq : r ≠ q := fun e => hjp (hs.inj hj (e ▸ q1))
        rw [hH2n r hrq (hnr j r hj), k1.loc j r ob (hmm j r hj) (by rw [hTT j (lt_of_get hob')]; exact hob')]
        cases ob with
        | none => rfl
        | some ob =>
          simp only [Option.map_some, Option.some.injEq]
          exact HObj.conv_ext (Nat.le_refl _) ob (by rw [hml]; exact hs.scT j ob hob')
    · have hrq : r ≠ q := fun e => hm (e ▸ List.mem_of_getElem? q1)
      by_cases hrr : r = r'
      · subst hrr
        have : c.B r = none := k1.own T'.length r (by omega) hmr
        simp only
        rw [hH2r, this]
      · rw [hH2n r hrq hrr]
        exact k1.base r (by omega) (fun hmm' => by
          rcases List.mem_append.1 hmm' with h1 | h1
          · exact hm h1
          · exact hrr (List.mem_singleton.1 h1))
    · simp only [List.length_set] at hob' ⊢
      by_cases hjp : j = p
      · subst hjp
        rw [List.getElem?_set_self hpT] at hob'
        injection hob' with hob'
        injection hob' with hob'
        subst hob'
        trivial
      · rw [List.getElem?_set_ne (fun e => hjp e.symm)] at hob'
        exact hs.scT j ob hob'
    · obtain ⟨r, b', N', d1, d2, d3, d4⟩ := k1.marks j n hj
      simp only at d2
      have hnT : n < T'.length := by
        have := lt_of_get d2
        simp at this
        rcases Nat.lt_or_ge n T'.length with h1 | h1
        · exact h1
        · have : n = T'.length := by omega
          subst this
          simp at d2
      rw [hTT n hnT] at d2
      rw [List.getElem?_append_left (by omega)] at d1
      have hnp : n ≠ p := fun e => by
        subst e
        rw [hT'p] at d2
        cases d2
      have hrq : r ≠ q := fun e => hnp (hs.inj d1 (e ▸ q1))
      refine ⟨r, b', N', d1, by simp only; rw [List.getElem?_set_ne (fun e => hnp e.symm)]; exact d2, ?_, d4⟩
      rw [hβn r hrq]
      exact d3
  refine ⟨v, w', β2, H2, call_steps ho (hg.wanted (fun t ht => e2 t (List.mem_append_left _ ht)) hs) hop hq hen k4 k6, hsr, ft, fun s hsl hn hne => ?_, ?_⟩
  · have hsq : s ≠ q := fun e => hne p rfl (e ▸ q1)
    rw [hβn s hsq]
    exact k2.virt s hsl hn
  · simp only [V.conv, Ref.conv, q1]
    simp only [V.conv, Ref.conv, hmr] at k3
    have hv : ∀ g2 sz2 xs2, H'[r']? = some (some (.vec g2 sz2 xs2)) → g2 = g0 ∧ sz2 = sz ∧ xs2 = xs := fun g2 sz2 xs2 h2 => by
      rw [hr'] at h2
      injection h2 with h2
      injection h2 with h2
      injection h2 with e0 e1 e2
      exact ⟨e0.symm, e1.symm, e2.symm⟩
    generalize hn : xs.length = n at k3
    cases k3 with
    | oslNil _ _ sz2 xs2 ad hH' hβ =>
      exact .oslNil q 2 sz xs ad hH2q (hβq.trans hβ)
    | oslBlk _ _ _ _ sz2 xs2 bb N ad cap' hH' hβ hl' hN hcap ha hlen' =>
      obtain ⟨_, rfl, rfl⟩ := hv _ _ _ hH'
      exact .oslBlk q 2 0 n sz2 xs2 bb N ad cap' hH2q (hβq.trans hβ) hl' hN hcap ha hlen'
    | oslStale _ _ _ _ g' sz' xs' _ hH' hg' =>
      obtain ⟨e, _, _⟩ := hv _ _ _ hH'
      omega
    | oslDead _ _ _ _ _ hd' => rw [hr'] at hd'; cases hd'
end
def spK : List (Nat × Bool) → Nat → Option Bool
  | [], _ => none
  | (j, b) :: l, i => bif Nat.beq j i then some b else spK l i
def spM (sp : List (Nat × Bool)) (i : Nat) (o : Op) : Bool := makesS o || (match spK sp i with | some b => b | none => false)
def evdX (sp : List (Nat × Bool)) (c : Cx) (A : Array Oper) (gt : List Tmp) : List Oper → Nat → Nat → Env → Heap → (Env → Heap → List Sig → Prop) → Prop
  | [], _, _, E, T, K => K E T []
  | o :: os, i, p, E, T, K =>
    let next (x : V) (T' : Heap) (g touch keys : List Nat) : Prop := bif spM sp i o.op then putR c.nt gt o.dst x E fun E' => evdX sp c A gt os (i + 1) (p + 1) E' T' fun En Tn ss => K En Tn (⟨o.dst, g, touch, keys⟩ :: ss) else putR c.nt gt o.dst x E fun E' => evdX sp c A gt os (i + 1) p E' T' fun En Tn ss => K En Tn (⟨o.dst, g, touch, keys⟩ :: ss)
    gK A.toList o E (fun g => next (.tup []) T g [] []) fun g =>
      lfix (g ++ tmpsOf o.op.operands.toList) fun g =>
      match spK sp i with
      | some b => ∃ (tc : List Nat) (x : V) (eff : List (Nat × Option HObj)), (∀ gs, Guarded A o E gs true → Fact c A i E T ⟨o.dst, gs ++ tmpsOf o.op.operands.toList, tc, x, eff, bif b then some p else none⟩) ∧ (bif b then memB tc p = true ∧ p < T.length else True) ∧ lfix (keysOf eff) fun ks => appC T eff fun T' => next x T' g tc ks
      | none =>
      bif makes E o.op then evMk c o.op E T p fun x ob kills tc => lfix tc fun tc => lfix (keysOf kills) fun ks => appC T (kills ++ [(p, some ob)]) fun T' => next x T' g (p :: tc) (p :: ks)
      else match o.op with
        | .call { callee := .value f, args, .. } => match opd E f with
          | .fn (.func h) first cap => opds E args.toList fun vs => frzAll (first ++ vs ++ cap) T False fun ws _ => lfix (keysOf (killsOf (first ++ vs ++ cap))) fun ks =>
            ∃ x, Pure c.P h ws (fun y => y = x) ∧ V.pureL ws = true ∧ bif flatB x then next x T g ks [] else appC T (killsOf (first ++ vs ++ cap)) fun T' => next x T' g ks ks
          | _ => False
        | op => evOp c op E T False fun x T' => lfix (touch E op) fun tc => lfix (wr E op) fun ks => next x T' g tc ks
theorem memB_mem : ∀ {l : List Nat} {n : Nat}, memB l n = true → n ∈ l
  | [], n, h => by cases h
  | x :: l, n, h => by
    rw [memB] at h
    cases hb : Nat.beq x n with
    | true => rw [Nat.eq_of_beq_eq_true hb]; exact List.mem_cons_self
    | false => rw [hb] at h; exact List.mem_cons_of_mem _ (memB_mem h)
theorem evdX_sound {sp : List (Nat × Bool)} {c : Cx} {ops : Array Oper} {gt : List Tmp} : ∀ (os : List Oper) (i p : Nat) (E : Env) (T : Heap) (K : Env → Heap → List Sig → Prop), evdX sp c ops gt os i p E T K → (∀ k, os[k]? = ops[i + k]?) → i + os.length = ops.size →
    ∃ rs ss En Tn, RunP c ops i p E T rs ss En Tn ∧ K En Tn ss
  | [], i, p, E, T, K, h, _, hi => ⟨[], [], E, T, ⟨by simpa using hi, rfl, rfl⟩, h⟩
  | o :: os, i, p, E, T, K, h, hos, hi => by
    unfold evdX at h
    extract_lets next at h
    have ho : ops[i]? = some o := by have := hos 0; simpa using this.symm
    have hos' : ∀ k, os[k]? = ops[i + 1 + k]? := fun k => by have := hos (k + 1); rw [List.getElem?_cons_succ] at this; rw [this, sa]
    have hi' : i + 1 + os.length = ops.size := by simp at hi; omega
    have hlt : i < ops.size := by simp at hi; omega
    have go : ∀ (r : Rec) (g tc ks : List Nat), Fact c ops i E T r → r.dst = o.dst → next r.x (app T r.eff) g tc ks → (∀ t ∈ r.reads, t ∈ g) → (∀ k ∈ r.touch, k ∈ tc) → (∀ k ∈ keysOf r.eff, k ∈ ks) →
        (∀ q, r.virt = some q → q = p ∧ p ∈ tc ∧ p < T.length ∧ spM sp i o.op = true) → ∃ rs ss En Tn, RunP c ops i p E T rs ss En Tn ∧ K En Tn ss := by
      intro r g tc ks hf hd hn h1 h2 h3 h4
      have hn : putR c.nt gt o.dst r.x E fun E' => evdX sp c ops gt os (i + 1) (bif spM sp i o.op then p + 1 else p) E' (app T r.eff) fun En Tn ss => K En Tn (⟨o.dst, g, tc, ks⟩ :: ss) := by
        have h0 := hn
        simp only [next] at h0
        cases hm : spM sp i o.op <;> (rw [hm] at h0; exact h0)
      obtain ⟨x', hk, hdst, hx⟩ := putR_sound hn
      obtain ⟨rs, ss, En, Tn, k1, k2⟩ := evdX_sound os (i + 1) _ _ _ _ hk hos' hi'
      refine ⟨{ r with x := x' } :: rs, ⟨o.dst, g, tc, ks⟩ :: ss, En, Tn, ⟨hf.put hx, by rw [hd]; exact hdst, ⟨hd.symm, h1, h2, h3, fun q hq => ?_⟩, hlt, (bif spM sp i o.op then p + 1 else p), ?_, ?_, ?_⟩, k2⟩
      · obtain ⟨e, hp, _⟩ := h4 q hq
        rw [e]
        exact hp
      · cases spM sp i o.op <;> simp
      · intro q hq
        obtain ⟨e, _, hp, hm⟩ := h4 q hq
        rw [hm]
        exact ⟨e, Nat.le_refl _, hp⟩
      · rw [hd]
        exact k1
    rcases gK_sound h with ⟨gs, hg, h⟩ | ⟨gs, hg, h⟩
    · exact go _ gs [] [] (fact_skip ho hg) rfl h (fun t ht => ht) (fun k hk => hk) (fun k hk => hk) (fun q hq => by cases hq)
    · rw [lfix_eq] at h
      cases hsp : spK sp i with
      | some b =>
        simp only [hsp] at h
        obtain ⟨tc, x, eff, hf, hb, hk⟩ := h
        rw [lfix_eq, appC_eq] at hk
        refine go _ _ _ _ (hf gs hg) rfl hk (fun t ht => ht) (fun k hk => hk) (fun k hk => hk) (fun q hq => ?_)
        cases b with
        | false => cases hq
        | true =>
          simp only [cond_true] at hb hq
          injection hq with hq
          subst hq
          exact ⟨rfl, memB_mem hb.1, hb.2, by unfold spM; rw [hsp]; simp⟩
      | none =>
      simp only [hsp] at h
      cases hm : makes E o.op with
      | true =>
        rw [hm] at h
        simp only [cond_true] at h
        obtain ⟨x, ob, kills, tc, hk, hf, hp⟩ := fact_mk (gs := gs) ho hg h
        rw [lfix_eq, lfix_eq, appC_eq] at hk
        refine go _ _ _ _ hf rfl hk (fun t ht => ht) (fun k hk => List.mem_cons_of_mem _ hk) (fun k hk => ?_) (fun q hq => ?_)
        · rw [keysOf_append] at hk
          rcases List.mem_append.1 hk with h | h
          · exact List.mem_cons_of_mem _ h
          · simp only [keysOf, List.mem_singleton] at h
            rw [h]
            exact List.mem_cons_self
        · injection hq with hq
          subst hq
          exact ⟨rfl, List.mem_cons_self, hp, by unfold spM; rw [makes_S hm]; rfl⟩
      | false =>
        rw [hm] at h
        simp only [cond_false] at h
        split at h
        · rename_i f args ts hop
          split at h
          · rename_i h' first cap hfv
            rw [opds_eq] at h
            rcases frzAll_det (F := False) _ T _ h with h | ⟨ws, h, hdet⟩
            · exact h.elim
            rw [lfix_eq] at h
            obtain ⟨x, hpu, hpl, hk⟩ := h
            cases hx : flatB x with
            | true =>
              rw [hx] at hk
              exact go _ _ _ _ (fact_call_flat ho hg hop hfv hpl hx hdet hpu) rfl hk (fun t ht => ht) (fun k hk => hk) (fun k hk => by cases hk) (fun q hq => by cases hq)
            | false =>
              rw [hx] at hk
              simp only [cond_false] at hk
              rw [appC_eq] at hk
              exact go _ _ _ _ (fact_call_frz ho hg hop hfv hpl hdet hpu) rfl hk (fun t ht => ht) (fun k hk => hk) (fun k hk => hk) (fun q hq => by cases hq)
          · exact h.elim
        · rcases fact_op ho hg hm h with h | ⟨x, eff, hk, hf, hw⟩
          · exact h.elim
          rw [lfix_eq, lfix_eq] at hk
          refine go _ _ _ _ hf rfl hk (fun t ht => ht) (fun k hk => hk) (fun k hk => ?_) (fun q hq => by cases hq)
          have : ∀ (es : List (Nat × Option HObj)), k ∈ keysOf es → ∃ e ∈ es, e.1 = k := by
            intro es
            induction es with
            | nil => intro h; cases h
            | cons e es ih =>
              intro h
              rcases List.mem_cons.1 h with rfl | h
              · exact ⟨e, List.mem_cons_self, rfl⟩
              · obtain ⟨e', h1, h2⟩ := ih h
                exact ⟨e', List.mem_cons_of_mem _ h1, h2⟩
          obtain ⟨e, he, rfl⟩ := this eff hk
          exact hw e he
def dumsX (sp : List (Nat × Bool)) : Nat → List Oper → Heap
  | _, [] => []
  | i, o :: os => bif spM sp i o.op then some (dummyOf o.op) :: dumsX sp (i + 1) os else dumsX sp (i + 1) os
theorem dumsX_mem (sp : List (Nat × Bool)) : ∀ (os : List Oper) (i : Nat) (x : Option HObj), x ∈ dumsX sp i os → ∃ d, x = some d ∧ (d = .box [] ∨ d = .vec 0 0 [])
  | [], _, x, h => by cases h
  | o :: os, i, x, h => by
    rw [dumsX] at h
    cases hb : spM sp i o.op with
    | false => rw [hb] at h; exact dumsX_mem sp os _ x h
    | true =>
      rw [hb] at h
      rcases List.mem_cons.1 h with rfl | h
      · refine ⟨_, rfl, ?_⟩
        unfold dummyOf
        split <;> simp
      · exact dumsX_mem sp os _ x h
theorem goes_draw_ofX (sp : List (Nat × Bool)) {c : Cx} {ops : Array Oper} {id : Nat} {k : List Item} {E : Env} {T : Heap} {rs : List Rec} {ss : List Sig} {En : Env} {Tn : Heap} (h : RunP c ops 0 T.length E (T ++ dumsX sp 0 ops.toList) rs ss En Tn) (hc : chk ops.toList ss 0 [] [] = true) (hk : Goes c k En Tn) : Goes c (.code (.region id ops true) :: k) E T := by
  obtain ⟨hG, rfl, rfl, hp⟩ := good_of_run h
  refine goes_step fun w β H m a b cs hs h1 h2 h3 => ?_
  have hsched : ∃ md t, Region.schedule (c.P.follows .mixedOrders) ops (w.tape w.drawn (.order b.fn id)) = Region.linearise md ops t := by
    unfold Region.schedule
    split
    · exact ⟨_, _, rfl⟩
    · exact ⟨_, _, rfl⟩
  obtain ⟨md, t, hmd⟩ := hsched
  have hf0 : Fr w β H { w with drawn := w.drawn + 1 } β H := Fr.of_heap rfl rfl rfl rfl
  have hs0 : SRel c.imps c.nt { w with drawn := w.drawn + 1 } β H m ⟨E, T, c.B, c.D⟩ a := hs.same hf0 (hs.hrel.of_heap rfl rfl rfl rfl)
  obtain ⟨β1, H1, m1, k1, k2, k3, k4⟩ := reserveAll (dumsX sp 0 ops.toList) (dumsX_mem sp _ _) hs0
  have hml : m1.length = (T ++ dumsX sp 0 ops.toList).length := k1.mlen
  have hzero : ∀ j, (fun _ : Nat => false) j = (Array.replicate ops.size false).getD j false := fun j => by
    by_cases hj : j < ops.size
    · simp [Array.getD, hj]
    · simp [Array.getD, hj]
  obtain ⟨w2, β2, H2, a2, g1, g2, g3, g4⟩ := run_draw md hG hc k1.scE ops.size t (Array.replicate ops.size false) (fun _ => false) { w with drawn := w.drawn + 1 } β1 H1 m1 a b cs k hzero (by simp)
    (by unfold unl; exact Nat.le_trans (List.length_filter_le _ _) (by simp)) (fun i hi => by cases hi) (by
      rw [envS_none _ _ _ fun _ _ => rfl, heapS_none _ _ _ fun _ _ => rfl]
      exact k1) (fun j r p hj _ hv => by
        obtain ⟨q, q1, q2, _⟩ := k4 p (hG.virt j r p hj hv) (by have := hp j r p hj hv; simpa using this)
        exact ⟨q, q1, q2⟩) (fun j r _ hj => by cases hj) h1 h2
  refine ⟨w2, β2, H2, m1, a2, k, ⟨_, _, c.B, c.D⟩, ?_, g2, ?_, hk⟩
  · refine .head stepR_region_draw ?_
    rw [hmd]
    exact g1.trans (.one stepR_region_end)
  · refine ⟨(hf0.toFr0.trans k2.toFr0).trans g3, fun r hr hn => ?_⟩
    have hn1 := k2.virt r hr hn
    refine g4 r (Nat.lt_of_lt_of_le hr k2.len) hn1 fun p hp hq => ?_
    by_cases hlt : p < T.length + (dumsX sp 0 ops.toList).length
    · obtain ⟨q, q1, _, q3⟩ := k4 p hp hlt
      rw [hq] at q1
      injection q1 with q1
      omega
    · have := lt_of_get hq
      rw [hml, List.length_append] at this
      omega
theorem goes_drawX (sp : List (Nat × Bool)) {c : Cx} {ops : Array Oper} {id : Nat} {k : List Item} {E : Env} {T : Heap} (n : Nat) (h : catC T (dumsX sp 0 ops.toList) fun T0 => evdX sp c ops (guardTmps ops.toList ops.toList) ops.toList 0 T.length E T0 fun En Tn ss => chk ops.toList ss 0 [] [] = true ∧ evp c n k En Tn) :
    Goes c (.code (.region id ops true) :: k) E T := by
  rw [catC_eq] at h
  obtain ⟨rs, ss, En, Tn, h1, h2, h3⟩ := evdX_sound (sp := sp) ops.toList 0 T.length E _ _ h (fun k => by rw [Nat.zero_add, Array.getElem?_toList]) (by simp)
  exact goes_draw_ofX sp h1 h2 (evp_sound n _ _ _ _ h3)
end Bow
/- AE62: facts for regions that draw their order: a call that writes one own row; a call that is lent own memory; own slices cut. -/
namespace Bow
open Go
section
variable {c : Cx} {ops : Array Oper} {i : Nat} {o : Oper} {E : Env} {T : Heap} {gs : List Tmp}
theorem fact_sub1 {f : Operand} {args : Array Operand} {ts : Array TypeId} {g : FuncId} {first cap args' : List V} {x : V} {g1 g2 s1 s2 : Nat} {xs ys : List V} (kn : Nat) (hg : Guarded ops o E gs true) (ho : ops[i]? = some o)
    (hop : o.op = .call { callee := .value f, args := args, argTypes := ts }) (hf : opd E f = .fn (.func g) first cap) (hT : T[kn]? = some (some (.vec g1 s1 xs))) (hD : c.D.all (fun k => !memN [kn] k) = true)
    (hfun : Fun c.P g [some (.vec g1 s1 xs)] args' (fun y T1 => y = x ∧ T1 = [some (.vec g2 s2 ys)])) (ha : first ++ args.toList.map (opd E) ++ cap = V.renL [kn] args') (hsc : V.scBL 1 args' = true) (hx : ∀ ρ, x.ren ρ = x) :
    Fact c ops i E T ⟨o.dst, gs ++ tmpsOf o.op.operands.toList, [kn], x, [(kn, some (.vec g2 s2 ys))], none⟩ := by
  refine fact_call_then ho hg hop hf fun E' T' hl hT' => ?_
  have hk : T'[kn]? = some (some (.vec g1 s1 xs)) := (hT' kn (by simp)).trans hT
  have hlt := lt_of_get hk
  rw [ha]
  refine call_sub [kn] hfun rfl (by simp only [subB, Bool.and_true, Nat.blt, Nat.ble_eq]; exact hlt) ⟨⟨by rw [lget_eq]; exact hk, rfl⟩, trivial⟩ rfl hsc hD ?_
  rintro y T1 ⟨rfl, rfl⟩
  refine ⟨rfl, ?_⟩
  rw [setAllK_eq]
  refine ⟨hx _, ?_⟩
  show (⟨E', setAll _ [kn] [some (.vec g2 s2 ys)] T', c.B, c.D⟩ : St) = _
  simp only [setAll, omap, HObj.ren, List.map_nil, List.append_nil, app]
theorem fact_lend {f : Operand} {args : Array Operand} {ts : Array TypeId} {g : FuncId} {first cap ws : List V} {x : V} (s : Nat) (tc : List Nat) (hg : Guarded ops o E gs true) (ho : ops[i]? = some o)
    (hop : o.op = .call { callee := .value f, args := args, argTypes := ts }) (hf : opd E f = .fn (.func g) first cap) (hfun : Pure c.P g ws (fun y => y = x)) (hz : ∀ T' : Heap, (∀ k ∈ tc, T'[k]? = T[k]?) → LtL T' s (first ++ args.toList.map (opd E) ++ cap) ws) (hp : V.pureL ws = true) (hx : x.apart [s] = true) :
    Fact c ops i E T ⟨o.dst, gs ++ tmpsOf o.op.operands.toList, tc, x, [], none⟩ := by
  refine fact_call_then ho hg hop hf fun E' T' hl hT' => ?_
  exact call_lendT s hfun (hz T' hT') hp (by rintro _ rfl; exact hx) fun y hy => ⟨hy, rfl⟩
theorem fact_lendMake {f : Operand} {args : Array Operand} {ts : Array TypeId} {g : FuncId} {first cap ws : List V} {p sz : Nat} {xs : List V} (s : Nat) (tc : List Nat) (hg : Guarded ops o E gs true) (ho : ops[i]? = some o)
    (hop : o.op = .call { callee := .value f, args := args, argTypes := ts }) (hf : opd E f = .fn (.func g) first cap) (hd : T[p]? = some (some (.vec 0 0 []))) (hfun : Fun c.P g [] ws (fun x T1 => ∃ g0, x = .osl (.loc 0) g0 0 xs.length ∧ T1 = [some (.vec g0 sz xs)]))
    (hz : ∀ T' : Heap, (∀ k ∈ tc, T'[k]? = T[k]?) → LtL T' s (first ++ args.toList.map (opd E) ++ cap) ws) (hp : V.pureL ws = true) (hx : V.apartL [s] xs = true) :
    Fact c ops i E T ⟨o.dst, gs ++ tmpsOf o.op.operands.toList, p :: tc, .osl (.loc p) 2 0 xs.length, [(p, some (.vec 2 sz xs))], some p⟩ := by
  refine fact_call_thenMake ho hg hop hf hd fun E' T' hl hT' => ?_
  refine call_lendF s hfun (hz T' fun k hk => hT' k (List.mem_cons_of_mem _ hk)) hp ?_ ?_
  · rintro x T1 ⟨g0, rfl, rfl⟩
    exact ⟨rfl, by simp only [rowsB, hx, Bool.and_self]⟩
  · rintro x T1 ⟨g0, rfl, rfl⟩
    rw [catC_eq]
    exact ⟨g0, rfl, rfl⟩
theorem fact_cut3 {t e : TypeId} {x hi mx : Operand} {kk kk' : IntKind} {ti : TypeInfo} {kn g off l sz h : Nat} {xs : List V} (hg : Guarded ops o E gs true) (ho : ops[i]? = some o) (hop : o.op = .slice t x none (some hi) (some mx)) (hx : opd E x = .osl (.loc kn) g off l) (hh : opd E hi = .int kk h) (hmx : opd E mx = .int kk' h) (ht : tyU c.P t = some (.slice e)) (hi' : tyI c.P e = some ti)
    (hk : T[kn]? = some (some (.vec g sz xs))) (hle : h ≤ l) : Fact c ops i E T ⟨o.dst, gs ++ tmpsOf o.op.operands.toList, [kn], .osl (.loc kn) g off h, [], none⟩ := by
  refine fact_to ho hg (fun cl e => by rw [hop] at e; cases e) fun E' T' h1 _ h2 => ?_
  have h3 : ∀ z, z ∈ o.op.operands.toList → opd E' z = opd E z := h1
  rw [hop] at h3 ⊢
  exact opTo_cut3 ((h3 x (by simp [Op.operands])).trans hx) ((h3 hi (by simp [Op.operands])).trans hh) ((h3 mx (by simp [Op.operands])).trans hmx) ht hi' ((h2 kn (by simp)).trans hk) hle
theorem fact_cutlo {t e : TypeId} {x lo : Operand} {kk : IntKind} {ti : TypeInfo} {kn g off l sz h : Nat} {xs : List V} (hg : Guarded ops o E gs true) (ho : ops[i]? = some o) (hop : o.op = .slice t x (some lo) none none) (hx : opd E x = .osl (.loc kn) g off l) (hh : opd E lo = .int kk h) (ht : tyU c.P t = some (.slice e)) (hi' : tyI c.P e = some ti) (hsz : ti.size = sz)
    (hk : T[kn]? = some (some (.vec g sz xs))) (hle : h ≤ l) : Fact c ops i E T ⟨o.dst, gs ++ tmpsOf o.op.operands.toList, [kn], .osl (.loc kn) g (off + h) (l - h), [], none⟩ := by
  refine fact_to ho hg (fun cl e => by rw [hop] at e; cases e) fun E' T' h1 _ h2 => ?_
  have h3 : ∀ z, z ∈ o.op.operands.toList → opd E' z = opd E z := h1
  rw [hop] at h3 ⊢
  exact opTo_cutlo ((h3 x (by simp [Op.operands])).trans hx) ((h3 lo (by simp [Op.operands])).trans hh) ht hi' hsz ((h2 kn (by simp)).trans hk) hle
end
theorem Lt.cut {T : Heap} {s k g off len : Nat} {xs ys : List V} (h : T[k]? = some (some (.vec g s xs))) (hlen : off + len ≤ xs.length) (hx : V.apartL [] xs = true) (e : (xs.drop off).take len = ys) : Lt T s (.osl (.loc k) g off len) (.sl s ys) := e ▸ .part k g off len xs h hlen hx
end Bow
/- W117: leaftext's rows that are only read; Norm; two edits one behind the other. -/
namespace Bow
open Go Go.Proofs
theorem runV_wk {n : Int} {x y : V} {a b : Bool} (h1 : x = .tt ∧ a = true ∨ x = .ff ∧ a = false) (h2 : y = .tt ∧ b = true ∨ y = .ff ∧ b = false) : Wk (.tup [.int .i64 n,x,y]) (runV (n,a,b)):=by
 rcases h1 with ⟨rfl,rfl⟩ | ⟨rfl,rfl⟩ <;> rcases h2 with ⟨rfl,rfl⟩ | ⟨rfl,rfl⟩ <;> exact Wk.tup ⟨.refl _,by first | exact Wk.tt | exact Wk.ff,by first | exact Wk.tt | exact Wk.ff,trivial⟩
set_option maxRecDepth 100000 in
theorem w_runP (r0 : List PieceT) : Fun Tryz.prog 180 [some (.box [piecesV r0])] [.ptr (.loc 0) 0] (fun x T => x = runV (rowRun r0).1 ∧ T = [some (.box [piecesV (rowRun r0).2])]):=by
 refine fun_wk (fun_keep 1 rfl (fun_fn 300 Tryz.func180 rfl rfl rfl fun imps B hi => ?_))
 show Goes _ _ _ _
 refine goes_iter (ι:=List PieceT) (fun r => rowRun r = rowRun r0) (fun r => r.length) (fun _ => [(0,.ptr (.loc 0) 0)]) (fun r => [some (.box [piecesV r])]) r0 300 (fun _ => rfl) (fun _ => by rw [hi];rfl)
  ⟨rfl,⟨⟨rfl,rfl⟩,trivial⟩,⟨⟨rfl,rfl⟩,trivial⟩⟩ ?_
 rintro r k2 next
 cases r with
 | nil =>
  refine ⟨fun g1 => absurd (lt_of g1) (by simp),fun g1 => go 300 ?_⟩
  have e : rowRun r0 = ((0,false,false),[]):=k2.symm
  rw [e]
  exact ⟨trivial,rfl,rfl,[some (.box [piecesV []])],rfl,rfl,⟨⟨rfl,rfl⟩,trivial⟩,_,runV_wk (.inr ⟨rfl,rfl⟩) (.inr ⟨rfl,rfl⟩),rfl,rfl,rfl,rfl⟩
 | cons p r =>
  refine ⟨fun g1 => go 300 ?_,fun g1 => absurd (not_lt_of g1) (by simp)⟩
  refine ⟨by decide,pieceV p,rfl,?_⟩
  refine ⟨fun g2 => go 300 ?_,fun g2 => go 300 ?_⟩
  ·have e : rowRun r0 = ((p.keep,false,true),p :: r):=by rw [← k2,rowRun,g2];rfl
   rw [e]
   exact ⟨trivial,rfl,rfl,[some (.box [piecesV (p :: r)])],rfl,rfl,⟨⟨rfl,rfl⟩,trivial⟩,_,runV_wk (.inr ⟨rfl,rfl⟩) (.inl ⟨rfl,rfl⟩),rfl,rfl,rfl,rfl⟩
  ·refine ⟨fun g3 => go 300 ?_,fun g3 => go 300 ?_⟩
   ·have e : rowRun r0 = ((p.drop,true,true),p :: r):=by rw [← k2,rowRun,g2,g3];rfl
    rw [e]
    exact ⟨trivial,rfl,rfl,[some (.box [piecesV (p :: r)])],rfl,rfl,⟨⟨rfl,rfl⟩,trivial⟩,_,runV_wk (.inl ⟨rfl,rfl⟩) (.inl ⟨rfl,rfl⟩),rfl,rfl,rfl,rfl⟩
   ·have e : rowRun r = rowRun r0:=by rw [← k2,rowRun,g2,g3];rfl
    refine ⟨by decide,by simp;omega,Int.le_refl _,?_⟩
    show Goes _ _ _ _
    refine next r _ _ ⟨e,by simp,⟨⟨rfl,rfl⟩,trivial⟩,⟨⟨?_,rfl⟩,trivial⟩⟩
    show some (HObj.box [V.sl 3 (List.take _ (List.map pieceV r))]) = _
    rw [List.take_of_length_le (by simp)]
    rfl
theorem w_left (r : List PieceT) : Pure Tryz.prog 182 [piecesV r] (fun x => x = .int .i64 (rowRun r).1.1):=by
 refine pure_fn 60 Tryz.func182 rfl rfl rfl fun B => ?_
 show CallThen _ _ _ _ _ _
 refine call_sub [0] (w_runP r) rfl rfl ⟨⟨rfl,rfl⟩,trivial⟩ rfl rfl rfl ?_
 rintro x T1 ⟨rfl,rfl⟩
 refine ⟨rfl,?_⟩
 exact ⟨trivial,rfl,rfl,rfl,rfl⟩
set_option maxRecDepth 100000 in
theorem w_Norm (l : List PieceT) (hl : l.length ≤ 1000000) (hp : ∀ p ∈ l,p.put.length ≤ 1000000000) : Pure Tryz.prog 146 [piecesV l] (fun x => x = piecesV (normR l)):=by
 refine pure_wk (pure_fn 60 Tryz.func146 rfl rfl rfl fun B => ?_)
 show CallThen _ _ _ _ _ _
 refine call_pure (w_Right l hl hp) rfl ?_
 rintro x rfl
 unfold normR
 refine ⟨fun g1 => go 60 ?_,fun g1 => go 60 ?_⟩
 ·have g1 : rightP l = false:=by simpa using g1
  rw [g1]
  exact ⟨trivial,rfl,rfl,rfl,piecesV [],Wk.nil 3,rfl,rfl⟩
 have ra : rightP l = true:=by simpa using g1
 rw [ra]
 obtain ⟨na,sa⟩:=right_nn ra
 have la:=sumW_len na
 show CallThen _ _ _ _ _ _
 refine call_sub [] (w_norm l na (by omega) (by omega)) rfl rfl trivial rfl rfl rfl ?_
 rintro x T1 ⟨ga,ka,rfl,rfl⟩
 refine ⟨rfl,?_⟩
 exact ⟨trivial,rfl,rfl,rfl,by simp,rfl,piecesV (normP l),.refl _,rfl,rfl⟩
def ComposeV (r : List PieceT × Int) : V:=.tup [piecesV r.1,.int .i64 r.2]
theorem composeZ {e : Int} {R : List PieceT × Int} (h : R = ([],e)) : ∃ y,Wk (.tup [.nilsl,.int .i64 e]) y ∧ y.pureB = true ∧ y = ComposeV R:=⟨ComposeV ([],e),Wk.tup ⟨Wk.nil 3,.refl _,trivial⟩,rfl,by rw [h]⟩
structure CpI where
 f : Nat
 s : Cp
 d1 : List PieceT
 d2 : List PieceT
 gx : Nat
def cpT (j1 j2 : HObj) (ga gb : Nat) (i : CpI) : Heap :=
 [some j1,some (rowVec i.d1 i.s.p ga),some j2,some (rowVec i.d2 i.s.q gb),some (boxAt 1 i.d1 i.s.p ga),some (boxAt 3 i.d2 i.s.q gb),some (mkAt 7 i.s.x i.gx),some (mkVec i.s.x i.gx)]
theorem ite_min (a b : Int) : (if b < a then b else a) = min a b:=by omega
theorem row_lent (d r : List PieceT) : (((d ++ r).map pieceV).drop d.length).take r.length = r.map pieceV:=by
 rw [List.map_append,List.drop_append_of_le_length (by simp),List.drop_of_length_le (by simp),List.nil_append,List.take_of_length_le (by simp)]
theorem pieces_apart : ∀ l : List PieceT,V.apartL [] (l.map pieceV) = true
 | [] => rfl
 | p :: l => by rw [List.map_cons,V.apartL,pieces_apart l];rfl
end Bow
/- W118: leaftext.Compose. -/
namespace Bow
open Go Go.Proofs
set_option maxHeartbeats 4000000 in
set_option maxRecDepth 100000 in
theorem w_Compose (a b : List PieceT) (ha : a.length ≤ 1000000) (hb : b.length ≤ 1000000) (pa : ∀ p ∈ a,p.put.length ≤ 1000000000) (pb : ∀ p ∈ b,p.put.length ≤ 1000000000) :
  Pure Tryz.prog 151 [piecesV a,piecesV b] (fun x => x = ComposeV (composeP a b)):=by
 obtain ⟨R,hR⟩ : ∃ R,composeP a b = R:=⟨_,rfl⟩
 rw [hR]
 refine pure_wk (pure_fn 60 Tryz.func151 rfl rfl rfl fun B => ?_)
 have bad : (rightP a = false ∨ rightP b = false) → R = ([],2):=fun h => by
  rw [← hR]
  unfold composeP
  rcases h with h | h
  ·rw [h];rfl
  ·rw [h];cases rightP a <;> rfl
 show CallThen _ _ _ _ _ _
 refine call_pure (w_Right a ha pa) rfl ?_
 rintro x rfl
 refine ⟨fun g1 => go 60 ?_,fun g1 => go 60 ?_⟩
 ·exact ⟨trivial,rfl,rfl,rfl,composeZ (bad (.inl (by simpa using g1)))⟩
 have ra : rightP a = true:=by simpa using g1
 show CallThen _ _ _ _ _ _
 refine call_pure (w_Right b hb pb) rfl ?_
 rintro x rfl
 refine ⟨fun g2 => go 60 ?_,fun g2 => go 60 ?_⟩
 ·exact ⟨trivial,rfl,rfl,rfl,composeZ (bad (.inr (by simpa using g2)))⟩
 have rb : rightP b = true:=by simpa using g2
 obtain ⟨na,sa⟩:=right_nn ra
 obtain ⟨nb,sb⟩:=right_nn rb
 have la:=sumW_len na
 have lb:=sumW_len nb
 show CallThen _ _ _ _ _ _
 refine call_sub [] (w_norm a na (by omega) (by omega)) rfl rfl trivial rfl rfl rfl ?_
 rintro x T1 ⟨ga,ka,rfl,rfl⟩
 refine ⟨rfl,?_⟩
 show CallThen _ _ _ _ _ _
 refine call_sub [] (w_norm b nb (by omega) (by omega)) rfl rfl trivial rfl rfl rfl ?_
 rintro x T1 ⟨gb,kb,rfl,rfl⟩
 refine ⟨rfl,?_⟩
 show Goes _ _ _ _
 refine goes_ownCell 6 0 3 rfl rfl ?_
 obtain ⟨fin,hfin⟩ : ∃ fin,cpGo ((cpM ⟨normP a,normP b,Mk.nil,[]⟩).toNat + 1) ⟨normP a,normP b,Mk.nil,[]⟩ = fin:=⟨_,rfl⟩
 have good : R = bif !rightP fin.x.l then ([],3) else (fin.x.l,0):=by
  rw [← hR]
  unfold composeP
  rw [ra,rb,hfin]
  rfl
 obtain ⟨ok0,_⟩:=cp_start ra rb
 refine goes_iter (ι:=CpI) (fun i => i.s.Ok ∧ (cpM i.s).toNat < i.f ∧ cpGo i.f i.s = fin) (fun i => i.f)
  (fun i => [(9,.str i.s.fr),(6,.ptr (.loc 4) 0),(7,.ptr (.loc 5) 0),(8,.ptr (.loc 6) 0)])
  (cpT (.box [.osl (.loc 1) ga 0 (normP a).length,.int .i64 ka]) (.box [.osl (.loc 3) gb 0 (normP b).length,.int .i64 kb]) ga gb)
  ⟨(cpM ⟨normP a,normP b,Mk.nil,[]⟩).toNat + 1,⟨normP a,normP b,Mk.nil,[]⟩,[],[],0⟩ 60 (fun _ => rfl) (fun _ => rfl) ⟨⟨ok0,Nat.lt_succ_self _,hfin⟩,⟨⟨rfl,rfl⟩,⟨rfl,rfl⟩,⟨rfl,rfl⟩,⟨rfl,rfl⟩,trivial⟩,
   ⟨⟨rfl,rfl⟩,⟨rfl,rfl⟩,⟨rfl,rfl⟩,⟨rfl,rfl⟩,⟨rfl,rfl⟩,⟨rfl,rfl⟩,⟨rfl,rfl⟩,⟨rfl,rfl⟩,trivial⟩⟩ ?_
 rintro ⟨f,⟨p,q,x,fr⟩,d1,d2,gx⟩ ⟨k1,k2,k3⟩ next
 simp only at k1 k2 k3
 obtain ⟨f,rfl⟩ : ∃ f',f = f' + 1:=⟨f - 1,by omega⟩
 have hto:=cpTo ⟨p,q,x,fr⟩
 have okp:=k1.p
 have okq:=k1.q
 have okx:=k1.x
 have wx:=k1.w
 have rp:=rowR_nn okp.nn
 have rq:=rowR_nn okq.nn
 have hcpM : cpM ⟨p,q,x,fr⟩ = rowR p + rowR q + fr.length:=rfl
 simp only at okp okq okx wx rp rq
 have again : ∀ (s' : Cp) (d1' d2' : List PieceT) (g' : Nat),CpTo ⟨p,q,x,fr⟩ (true,s') → ∀ E T,envIs 8 E [(9,.str s'.fr),(6,.ptr (.loc 4) 0),(7,.ptr (.loc 5) 0),(8,.ptr (.loc 6) 0)] →
   heapIs 8 T (cpT (.box [.osl (.loc 1) ga 0 (normP a).length,.int .i64 ka]) (.box [.osl (.loc 3) gb 0 (normP b).length,.int .i64 kb]) ga gb ⟨f,s',d1',d2',g'⟩) → Goes _ _ E T:=fun s' d1' d2' g' h2 E T hE hT => by
  obtain ⟨o1,o2,_,o4⟩:=step_ok k1 h2
  have o2:=o2 rfl
  rw [cpGo_succ h2.eq] at k3
  refine next ⟨f,s',d1',d2',g'⟩ E T ⟨⟨o1,?_,k3⟩,Nat.lt_succ_self _,hE,hT⟩
  have o5 : 0 ≤ cpM s':=by
   have:=rowR_nn o1.p.nn
   have:=rowR_nn o1.q.nn
   unfold cpM
   omega
  simp only
  omega
 have last : ∀ s',CpTo ⟨p,q,x,fr⟩ (false,s') → fin = s':=fun s' h2 => by
  rw [cpGo_succ h2.eq] at k3
  exact k3.symm
 clear next k2 k3
 cases hh : rowHas q with
 | true =>
  obtain ⟨b1,b2⟩:=Mk.put_ok2 (s:=(rowPut q).1) okx
  obtain ⟨o1,o2,_,o4⟩:=rowPut_ok okq
  have cq:=w_rowPut d2 q gb
  rw [hh] at cq
  show CallThen _ _ _ _ _ _
  refine call_sub [3] cq rfl rfl ⟨⟨rfl,rfl⟩,trivial⟩ rfl rfl rfl ?_
  rintro z T1 ⟨rfl,rfl⟩
  refine ⟨rfl,?_⟩
  refine ⟨fun g3 => go 60 ?_,fun g3 => (by cases g3)⟩
  show CallThen _ _ _ _ _ _
  refine call_sub [6,7] (w_mkPut x gx (rowPut q).1 okx (by omega) (by omega)) rfl rfl ⟨⟨rfl,rfl⟩,⟨rfl,rfl⟩,trivial⟩ rfl rfl rfl ?_
  rintro z T1 ⟨g',rfl,rfl⟩
  refine ⟨rfl,?_⟩
  show Goes _ _ _ _
  refine again _ d1 d2 g' (CpTo.put (s:=⟨p,q,x,fr⟩) hh) _ _ ⟨⟨rfl,rfl⟩,⟨rfl,rfl⟩,⟨rfl,rfl⟩,⟨rfl,rfl⟩,trivial⟩ ⟨⟨rfl,rfl⟩,⟨rfl,rfl⟩,⟨rfl,rfl⟩,⟨rfl,rfl⟩,⟨rfl,rfl⟩,⟨?_,rfl⟩,⟨rfl,rfl⟩,⟨rfl,rfl⟩,trivial⟩
  simp only [boxAt,rowPut_len]
 | false =>
  have cq:=w_rowPut d2 q gb
  rw [rowHas_no hh,hh] at cq
  obtain ⟨⟨u,p1⟩,hf⟩ : ∃ z,(bif fr.isEmpty then rowPut p else (fr,p)) = z:=⟨_,rfl⟩
  obtain ⟨f1,f2,f3⟩:=fresh_ok k1 hf
  simp only at f2 f3
  have wx0 : 0 ≤ x.w:=by
   have:=sumW_len okx.l
   have:=okx.k
   unfold Mk.w
   omega
  obtain ⟨⟨⟨n,gone,more⟩,q1⟩,hq⟩ : ∃ z,rowRun q = z:=⟨_,rfl⟩
  obtain ⟨q1ok,qis,q3,q4,q5,q6⟩:=run_ok okq hq
  have rp1:=rowR_nn f1.nn
  have cr:=w_rowRun d2 q gb
  rw [hq] at cr
  have cp:=w_rowPut d1 p ga
  have hlp : p.length = p1.length:=by
   cases he : fr.isEmpty with
   | true => rw [he,cond_true] at hf;rw [← rowPut_len p,hf]
   | false => rw [he,cond_false] at hf;injection hf with _ e;rw [e]
  have cl : Pure Tryz.prog 182 [piecesV q1] (fun x => x = .int .i64 n):=by
   have:=w_left q1
   rw [run_again qis] at this
   exact this
  obtain ⟨k,hk⟩ : ∃ k : Int,k = min (bif more then n else (u.length : Int)) u.length:=⟨_,rfl⟩
  obtain ⟨⟨⟨m,dropped,any⟩,p2⟩,hp⟩ : ∃ z,rowRun p1 = z:=⟨_,rfl⟩
  obtain ⟨p2ok,pis,p3,p4,p5,p6⟩:=run_ok f1 hp
  have cr1:=w_rowRun d1 p1 ga
  rw [hp] at cr1
  have cl1 : Pure Tryz.prog 182 [piecesV p2] (fun x => x = .int .i64 m):=by
   have:=w_left p2
   rw [run_again pis] at this
   exact this
  obtain ⟨j,hj⟩ : ∃ j : Int,j = (bif !more then m else bif any then min n m else n):=⟨_,rfl⟩
  have hj0 : 0 ≤ j ∧ j ≤ 1000000000000:=by rw [hj];cases more <;> cases any <;> simp only [Bool.not_true,Bool.not_false,cond_true,cond_false] <;> omega
  have rp2:=rowR_nn p2ok.nn
  have rq1:=rowR_nn q1ok.nn
  have hmw : dropped = true → m ≤ rowR p2:=fun e => by
   subst e
   have e2:=(run_pos pis).2.2 rfl
   subst e2
   have:=(rowTake_ok (n:=m) p2ok pis p5 fun _ => Int.le_refl _)
   have h2:=rowR_nn this.1.nn
   have h3:=this.2.1
   simp only [cond_true] at h3
   omega
  have h2n : ∀ b : Bool,(!b) = true → b = false:=by decide
  have h2t : ∀ b : Bool,(!b) = false → b = true:=by decide
  by_cases he : fr = []
  ·subst he
   have hf' : rowPut p = (u,p1):=hf
   rw [hf'] at cp
   show CallThen _ _ _ _ _ _
   refine call_sub [3] cq rfl rfl ⟨⟨rfl,rfl⟩,trivial⟩ rfl rfl rfl ?_
   rintro z T1 ⟨rfl,rfl⟩
   refine ⟨rfl,?_⟩
   refine ⟨fun g3 => (by cases g3),fun g3 => go 60 ?_⟩
   refine ⟨fun _ => go 60 ?_,fun g4 => absurd rfl (of_decide_eq_false g4)⟩
   show CallThen _ _ _ _ _ _
   refine call_sub [1] cp rfl rfl ⟨⟨rfl,rfl⟩,trivial⟩ rfl rfl rfl ?_
   rintro z T1 ⟨rfl,rfl⟩
   refine ⟨rfl,?_⟩
   show CallThen _ _ _ _ _ _
   refine call_sub [5,3] cr rfl rfl ⟨⟨rfl,rfl⟩,⟨rfl,rfl⟩,trivial⟩ rfl rfl rfl ?_
   rintro z T1 ⟨rfl,e2,-,rfl⟩
   refine ⟨rfl,?_⟩
   refine ⟨fun g5 => go 60 ?_,fun g5 => go 60 ?_⟩
   ·have hu : u ≠ []:=by simpa using g5
    have hl:=List.length_pos_iff.2 hu
    have hn1:=(run_pos qis).1
    have hk1 : 1 ≤ k ∧ k ≤ u.length:=by
     rw [hk]
     cases more with
     | true => have:=hn1 rfl;simp only [cond_true];omega
     | false => simp only [cond_false];omega
    have hk2 : (u.length : Int) ≤ 300000000000:=by omega
    cases more with
    | true =>
     have ek : (if (u.length : Int) < n then (u.length : Int) else n) = k:=by rw [hk];exact ite_min _ _
     refine ⟨fun g => absurd (show false = true from g) Bool.false_ne_true,fun _ => go 60 ?_⟩
     cases gone with
     | true =>
      refine ⟨fun g => absurd (show false = true from g) Bool.false_ne_true,fun _ => go 60 ?_⟩
      refine ⟨by simp only;omega,by simp only;omega,Int.le_refl _,?_⟩
      show Goes _ _ _ _
      refine goes_drawX [(3,false),(5,false)] 60 ?_
      refine ⟨[3],.int .i64 n,[],fun gs hg => fact_lend 3 [3] hg rfl rfl rfl cl (fun T' hT => ⟨.cut ((hT 3 (by simp)).trans rfl) (by simp) (pieces_apart _) (row_lent e2 q1),trivial⟩) rfl rfl,trivial,?_⟩
      refine ⟨[3],.tup [],[(3,some (rowVec e2 (rowTake (min k n) q1) gb))],fun gs hg => fact_sub1 3 hg rfl rfl rfl rfl rfl (w_rowTake e2 q1 gb (min k n) (by omega) q1ok.p) (congrArg (fun z => [V.osl (.loc 3) gb e2.length q1.length,V.int .i64 z]) ((ite_min _ _).trans (congrArg (fun z => min z n) ek))) rfl (fun _ => rfl),trivial,?_⟩
      refine ⟨by kernel_rfl,?_⟩
      show Goes _ _ _ _
      refine again _ d1 e2 gx (CpTo.old (s:=⟨_,q,x,_⟩) u p1 q1 n true _ k hh hf hq hu hk) _ _ ⟨⟨?_,rfl⟩,⟨rfl,rfl⟩,⟨rfl,rfl⟩,⟨rfl,rfl⟩,trivial⟩ ⟨⟨rfl,rfl⟩,⟨rfl,rfl⟩,⟨rfl,rfl⟩,⟨rfl,rfl⟩,⟨congrArg (fun z => some (HObj.box [V.osl (.loc 1) ga d1.length z])) hlp,rfl⟩,⟨?_,rfl⟩,⟨rfl,rfl⟩,⟨rfl,rfl⟩,trivial⟩
      ·exact congrArg V.str ((congrArg (fun z : Int => (u.drop z.toNat).take (((u.length : Int)).toNat - z.toNat)) ek).trans (List.take_of_length_le (by simp)))
      ·show some (HObj.box [V.osl (.loc 3) gb e2.length q1.length]) = some (boxAt 3 e2 (rowTake (min k n) q1) gb)
       rw [boxAt,rowTake_len]
     | false =>
      refine ⟨fun _ => go 60 ?_,fun g => absurd (show true = false from g) Bool.true_eq_false.mp⟩
      refine ⟨Int.le_refl _,by simp only;omega,by simp only;omega,?_⟩
      show CallThen _ _ _ _ _ _
      refine call_sub [6,7] (w_mkPut x gx (u.take k.toNat) okx (by omega) (by rw [List.length_take];omega)) rfl rfl ⟨⟨rfl,rfl⟩,⟨rfl,rfl⟩,trivial⟩ (congrArg (fun z : Int => [V.ptr (.loc 6) 0,V.str (u.take z.toNat)]) ek) rfl rfl ?_
      rintro z T1 ⟨g',rfl,rfl⟩
      refine ⟨rfl,?_⟩
      refine ⟨by simp only;omega,by simp only;omega,Int.le_refl _,?_⟩
      show Goes _ _ _ _
      refine goes_drawX [(3,false),(5,false)] 60 ?_
      refine ⟨[3],.int .i64 n,[],fun gs hg => fact_lend 3 [3] hg rfl rfl rfl cl (fun T' hT => ⟨.cut ((hT 3 (by simp)).trans rfl) (by simp) (pieces_apart _) (row_lent e2 q1),trivial⟩) rfl rfl,trivial,?_⟩
      refine ⟨[3],.tup [],[(3,some (rowVec e2 (rowTake (min k n) q1) gb))],fun gs hg => fact_sub1 3 hg rfl rfl rfl rfl rfl (w_rowTake e2 q1 gb (min k n) (by omega) q1ok.p) (congrArg (fun z => [V.osl (.loc 3) gb e2.length q1.length,V.int .i64 z]) ((ite_min _ _).trans (congrArg (fun z => min z n) ek))) rfl (fun _ => rfl),trivial,?_⟩
      refine ⟨by kernel_rfl,?_⟩
      show Goes _ _ _ _
      refine again _ d1 e2 g' (CpTo.old (s:=⟨_,q,x,_⟩) u p1 q1 n false _ k hh hf hq hu hk) _ _ ⟨⟨?_,rfl⟩,⟨rfl,rfl⟩,⟨rfl,rfl⟩,⟨rfl,rfl⟩,trivial⟩ ⟨⟨rfl,rfl⟩,⟨rfl,rfl⟩,⟨rfl,rfl⟩,⟨rfl,rfl⟩,⟨congrArg (fun z => some (HObj.box [V.osl (.loc 1) ga d1.length z])) hlp,rfl⟩,⟨?_,rfl⟩,⟨rfl,rfl⟩,⟨rfl,rfl⟩,trivial⟩
      ·exact congrArg V.str ((congrArg (fun z : Int => (u.drop z.toNat).take (((u.length : Int)).toNat - z.toNat)) ek).trans (List.take_of_length_le (by simp)))
      ·show some (HObj.box [V.osl (.loc 3) gb e2.length q1.length]) = some (boxAt 3 e2 (rowTake (min k n) q1) gb)
       rw [boxAt,rowTake_len]
    | false =>
     have ek : (if (u.length : Int) < u.length then (u.length : Int) else u.length) = k:=by rw [hk];exact ite_min _ _
     refine ⟨fun _ => go 60 ?_,fun g => absurd (show true = false from g) Bool.true_eq_false.mp⟩
     cases gone with
     | true =>
      refine ⟨fun g => absurd (show false = true from g) Bool.false_ne_true,fun _ => go 60 ?_⟩
      refine ⟨by simp only;omega,by simp only;omega,Int.le_refl _,?_⟩
      show Goes _ _ _ _
      refine goes_drawX [(3,false),(5,false)] 60 ?_
      refine ⟨[3],.int .i64 n,[],fun gs hg => fact_lend 3 [3] hg rfl rfl rfl cl (fun T' hT => ⟨.cut ((hT 3 (by simp)).trans rfl) (by simp) (pieces_apart _) (row_lent e2 q1),trivial⟩) rfl rfl,trivial,?_⟩
      refine ⟨[3],.tup [],[(3,some (rowVec e2 (rowTake (min k n) q1) gb))],fun gs hg => fact_sub1 3 hg rfl rfl rfl rfl rfl (w_rowTake e2 q1 gb (min k n) (by omega) q1ok.p) (congrArg (fun z => [V.osl (.loc 3) gb e2.length q1.length,V.int .i64 z]) ((ite_min _ _).trans (congrArg (fun z => min z n) ek))) rfl (fun _ => rfl),trivial,?_⟩
      refine ⟨by kernel_rfl,?_⟩
      show Goes _ _ _ _
      refine again _ d1 e2 gx (CpTo.old (s:=⟨_,q,x,_⟩) u p1 q1 n true _ k hh hf hq hu hk) _ _ ⟨⟨?_,rfl⟩,⟨rfl,rfl⟩,⟨rfl,rfl⟩,⟨rfl,rfl⟩,trivial⟩ ⟨⟨rfl,rfl⟩,⟨rfl,rfl⟩,⟨rfl,rfl⟩,⟨rfl,rfl⟩,⟨congrArg (fun z => some (HObj.box [V.osl (.loc 1) ga d1.length z])) hlp,rfl⟩,⟨?_,rfl⟩,⟨rfl,rfl⟩,⟨rfl,rfl⟩,trivial⟩
      ·exact congrArg V.str ((congrArg (fun z : Int => (u.drop z.toNat).take (((u.length : Int)).toNat - z.toNat)) ek).trans (List.take_of_length_le (by simp)))
      ·show some (HObj.box [V.osl (.loc 3) gb e2.length q1.length]) = some (boxAt 3 e2 (rowTake (min k n) q1) gb)
       rw [boxAt,rowTake_len]
     | false =>
      refine ⟨fun _ => go 60 ?_,fun g => absurd (show true = false from g) Bool.true_eq_false.mp⟩
      refine ⟨Int.le_refl _,by simp only;omega,by simp only;omega,?_⟩
      show CallThen _ _ _ _ _ _
      refine call_sub [6,7] (w_mkPut x gx (u.take k.toNat) okx (by omega) (by rw [List.length_take];omega)) rfl rfl ⟨⟨rfl,rfl⟩,⟨rfl,rfl⟩,trivial⟩ (congrArg (fun z : Int => [V.ptr (.loc 6) 0,V.str (u.take z.toNat)]) ek) rfl rfl ?_
      rintro z T1 ⟨g',rfl,rfl⟩
      refine ⟨rfl,?_⟩
      refine ⟨by simp only;omega,by simp only;omega,Int.le_refl _,?_⟩
      show Goes _ _ _ _
      refine goes_drawX [(3,false),(5,false)] 60 ?_
      refine ⟨[3],.int .i64 n,[],fun gs hg => fact_lend 3 [3] hg rfl rfl rfl cl (fun T' hT => ⟨.cut ((hT 3 (by simp)).trans rfl) (by simp) (pieces_apart _) (row_lent e2 q1),trivial⟩) rfl rfl,trivial,?_⟩
      refine ⟨[3],.tup [],[(3,some (rowVec e2 (rowTake (min k n) q1) gb))],fun gs hg => fact_sub1 3 hg rfl rfl rfl rfl rfl (w_rowTake e2 q1 gb (min k n) (by omega) q1ok.p) (congrArg (fun z => [V.osl (.loc 3) gb e2.length q1.length,V.int .i64 z]) ((ite_min _ _).trans (congrArg (fun z => min z n) ek))) rfl (fun _ => rfl),trivial,?_⟩
      refine ⟨by kernel_rfl,?_⟩
      show Goes _ _ _ _
      refine again _ d1 e2 g' (CpTo.old (s:=⟨_,q,x,_⟩) u p1 q1 n false _ k hh hf hq hu hk) _ _ ⟨⟨?_,rfl⟩,⟨rfl,rfl⟩,⟨rfl,rfl⟩,⟨rfl,rfl⟩,trivial⟩ ⟨⟨rfl,rfl⟩,⟨rfl,rfl⟩,⟨rfl,rfl⟩,⟨rfl,rfl⟩,⟨congrArg (fun z => some (HObj.box [V.osl (.loc 1) ga d1.length z])) hlp,rfl⟩,⟨?_,rfl⟩,⟨rfl,rfl⟩,⟨rfl,rfl⟩,trivial⟩
      ·exact congrArg V.str ((congrArg (fun z : Int => (u.drop z.toNat).take (((u.length : Int)).toNat - z.toNat)) ek).trans (List.take_of_length_le (by simp)))
      ·show some (HObj.box [V.osl (.loc 3) gb e2.length q1.length]) = some (boxAt 3 e2 (rowTake (min k n) q1) gb)
       rw [boxAt,rowTake_len]
   ·have hu : u = []:=by simpa using g5
    have hf2 : (bif _ then rowPut _ else (_,_)) = (([] : List UInt8),p1):=hf.trans (by rw [hu])
    show CallThen _ _ _ _ _ _
    refine call_sub [4,1] cr1 rfl rfl ⟨⟨congrArg (fun z => some (some (HObj.box [V.osl (.loc 1) ga d1.length z]))) hlp,rfl⟩,⟨rfl,rfl⟩,trivial⟩ rfl rfl rfl ?_
    rintro z T1 ⟨rfl,e1,-,rfl⟩
    refine ⟨rfl,?_⟩
    cases dropped with
    | true =>
     have hm3:=hmw rfl
     refine ⟨fun _ => go 60 ?_,fun g => absurd (show true = false from g) Bool.true_eq_false.mp⟩
     show CallThen _ _ _ _ _ _
     refine call_sub [6,7] (w_mkDrop x gx m okx (by omega) (by omega)) rfl rfl ⟨⟨rfl,rfl⟩,⟨rfl,rfl⟩,trivial⟩ rfl rfl rfl ?_
     rintro z T1 ⟨g',rfl,rfl⟩
     refine ⟨rfl,?_⟩
     show CallThen _ _ _ _ _ _
     refine call_sub [1] (w_rowTake e1 p2 ga m ⟨p5,p6⟩ p2ok.p) rfl rfl ⟨⟨rfl,rfl⟩,trivial⟩ rfl rfl rfl ?_
     rintro z T1 ⟨rfl,rfl⟩
     refine ⟨rfl,?_⟩
     show Goes _ _ _ _
     refine again _ e1 e2 g' (CpTo.drop (s:=⟨_,q,x,_⟩) p1 q1 n gone more m any p2 hh hf2 hq hp) _ _ ⟨⟨congrArg V.str hu,rfl⟩,⟨rfl,rfl⟩,⟨rfl,rfl⟩,⟨rfl,rfl⟩,trivial⟩ ⟨⟨rfl,rfl⟩,⟨rfl,rfl⟩,⟨rfl,rfl⟩,⟨rfl,rfl⟩,⟨?_,rfl⟩,⟨rfl,rfl⟩,⟨rfl,rfl⟩,⟨rfl,rfl⟩,trivial⟩
     show some (HObj.box [V.osl (.loc 1) ga e1.length p2.length]) = some (boxAt 1 e1 (rowTake m p2) ga)
     rw [boxAt,rowTake_len]
    | false =>
     refine ⟨fun g => absurd (show false = true from g) Bool.false_ne_true,fun _ => go 60 ?_⟩
     cases any with
     | false =>
      refine ⟨fun _ => go 60 ?_,fun g => absurd (show true = false from g) Bool.true_eq_false.mp⟩
      cases more with
      | false =>
       refine ⟨fun _ => go 60 ?_,fun g => absurd (show true = false from g) Bool.true_eq_false.mp⟩
       have hfx:=last _ (CpTo.fin (s:=⟨_,q,x,_⟩) p1 q1 n gone m p2 hh hf2 hq hp)
       have good : R = bif !rightP x.l then ([],3) else (x.l,0):=by rw [good,hfx]
       show CallThen _ _ _ _ _ _
       refine call_sub [6,7] (w_done x gx okx (by omega)) rfl rfl ⟨⟨rfl,rfl⟩,⟨rfl,rfl⟩,trivial⟩ rfl rfl rfl ?_
       rintro z T1 ⟨rfl,rfl⟩
       refine ⟨rfl,?_⟩
       refine ⟨fun g4 => go 60 ?_,fun g4 => go 60 ?_⟩
       ·have g4 : rightP x.l = false:=by simpa using g4
        exact ⟨trivial,rfl,rfl,rfl,composeZ (by rw [good,g4];rfl)⟩
       have g4 : rightP x.l = true:=by simpa using g4
       have hres : ComposeV (x.l,0) = ComposeV R:=by rw [good,g4];rfl
       refine ⟨trivial,rfl,rfl,?_⟩
       refine ⟨rfl,?_⟩
       refine ⟨by simp,?_⟩
       exact ⟨rfl,ComposeV (x.l,0),Wk.refl _,rfl,hres⟩
      | true =>
       refine ⟨fun g => absurd (show false = true from g) Bool.false_ne_true,fun _ => go 60 ?_⟩
       refine ⟨fun g => absurd (show false = true from g) Bool.false_ne_true,fun _ => go 60 ?_⟩
       refine ⟨fun g => absurd (show false = true from g) Bool.false_ne_true,fun _ => go 60 ?_⟩
       have ej : n = j:=hj.symm
       cases gone with
       | true =>
        refine ⟨fun _ => go 60 ?_,fun g => absurd (show true = false from g) Bool.true_eq_false.mp⟩
        show CallThen _ _ _ _ _ _
        refine call_sub [6,7] (w_mkDrop x gx j okx (by omega) (by omega)) rfl rfl ⟨⟨rfl,rfl⟩,⟨rfl,rfl⟩,trivial⟩ (congrArg (fun z : Int => [V.ptr (.loc 6) 0,V.int .i64 z]) ej) rfl rfl ?_
        rintro z T1 ⟨g',rfl,rfl⟩
        refine ⟨rfl,?_⟩
        show Goes _ _ _ _
        refine goes_drawX [(3,false),(5,false)] 60 ?_
        refine ⟨[1],.int .i64 m,[],fun gs hg => fact_lend 3 [1] hg rfl rfl rfl cl1 (fun T' hT => ⟨.cut ((hT 1 (by simp)).trans rfl) (by simp) (pieces_apart _) (row_lent e1 p2),trivial⟩) rfl rfl,trivial,?_⟩
        refine ⟨[1],.tup [],[(1,some (rowVec e1 (rowTake (min j m) p2) ga))],fun gs hg => fact_sub1 1 hg rfl rfl rfl rfl rfl (w_rowTake e1 p2 ga (min j m) (by omega) p2ok.p) (congrArg (fun z => [V.osl (.loc 1) ga e1.length p2.length,V.int .i64 z]) ((ite_min _ _).trans (congrArg (fun z => min z m) ej))) rfl (fun _ => rfl),trivial,?_⟩
        refine ⟨by kernel_rfl,?_⟩
        show Goes _ _ _ _
        refine goes_drawX [(3,false),(5,false)] 60 ?_
        refine ⟨[3],.int .i64 n,[],fun gs hg => fact_lend 3 [3] hg rfl rfl rfl cl (fun T' hT => ⟨.cut ((hT 3 (by simp)).trans rfl) (by simp) (pieces_apart _) (row_lent e2 q1),trivial⟩) rfl rfl,trivial,?_⟩
        refine ⟨[3],.tup [],[(3,some (rowVec e2 (rowTake (min j n) q1) gb))],fun gs hg => fact_sub1 3 hg rfl rfl rfl rfl rfl (w_rowTake e2 q1 gb (min j n) (by omega) q1ok.p) (congrArg (fun z => [V.osl (.loc 3) gb e2.length q1.length,V.int .i64 z]) ((ite_min _ _).trans (congrArg (fun z => min z n) ej))) rfl (fun _ => rfl),trivial,?_⟩
        refine ⟨by kernel_rfl,?_⟩
        show Goes _ _ _ _
        refine again _ e1 e2 g' (CpTo.both (s:=⟨_,q,x,_⟩) p1 q1 n true true m false p2 j hh hf2 hq hp rfl hj) _ _ ⟨⟨congrArg V.str hu,rfl⟩,⟨rfl,rfl⟩,⟨rfl,rfl⟩,⟨rfl,rfl⟩,trivial⟩ ⟨⟨rfl,rfl⟩,⟨rfl,rfl⟩,⟨rfl,rfl⟩,⟨rfl,rfl⟩,⟨?_,rfl⟩,⟨?_,rfl⟩,⟨rfl,rfl⟩,⟨rfl,rfl⟩,trivial⟩
        ·show some (HObj.box [V.osl (.loc 1) ga e1.length p2.length]) = some (boxAt 1 e1 (rowTake (min j m) p2) ga)
         rw [boxAt,rowTake_len]
        ·show some (HObj.box [V.osl (.loc 3) gb e2.length q1.length]) = some (boxAt 3 e2 (rowTake (min j n) q1) gb)
         rw [boxAt,rowTake_len]
       | false =>
        refine ⟨fun g => absurd (show false = true from g) Bool.false_ne_true,fun _ => go 60 ?_⟩
        have x3:=mk_keep okx
        have x4:=okx.k
        refine ⟨by constructor <;> (simp only;omega),?_⟩
        show Goes _ _ _ _
        refine goes_drawX [(3,false),(5,false)] 60 ?_
        refine ⟨[1],.int .i64 m,[],fun gs hg => fact_lend 3 [1] hg rfl rfl rfl cl1 (fun T' hT => ⟨.cut ((hT 1 (by simp)).trans rfl) (by simp) (pieces_apart _) (row_lent e1 p2),trivial⟩) rfl rfl,trivial,?_⟩
        refine ⟨[1],.tup [],[(1,some (rowVec e1 (rowTake (min j m) p2) ga))],fun gs hg => fact_sub1 1 hg rfl rfl rfl rfl rfl (w_rowTake e1 p2 ga (min j m) (by omega) p2ok.p) (congrArg (fun z => [V.osl (.loc 1) ga e1.length p2.length,V.int .i64 z]) ((ite_min _ _).trans (congrArg (fun z => min z m) ej))) rfl (fun _ => rfl),trivial,?_⟩
        refine ⟨by kernel_rfl,?_⟩
        show Goes _ _ _ _
        refine goes_drawX [(3,false),(5,false)] 60 ?_
        refine ⟨[3],.int .i64 n,[],fun gs hg => fact_lend 3 [3] hg rfl rfl rfl cl (fun T' hT => ⟨.cut ((hT 3 (by simp)).trans rfl) (by simp) (pieces_apart _) (row_lent e2 q1),trivial⟩) rfl rfl,trivial,?_⟩
        refine ⟨[3],.tup [],[(3,some (rowVec e2 (rowTake (min j n) q1) gb))],fun gs hg => fact_sub1 3 hg rfl rfl rfl rfl rfl (w_rowTake e2 q1 gb (min j n) (by omega) q1ok.p) (congrArg (fun z => [V.osl (.loc 3) gb e2.length q1.length,V.int .i64 z]) ((ite_min _ _).trans (congrArg (fun z => min z n) ej))) rfl (fun _ => rfl),trivial,?_⟩
        refine ⟨by kernel_rfl,?_⟩
        show Goes _ _ _ _
        refine again _ e1 e2 gx (CpTo.both (s:=⟨_,q,x,_⟩) p1 q1 n false true m false p2 j hh hf2 hq hp rfl hj) _ _ ⟨⟨congrArg V.str hu,rfl⟩,⟨rfl,rfl⟩,⟨rfl,rfl⟩,⟨rfl,rfl⟩,trivial⟩ ⟨⟨rfl,rfl⟩,⟨rfl,rfl⟩,⟨rfl,rfl⟩,⟨rfl,rfl⟩,⟨?_,rfl⟩,⟨?_,rfl⟩,⟨?_,rfl⟩,⟨rfl,rfl⟩,trivial⟩
        ·show some (HObj.box [V.osl (.loc 1) ga e1.length p2.length]) = some (boxAt 1 e1 (rowTake (min j m) p2) ga)
         rw [boxAt,rowTake_len]
        ·show some (HObj.box [V.osl (.loc 3) gb e2.length q1.length]) = some (boxAt 3 e2 (rowTake (min j n) q1) gb)
         rw [boxAt,rowTake_len]
        ·exact congrArg (fun z : Int => some (HObj.box [V.osl (.loc 7) gx 0 x.l.length,V.int .i64 (x.keep + z)])) ej
     | true =>
      refine ⟨fun g => absurd (show false = true from g) Bool.false_ne_true,fun _ => go 60 ?_⟩
      cases more with
      | false =>
       refine ⟨fun _ => go 60 ?_,fun g => absurd (show true = false from g) Bool.true_eq_false.mp⟩
       have ej : m = j:=hj.symm
       cases gone with
       | true =>
        refine ⟨fun _ => go 60 ?_,fun g => absurd (show true = false from g) Bool.true_eq_false.mp⟩
        show CallThen _ _ _ _ _ _
        refine call_sub [6,7] (w_mkDrop x gx j okx (by omega) (by omega)) rfl rfl ⟨⟨rfl,rfl⟩,⟨rfl,rfl⟩,trivial⟩ (congrArg (fun z : Int => [V.ptr (.loc 6) 0,V.int .i64 z]) ej) rfl rfl ?_
        rintro z T1 ⟨g',rfl,rfl⟩
        refine ⟨rfl,?_⟩
        show Goes _ _ _ _
        refine goes_drawX [(3,false),(5,false)] 60 ?_
        refine ⟨[1],.int .i64 m,[],fun gs hg => fact_lend 3 [1] hg rfl rfl rfl cl1 (fun T' hT => ⟨.cut ((hT 1 (by simp)).trans rfl) (by simp) (pieces_apart _) (row_lent e1 p2),trivial⟩) rfl rfl,trivial,?_⟩
        refine ⟨[1],.tup [],[(1,some (rowVec e1 (rowTake (min j m) p2) ga))],fun gs hg => fact_sub1 1 hg rfl rfl rfl rfl rfl (w_rowTake e1 p2 ga (min j m) (by omega) p2ok.p) (congrArg (fun z => [V.osl (.loc 1) ga e1.length p2.length,V.int .i64 z]) ((ite_min _ _).trans (congrArg (fun z => min z m) ej))) rfl (fun _ => rfl),trivial,?_⟩
        refine ⟨by kernel_rfl,?_⟩
        show Goes _ _ _ _
        refine goes_drawX [(3,false),(5,false)] 60 ?_
        refine ⟨[3],.int .i64 n,[],fun gs hg => fact_lend 3 [3] hg rfl rfl rfl cl (fun T' hT => ⟨.cut ((hT 3 (by simp)).trans rfl) (by simp) (pieces_apart _) (row_lent e2 q1),trivial⟩) rfl rfl,trivial,?_⟩
        refine ⟨[3],.tup [],[(3,some (rowVec e2 (rowTake (min j n) q1) gb))],fun gs hg => fact_sub1 3 hg rfl rfl rfl rfl rfl (w_rowTake e2 q1 gb (min j n) (by omega) q1ok.p) (congrArg (fun z => [V.osl (.loc 3) gb e2.length q1.length,V.int .i64 z]) ((ite_min _ _).trans (congrArg (fun z => min z n) ej))) rfl (fun _ => rfl),trivial,?_⟩
        refine ⟨by kernel_rfl,?_⟩
        show Goes _ _ _ _
        refine again _ e1 e2 g' (CpTo.both (s:=⟨_,q,x,_⟩) p1 q1 n true false m true p2 j hh hf2 hq hp rfl hj) _ _ ⟨⟨congrArg V.str hu,rfl⟩,⟨rfl,rfl⟩,⟨rfl,rfl⟩,⟨rfl,rfl⟩,trivial⟩ ⟨⟨rfl,rfl⟩,⟨rfl,rfl⟩,⟨rfl,rfl⟩,⟨rfl,rfl⟩,⟨?_,rfl⟩,⟨?_,rfl⟩,⟨rfl,rfl⟩,⟨rfl,rfl⟩,trivial⟩
        ·show some (HObj.box [V.osl (.loc 1) ga e1.length p2.length]) = some (boxAt 1 e1 (rowTake (min j m) p2) ga)
         rw [boxAt,rowTake_len]
        ·show some (HObj.box [V.osl (.loc 3) gb e2.length q1.length]) = some (boxAt 3 e2 (rowTake (min j n) q1) gb)
         rw [boxAt,rowTake_len]
       | false =>
        refine ⟨fun g => absurd (show false = true from g) Bool.false_ne_true,fun _ => go 60 ?_⟩
        have x3:=mk_keep okx
        have x4:=okx.k
        refine ⟨by constructor <;> (simp only;omega),?_⟩
        show Goes _ _ _ _
        refine goes_drawX [(3,false),(5,false)] 60 ?_
        refine ⟨[1],.int .i64 m,[],fun gs hg => fact_lend 3 [1] hg rfl rfl rfl cl1 (fun T' hT => ⟨.cut ((hT 1 (by simp)).trans rfl) (by simp) (pieces_apart _) (row_lent e1 p2),trivial⟩) rfl rfl,trivial,?_⟩
        refine ⟨[1],.tup [],[(1,some (rowVec e1 (rowTake (min j m) p2) ga))],fun gs hg => fact_sub1 1 hg rfl rfl rfl rfl rfl (w_rowTake e1 p2 ga (min j m) (by omega) p2ok.p) (congrArg (fun z => [V.osl (.loc 1) ga e1.length p2.length,V.int .i64 z]) ((ite_min _ _).trans (congrArg (fun z => min z m) ej))) rfl (fun _ => rfl),trivial,?_⟩
        refine ⟨by kernel_rfl,?_⟩
        show Goes _ _ _ _
        refine goes_drawX [(3,false),(5,false)] 60 ?_
        refine ⟨[3],.int .i64 n,[],fun gs hg => fact_lend 3 [3] hg rfl rfl rfl cl (fun T' hT => ⟨.cut ((hT 3 (by simp)).trans rfl) (by simp) (pieces_apart _) (row_lent e2 q1),trivial⟩) rfl rfl,trivial,?_⟩
        refine ⟨[3],.tup [],[(3,some (rowVec e2 (rowTake (min j n) q1) gb))],fun gs hg => fact_sub1 3 hg rfl rfl rfl rfl rfl (w_rowTake e2 q1 gb (min j n) (by omega) q1ok.p) (congrArg (fun z => [V.osl (.loc 3) gb e2.length q1.length,V.int .i64 z]) ((ite_min _ _).trans (congrArg (fun z => min z n) ej))) rfl (fun _ => rfl),trivial,?_⟩
        refine ⟨by kernel_rfl,?_⟩
        show Goes _ _ _ _
        refine again _ e1 e2 gx (CpTo.both (s:=⟨_,q,x,_⟩) p1 q1 n false false m true p2 j hh hf2 hq hp rfl hj) _ _ ⟨⟨congrArg V.str hu,rfl⟩,⟨rfl,rfl⟩,⟨rfl,rfl⟩,⟨rfl,rfl⟩,trivial⟩ ⟨⟨rfl,rfl⟩,⟨rfl,rfl⟩,⟨rfl,rfl⟩,⟨rfl,rfl⟩,⟨?_,rfl⟩,⟨?_,rfl⟩,⟨?_,rfl⟩,⟨rfl,rfl⟩,trivial⟩
        ·show some (HObj.box [V.osl (.loc 1) ga e1.length p2.length]) = some (boxAt 1 e1 (rowTake (min j m) p2) ga)
         rw [boxAt,rowTake_len]
        ·show some (HObj.box [V.osl (.loc 3) gb e2.length q1.length]) = some (boxAt 3 e2 (rowTake (min j n) q1) gb)
         rw [boxAt,rowTake_len]
        ·exact congrArg (fun z : Int => some (HObj.box [V.osl (.loc 7) gx 0 x.l.length,V.int .i64 (x.keep + z)])) ej
      | true =>
       refine ⟨fun g => absurd (show false = true from g) Bool.false_ne_true,fun _ => go 60 ?_⟩
       refine ⟨fun _ => go 60 ?_,fun g => absurd (show true = false from g) Bool.true_eq_false.mp⟩
       have ej : (if m < n then m else n) = j:=by rw [hj];exact ite_min _ _
       cases gone with
       | true =>
        refine ⟨fun _ => go 60 ?_,fun g => absurd (show true = false from g) Bool.true_eq_false.mp⟩
        show CallThen _ _ _ _ _ _
        refine call_sub [6,7] (w_mkDrop x gx j okx (by omega) (by omega)) rfl rfl ⟨⟨rfl,rfl⟩,⟨rfl,rfl⟩,trivial⟩ (congrArg (fun z : Int => [V.ptr (.loc 6) 0,V.int .i64 z]) ej) rfl rfl ?_
        rintro z T1 ⟨g',rfl,rfl⟩
        refine ⟨rfl,?_⟩
        show Goes _ _ _ _
        refine goes_drawX [(3,false),(5,false)] 60 ?_
        refine ⟨[1],.int .i64 m,[],fun gs hg => fact_lend 3 [1] hg rfl rfl rfl cl1 (fun T' hT => ⟨.cut ((hT 1 (by simp)).trans rfl) (by simp) (pieces_apart _) (row_lent e1 p2),trivial⟩) rfl rfl,trivial,?_⟩
        refine ⟨[1],.tup [],[(1,some (rowVec e1 (rowTake (min j m) p2) ga))],fun gs hg => fact_sub1 1 hg rfl rfl rfl rfl rfl (w_rowTake e1 p2 ga (min j m) (by omega) p2ok.p) (congrArg (fun z => [V.osl (.loc 1) ga e1.length p2.length,V.int .i64 z]) ((ite_min _ _).trans (congrArg (fun z => min z m) ej))) rfl (fun _ => rfl),trivial,?_⟩
        refine ⟨by kernel_rfl,?_⟩
        show Goes _ _ _ _
        refine goes_drawX [(3,false),(5,false)] 60 ?_
        refine ⟨[3],.int .i64 n,[],fun gs hg => fact_lend 3 [3] hg rfl rfl rfl cl (fun T' hT => ⟨.cut ((hT 3 (by simp)).trans rfl) (by simp) (pieces_apart _) (row_lent e2 q1),trivial⟩) rfl rfl,trivial,?_⟩
        refine ⟨[3],.tup [],[(3,some (rowVec e2 (rowTake (min j n) q1) gb))],fun gs hg => fact_sub1 3 hg rfl rfl rfl rfl rfl (w_rowTake e2 q1 gb (min j n) (by omega) q1ok.p) (congrArg (fun z => [V.osl (.loc 3) gb e2.length q1.length,V.int .i64 z]) ((ite_min _ _).trans (congrArg (fun z => min z n) ej))) rfl (fun _ => rfl),trivial,?_⟩
        refine ⟨by kernel_rfl,?_⟩
        show Goes _ _ _ _
        refine again _ e1 e2 g' (CpTo.both (s:=⟨_,q,x,_⟩) p1 q1 n true true m true p2 j hh hf2 hq hp rfl hj) _ _ ⟨⟨congrArg V.str hu,rfl⟩,⟨rfl,rfl⟩,⟨rfl,rfl⟩,⟨rfl,rfl⟩,trivial⟩ ⟨⟨rfl,rfl⟩,⟨rfl,rfl⟩,⟨rfl,rfl⟩,⟨rfl,rfl⟩,⟨?_,rfl⟩,⟨?_,rfl⟩,⟨rfl,rfl⟩,⟨rfl,rfl⟩,trivial⟩
        ·show some (HObj.box [V.osl (.loc 1) ga e1.length p2.length]) = some (boxAt 1 e1 (rowTake (min j m) p2) ga)
         rw [boxAt,rowTake_len]
        ·show some (HObj.box [V.osl (.loc 3) gb e2.length q1.length]) = some (boxAt 3 e2 (rowTake (min j n) q1) gb)
         rw [boxAt,rowTake_len]
       | false =>
        refine ⟨fun g => absurd (show false = true from g) Bool.false_ne_true,fun _ => go 60 ?_⟩
        have x3:=mk_keep okx
        have x4:=okx.k
        refine ⟨by constructor <;> (simp only;omega),?_⟩
        show Goes _ _ _ _
        refine goes_drawX [(3,false),(5,false)] 60 ?_
        refine ⟨[1],.int .i64 m,[],fun gs hg => fact_lend 3 [1] hg rfl rfl rfl cl1 (fun T' hT => ⟨.cut ((hT 1 (by simp)).trans rfl) (by simp) (pieces_apart _) (row_lent e1 p2),trivial⟩) rfl rfl,trivial,?_⟩
        refine ⟨[1],.tup [],[(1,some (rowVec e1 (rowTake (min j m) p2) ga))],fun gs hg => fact_sub1 1 hg rfl rfl rfl rfl rfl (w_rowTake e1 p2 ga (min j m) (by omega) p2ok.p) (congrArg (fun z => [V.osl (.loc 1) ga e1.length p2.length,V.int .i64 z]) ((ite_min _ _).trans (congrArg (fun z => min z m) ej))) rfl (fun _ => rfl),trivial,?_⟩
        refine ⟨by kernel_rfl,?_⟩
        show Goes _ _ _ _
        refine goes_drawX [(3,false),(5,false)] 60 ?_
        refine ⟨[3],.int .i64 n,[],fun gs hg => fact_lend 3 [3] hg rfl rfl rfl cl (fun T' hT => ⟨.cut ((hT 3 (by simp)).trans rfl) (by simp) (pieces_apart _) (row_lent e2 q1),trivial⟩) rfl rfl,trivial,?_⟩
        refine ⟨[3],.tup [],[(3,some (rowVec e2 (rowTake (min j n) q1) gb))],fun gs hg => fact_sub1 3 hg rfl rfl rfl rfl rfl (w_rowTake e2 q1 gb (min j n) (by omega) q1ok.p) (congrArg (fun z => [V.osl (.loc 3) gb e2.length q1.length,V.int .i64 z]) ((ite_min _ _).trans (congrArg (fun z => min z n) ej))) rfl (fun _ => rfl),trivial,?_⟩
        refine ⟨by kernel_rfl,?_⟩
        show Goes _ _ _ _
        refine again _ e1 e2 gx (CpTo.both (s:=⟨_,q,x,_⟩) p1 q1 n false true m true p2 j hh hf2 hq hp rfl hj) _ _ ⟨⟨congrArg V.str hu,rfl⟩,⟨rfl,rfl⟩,⟨rfl,rfl⟩,⟨rfl,rfl⟩,trivial⟩ ⟨⟨rfl,rfl⟩,⟨rfl,rfl⟩,⟨rfl,rfl⟩,⟨rfl,rfl⟩,⟨?_,rfl⟩,⟨?_,rfl⟩,⟨?_,rfl⟩,⟨rfl,rfl⟩,trivial⟩
        ·show some (HObj.box [V.osl (.loc 1) ga e1.length p2.length]) = some (boxAt 1 e1 (rowTake (min j m) p2) ga)
         rw [boxAt,rowTake_len]
        ·show some (HObj.box [V.osl (.loc 3) gb e2.length q1.length]) = some (boxAt 3 e2 (rowTake (min j n) q1) gb)
         rw [boxAt,rowTake_len]
        ·exact congrArg (fun z : Int => some (HObj.box [V.osl (.loc 7) gx 0 x.l.length,V.int .i64 (x.keep + z)])) ej
  ·have hemp : fr.isEmpty = false:=by simpa using he
   obtain ⟨rfl,rfl⟩ : u = fr ∧ p1 = p:=by
    have hf0:=hf
    rw [hemp,cond_false] at hf0
    injection hf0 with e1 e2
    exact ⟨e1.symm,e2.symm⟩
   show CallThen _ _ _ _ _ _
   refine call_sub [3] cq rfl rfl ⟨⟨rfl,rfl⟩,trivial⟩ rfl rfl rfl ?_
   rintro z T1 ⟨rfl,rfl⟩
   refine ⟨rfl,?_⟩
   refine ⟨fun g3 => (by cases g3),fun g3 => go 60 ?_⟩
   refine ⟨fun g4 => absurd (of_decide_eq_true g4) he,fun g4 => go 60 ?_⟩
   show CallThen _ _ _ _ _ _
   refine call_sub [5,3] cr rfl rfl ⟨⟨rfl,rfl⟩,⟨rfl,rfl⟩,trivial⟩ rfl rfl rfl ?_
   rintro z T1 ⟨rfl,e2,-,rfl⟩
   refine ⟨rfl,?_⟩
   refine ⟨fun g5 => go 60 ?_,fun g5 => go 60 ?_⟩
   ·have hu : u ≠ []:=by simpa using g5
    have hl:=List.length_pos_iff.2 hu
    have hn1:=(run_pos qis).1
    have hk1 : 1 ≤ k ∧ k ≤ u.length:=by
     rw [hk]
     cases more with
     | true => have:=hn1 rfl;simp only [cond_true];omega
     | false => simp only [cond_false];omega
    have hk2 : (u.length : Int) ≤ 300000000000:=by omega
    cases more with
    | true =>
     have ek : (if (u.length : Int) < n then (u.length : Int) else n) = k:=by rw [hk];exact ite_min _ _
     refine ⟨fun g => absurd (show false = true from g) Bool.false_ne_true,fun _ => go 60 ?_⟩
     cases gone with
     | true =>
      refine ⟨fun g => absurd (show false = true from g) Bool.false_ne_true,fun _ => go 60 ?_⟩
      refine ⟨by simp only;omega,by simp only;omega,Int.le_refl _,?_⟩
      show Goes _ _ _ _
      refine goes_drawX [(3,false),(5,false)] 60 ?_
      refine ⟨[3],.int .i64 n,[],fun gs hg => fact_lend 3 [3] hg rfl rfl rfl cl (fun T' hT => ⟨.cut ((hT 3 (by simp)).trans rfl) (by simp) (pieces_apart _) (row_lent e2 q1),trivial⟩) rfl rfl,trivial,?_⟩
      refine ⟨[3],.tup [],[(3,some (rowVec e2 (rowTake (min k n) q1) gb))],fun gs hg => fact_sub1 3 hg rfl rfl rfl rfl rfl (w_rowTake e2 q1 gb (min k n) (by omega) q1ok.p) (congrArg (fun z => [V.osl (.loc 3) gb e2.length q1.length,V.int .i64 z]) ((ite_min _ _).trans (congrArg (fun z => min z n) ek))) rfl (fun _ => rfl),trivial,?_⟩
      refine ⟨by kernel_rfl,?_⟩
      show Goes _ _ _ _
      refine again _ d1 e2 gx (CpTo.old (s:=⟨_,q,x,_⟩) u p1 q1 n true _ k hh hf hq hu hk) _ _ ⟨⟨?_,rfl⟩,⟨rfl,rfl⟩,⟨rfl,rfl⟩,⟨rfl,rfl⟩,trivial⟩ ⟨⟨rfl,rfl⟩,⟨rfl,rfl⟩,⟨rfl,rfl⟩,⟨rfl,rfl⟩,⟨congrArg (fun z => some (HObj.box [V.osl (.loc 1) ga d1.length z])) hlp,rfl⟩,⟨?_,rfl⟩,⟨rfl,rfl⟩,⟨rfl,rfl⟩,trivial⟩
      ·exact congrArg V.str ((congrArg (fun z : Int => (u.drop z.toNat).take (((u.length : Int)).toNat - z.toNat)) ek).trans (List.take_of_length_le (by simp)))
      ·show some (HObj.box [V.osl (.loc 3) gb e2.length q1.length]) = some (boxAt 3 e2 (rowTake (min k n) q1) gb)
       rw [boxAt,rowTake_len]
     | false =>
      refine ⟨fun _ => go 60 ?_,fun g => absurd (show true = false from g) Bool.true_eq_false.mp⟩
      refine ⟨Int.le_refl _,by simp only;omega,by simp only;omega,?_⟩
      show CallThen _ _ _ _ _ _
      refine call_sub [6,7] (w_mkPut x gx (u.take k.toNat) okx (by omega) (by rw [List.length_take];omega)) rfl rfl ⟨⟨rfl,rfl⟩,⟨rfl,rfl⟩,trivial⟩ (congrArg (fun z : Int => [V.ptr (.loc 6) 0,V.str (u.take z.toNat)]) ek) rfl rfl ?_
      rintro z T1 ⟨g',rfl,rfl⟩
      refine ⟨rfl,?_⟩
      refine ⟨by simp only;omega,by simp only;omega,Int.le_refl _,?_⟩
      show Goes _ _ _ _
      refine goes_drawX [(3,false),(5,false)] 60 ?_
      refine ⟨[3],.int .i64 n,[],fun gs hg => fact_lend 3 [3] hg rfl rfl rfl cl (fun T' hT => ⟨.cut ((hT 3 (by simp)).trans rfl) (by simp) (pieces_apart _) (row_lent e2 q1),trivial⟩) rfl rfl,trivial,?_⟩
      refine ⟨[3],.tup [],[(3,some (rowVec e2 (rowTake (min k n) q1) gb))],fun gs hg => fact_sub1 3 hg rfl rfl rfl rfl rfl (w_rowTake e2 q1 gb (min k n) (by omega) q1ok.p) (congrArg (fun z => [V.osl (.loc 3) gb e2.length q1.length,V.int .i64 z]) ((ite_min _ _).trans (congrArg (fun z => min z n) ek))) rfl (fun _ => rfl),trivial,?_⟩
      refine ⟨by kernel_rfl,?_⟩
      show Goes _ _ _ _
      refine again _ d1 e2 g' (CpTo.old (s:=⟨_,q,x,_⟩) u p1 q1 n false _ k hh hf hq hu hk) _ _ ⟨⟨?_,rfl⟩,⟨rfl,rfl⟩,⟨rfl,rfl⟩,⟨rfl,rfl⟩,trivial⟩ ⟨⟨rfl,rfl⟩,⟨rfl,rfl⟩,⟨rfl,rfl⟩,⟨rfl,rfl⟩,⟨congrArg (fun z => some (HObj.box [V.osl (.loc 1) ga d1.length z])) hlp,rfl⟩,⟨?_,rfl⟩,⟨rfl,rfl⟩,⟨rfl,rfl⟩,trivial⟩
      ·exact congrArg V.str ((congrArg (fun z : Int => (u.drop z.toNat).take (((u.length : Int)).toNat - z.toNat)) ek).trans (List.take_of_length_le (by simp)))
      ·show some (HObj.box [V.osl (.loc 3) gb e2.length q1.length]) = some (boxAt 3 e2 (rowTake (min k n) q1) gb)
       rw [boxAt,rowTake_len]
    | false =>
     have ek : (if (u.length : Int) < u.length then (u.length : Int) else u.length) = k:=by rw [hk];exact ite_min _ _
     refine ⟨fun _ => go 60 ?_,fun g => absurd (show true = false from g) Bool.true_eq_false.mp⟩
     cases gone with
     | true =>
      refine ⟨fun g => absurd (show false = true from g) Bool.false_ne_true,fun _ => go 60 ?_⟩
      refine ⟨by simp only;omega,by simp only;omega,Int.le_refl _,?_⟩
      show Goes _ _ _ _
      refine goes_drawX [(3,false),(5,false)] 60 ?_
      refine ⟨[3],.int .i64 n,[],fun gs hg => fact_lend 3 [3] hg rfl rfl rfl cl (fun T' hT => ⟨.cut ((hT 3 (by simp)).trans rfl) (by simp) (pieces_apart _) (row_lent e2 q1),trivial⟩) rfl rfl,trivial,?_⟩
      refine ⟨[3],.tup [],[(3,some (rowVec e2 (rowTake (min k n) q1) gb))],fun gs hg => fact_sub1 3 hg rfl rfl rfl rfl rfl (w_rowTake e2 q1 gb (min k n) (by omega) q1ok.p) (congrArg (fun z => [V.osl (.loc 3) gb e2.length q1.length,V.int .i64 z]) ((ite_min _ _).trans (congrArg (fun z => min z n) ek))) rfl (fun _ => rfl),trivial,?_⟩
      refine ⟨by kernel_rfl,?_⟩
      show Goes _ _ _ _
      refine again _ d1 e2 gx (CpTo.old (s:=⟨_,q,x,_⟩) u p1 q1 n true _ k hh hf hq hu hk) _ _ ⟨⟨?_,rfl⟩,⟨rfl,rfl⟩,⟨rfl,rfl⟩,⟨rfl,rfl⟩,trivial⟩ ⟨⟨rfl,rfl⟩,⟨rfl,rfl⟩,⟨rfl,rfl⟩,⟨rfl,rfl⟩,⟨congrArg (fun z => some (HObj.box [V.osl (.loc 1) ga d1.length z])) hlp,rfl⟩,⟨?_,rfl⟩,⟨rfl,rfl⟩,⟨rfl,rfl⟩,trivial⟩
      ·exact congrArg V.str ((congrArg (fun z : Int => (u.drop z.toNat).take (((u.length : Int)).toNat - z.toNat)) ek).trans (List.take_of_length_le (by simp)))
      ·show some (HObj.box [V.osl (.loc 3) gb e2.length q1.length]) = some (boxAt 3 e2 (rowTake (min k n) q1) gb)
       rw [boxAt,rowTake_len]
     | false =>
      refine ⟨fun _ => go 60 ?_,fun g => absurd (show true = false from g) Bool.true_eq_false.mp⟩
      refine ⟨Int.le_refl _,by simp only;omega,by simp only;omega,?_⟩
      show CallThen _ _ _ _ _ _
      refine call_sub [6,7] (w_mkPut x gx (u.take k.toNat) okx (by omega) (by rw [List.length_take];omega)) rfl rfl ⟨⟨rfl,rfl⟩,⟨rfl,rfl⟩,trivial⟩ (congrArg (fun z : Int => [V.ptr (.loc 6) 0,V.str (u.take z.toNat)]) ek) rfl rfl ?_
      rintro z T1 ⟨g',rfl,rfl⟩
      refine ⟨rfl,?_⟩
      refine ⟨by simp only;omega,by simp only;omega,Int.le_refl _,?_⟩
      show Goes _ _ _ _
      refine goes_drawX [(3,false),(5,false)] 60 ?_
      refine ⟨[3],.int .i64 n,[],fun gs hg => fact_lend 3 [3] hg rfl rfl rfl cl (fun T' hT => ⟨.cut ((hT 3 (by simp)).trans rfl) (by simp) (pieces_apart _) (row_lent e2 q1),trivial⟩) rfl rfl,trivial,?_⟩
      refine ⟨[3],.tup [],[(3,some (rowVec e2 (rowTake (min k n) q1) gb))],fun gs hg => fact_sub1 3 hg rfl rfl rfl rfl rfl (w_rowTake e2 q1 gb (min k n) (by omega) q1ok.p) (congrArg (fun z => [V.osl (.loc 3) gb e2.length q1.length,V.int .i64 z]) ((ite_min _ _).trans (congrArg (fun z => min z n) ek))) rfl (fun _ => rfl),trivial,?_⟩
      refine ⟨by kernel_rfl,?_⟩
      show Goes _ _ _ _
      refine again _ d1 e2 g' (CpTo.old (s:=⟨_,q,x,_⟩) u p1 q1 n false _ k hh hf hq hu hk) _ _ ⟨⟨?_,rfl⟩,⟨rfl,rfl⟩,⟨rfl,rfl⟩,⟨rfl,rfl⟩,trivial⟩ ⟨⟨rfl,rfl⟩,⟨rfl,rfl⟩,⟨rfl,rfl⟩,⟨rfl,rfl⟩,⟨congrArg (fun z => some (HObj.box [V.osl (.loc 1) ga d1.length z])) hlp,rfl⟩,⟨?_,rfl⟩,⟨rfl,rfl⟩,⟨rfl,rfl⟩,trivial⟩
      ·exact congrArg V.str ((congrArg (fun z : Int => (u.drop z.toNat).take (((u.length : Int)).toNat - z.toNat)) ek).trans (List.take_of_length_le (by simp)))
      ·show some (HObj.box [V.osl (.loc 3) gb e2.length q1.length]) = some (boxAt 3 e2 (rowTake (min k n) q1) gb)
       rw [boxAt,rowTake_len]
   ·have hu : u = []:=by simpa using g5
    have hf2 : (bif _ then rowPut _ else (_,_)) = (([] : List UInt8),p1):=hf.trans (by rw [hu])
    show CallThen _ _ _ _ _ _
    refine call_sub [4,1] cr1 rfl rfl ⟨⟨congrArg (fun z => some (some (HObj.box [V.osl (.loc 1) ga d1.length z]))) hlp,rfl⟩,⟨rfl,rfl⟩,trivial⟩ rfl rfl rfl ?_
    rintro z T1 ⟨rfl,e1,-,rfl⟩
    refine ⟨rfl,?_⟩
    cases dropped with
    | true =>
     have hm3:=hmw rfl
     refine ⟨fun _ => go 60 ?_,fun g => absurd (show true = false from g) Bool.true_eq_false.mp⟩
     show CallThen _ _ _ _ _ _
     refine call_sub [6,7] (w_mkDrop x gx m okx (by omega) (by omega)) rfl rfl ⟨⟨rfl,rfl⟩,⟨rfl,rfl⟩,trivial⟩ rfl rfl rfl ?_
     rintro z T1 ⟨g',rfl,rfl⟩
     refine ⟨rfl,?_⟩
     show CallThen _ _ _ _ _ _
     refine call_sub [1] (w_rowTake e1 p2 ga m ⟨p5,p6⟩ p2ok.p) rfl rfl ⟨⟨rfl,rfl⟩,trivial⟩ rfl rfl rfl ?_
     rintro z T1 ⟨rfl,rfl⟩
     refine ⟨rfl,?_⟩
     show Goes _ _ _ _
     refine again _ e1 e2 g' (CpTo.drop (s:=⟨_,q,x,_⟩) p1 q1 n gone more m any p2 hh hf2 hq hp) _ _ ⟨⟨congrArg V.str hu,rfl⟩,⟨rfl,rfl⟩,⟨rfl,rfl⟩,⟨rfl,rfl⟩,trivial⟩ ⟨⟨rfl,rfl⟩,⟨rfl,rfl⟩,⟨rfl,rfl⟩,⟨rfl,rfl⟩,⟨?_,rfl⟩,⟨rfl,rfl⟩,⟨rfl,rfl⟩,⟨rfl,rfl⟩,trivial⟩
     show some (HObj.box [V.osl (.loc 1) ga e1.length p2.length]) = some (boxAt 1 e1 (rowTake m p2) ga)
     rw [boxAt,rowTake_len]
    | false =>
     refine ⟨fun g => absurd (show false = true from g) Bool.false_ne_true,fun _ => go 60 ?_⟩
     cases any with
     | false =>
      refine ⟨fun _ => go 60 ?_,fun g => absurd (show true = false from g) Bool.true_eq_false.mp⟩
      cases more with
      | false =>
       refine ⟨fun _ => go 60 ?_,fun g => absurd (show true = false from g) Bool.true_eq_false.mp⟩
       have hfx:=last _ (CpTo.fin (s:=⟨_,q,x,_⟩) p1 q1 n gone m p2 hh hf2 hq hp)
       have good : R = bif !rightP x.l then ([],3) else (x.l,0):=by rw [good,hfx]
       show CallThen _ _ _ _ _ _
       refine call_sub [6,7] (w_done x gx okx (by omega)) rfl rfl ⟨⟨rfl,rfl⟩,⟨rfl,rfl⟩,trivial⟩ rfl rfl rfl ?_
       rintro z T1 ⟨rfl,rfl⟩
       refine ⟨rfl,?_⟩
       refine ⟨fun g4 => go 60 ?_,fun g4 => go 60 ?_⟩
       ·have g4 : rightP x.l = false:=by simpa using g4
        exact ⟨trivial,rfl,rfl,rfl,composeZ (by rw [good,g4];rfl)⟩
       have g4 : rightP x.l = true:=by simpa using g4
       have hres : ComposeV (x.l,0) = ComposeV R:=by rw [good,g4];rfl
       refine ⟨trivial,rfl,rfl,?_⟩
       refine ⟨rfl,?_⟩
       refine ⟨by simp,?_⟩
       exact ⟨rfl,ComposeV (x.l,0),Wk.refl _,rfl,hres⟩
      | true =>
       refine ⟨fun g => absurd (show false = true from g) Bool.false_ne_true,fun _ => go 60 ?_⟩
       refine ⟨fun g => absurd (show false = true from g) Bool.false_ne_true,fun _ => go 60 ?_⟩
       refine ⟨fun g => absurd (show false = true from g) Bool.false_ne_true,fun _ => go 60 ?_⟩
       have ej : n = j:=hj.symm
       cases gone with
       | true =>
        refine ⟨fun _ => go 60 ?_,fun g => absurd (show true = false from g) Bool.true_eq_false.mp⟩
        show CallThen _ _ _ _ _ _
        refine call_sub [6,7] (w_mkDrop x gx j okx (by omega) (by omega)) rfl rfl ⟨⟨rfl,rfl⟩,⟨rfl,rfl⟩,trivial⟩ (congrArg (fun z : Int => [V.ptr (.loc 6) 0,V.int .i64 z]) ej) rfl rfl ?_
        rintro z T1 ⟨g',rfl,rfl⟩
        refine ⟨rfl,?_⟩
        show Goes _ _ _ _
        refine goes_drawX [(3,false),(5,false)] 60 ?_
        refine ⟨[1],.int .i64 m,[],fun gs hg => fact_lend 3 [1] hg rfl rfl rfl cl1 (fun T' hT => ⟨.cut ((hT 1 (by simp)).trans rfl) (by simp) (pieces_apart _) (row_lent e1 p2),trivial⟩) rfl rfl,trivial,?_⟩
        refine ⟨[1],.tup [],[(1,some (rowVec e1 (rowTake (min j m) p2) ga))],fun gs hg => fact_sub1 1 hg rfl rfl rfl rfl rfl (w_rowTake e1 p2 ga (min j m) (by omega) p2ok.p) (congrArg (fun z => [V.osl (.loc 1) ga e1.length p2.length,V.int .i64 z]) ((ite_min _ _).trans (congrArg (fun z => min z m) ej))) rfl (fun _ => rfl),trivial,?_⟩
        refine ⟨by kernel_rfl,?_⟩
        show Goes _ _ _ _
        refine goes_drawX [(3,false),(5,false)] 60 ?_
        refine ⟨[3],.int .i64 n,[],fun gs hg => fact_lend 3 [3] hg rfl rfl rfl cl (fun T' hT => ⟨.cut ((hT 3 (by simp)).trans rfl) (by simp) (pieces_apart _) (row_lent e2 q1),trivial⟩) rfl rfl,trivial,?_⟩
        refine ⟨[3],.tup [],[(3,some (rowVec e2 (rowTake (min j n) q1) gb))],fun gs hg => fact_sub1 3 hg rfl rfl rfl rfl rfl (w_rowTake e2 q1 gb (min j n) (by omega) q1ok.p) (congrArg (fun z => [V.osl (.loc 3) gb e2.length q1.length,V.int .i64 z]) ((ite_min _ _).trans (congrArg (fun z => min z n) ej))) rfl (fun _ => rfl),trivial,?_⟩
        refine ⟨by kernel_rfl,?_⟩
        show Goes _ _ _ _
        refine again _ e1 e2 g' (CpTo.both (s:=⟨_,q,x,_⟩) p1 q1 n true true m false p2 j hh hf2 hq hp rfl hj) _ _ ⟨⟨congrArg V.str hu,rfl⟩,⟨rfl,rfl⟩,⟨rfl,rfl⟩,⟨rfl,rfl⟩,trivial⟩ ⟨⟨rfl,rfl⟩,⟨rfl,rfl⟩,⟨rfl,rfl⟩,⟨rfl,rfl⟩,⟨?_,rfl⟩,⟨?_,rfl⟩,⟨rfl,rfl⟩,⟨rfl,rfl⟩,trivial⟩
        ·show some (HObj.box [V.osl (.loc 1) ga e1.length p2.length]) = some (boxAt 1 e1 (rowTake (min j m) p2) ga)
         rw [boxAt,rowTake_len]
        ·show some (HObj.box [V.osl (.loc 3) gb e2.length q1.length]) = some (boxAt 3 e2 (rowTake (min j n) q1) gb)
         rw [boxAt,rowTake_len]
       | false =>
        refine ⟨fun g => absurd (show false = true from g) Bool.false_ne_true,fun _ => go 60 ?_⟩
        have x3:=mk_keep okx
        have x4:=okx.k
        refine ⟨by constructor <;> (simp only;omega),?_⟩
        show Goes _ _ _ _
        refine goes_drawX [(3,false),(5,false)] 60 ?_
        refine ⟨[1],.int .i64 m,[],fun gs hg => fact_lend 3 [1] hg rfl rfl rfl cl1 (fun T' hT => ⟨.cut ((hT 1 (by simp)).trans rfl) (by simp) (pieces_apart _) (row_lent e1 p2),trivial⟩) rfl rfl,trivial,?_⟩
        refine ⟨[1],.tup [],[(1,some (rowVec e1 (rowTake (min j m) p2) ga))],fun gs hg => fact_sub1 1 hg rfl rfl rfl rfl rfl (w_rowTake e1 p2 ga (min j m) (by omega) p2ok.p) (congrArg (fun z => [V.osl (.loc 1) ga e1.length p2.length,V.int .i64 z]) ((ite_min _ _).trans (congrArg (fun z => min z m) ej))) rfl (fun _ => rfl),trivial,?_⟩
        refine ⟨by kernel_rfl,?_⟩
        show Goes _ _ _ _
        refine goes_drawX [(3,false),(5,false)] 60 ?_
        refine ⟨[3],.int .i64 n,[],fun gs hg => fact_lend 3 [3] hg rfl rfl rfl cl (fun T' hT => ⟨.cut ((hT 3 (by simp)).trans rfl) (by simp) (pieces_apart _) (row_lent e2 q1),trivial⟩) rfl rfl,trivial,?_⟩
        refine ⟨[3],.tup [],[(3,some (rowVec e2 (rowTake (min j n) q1) gb))],fun gs hg => fact_sub1 3 hg rfl rfl rfl rfl rfl (w_rowTake e2 q1 gb (min j n) (by omega) q1ok.p) (congrArg (fun z => [V.osl (.loc 3) gb e2.length q1.length,V.int .i64 z]) ((ite_min _ _).trans (congrArg (fun z => min z n) ej))) rfl (fun _ => rfl),trivial,?_⟩
        refine ⟨by kernel_rfl,?_⟩
        show Goes _ _ _ _
        refine again _ e1 e2 gx (CpTo.both (s:=⟨_,q,x,_⟩) p1 q1 n false true m false p2 j hh hf2 hq hp rfl hj) _ _ ⟨⟨congrArg V.str hu,rfl⟩,⟨rfl,rfl⟩,⟨rfl,rfl⟩,⟨rfl,rfl⟩,trivial⟩ ⟨⟨rfl,rfl⟩,⟨rfl,rfl⟩,⟨rfl,rfl⟩,⟨rfl,rfl⟩,⟨?_,rfl⟩,⟨?_,rfl⟩,⟨?_,rfl⟩,⟨rfl,rfl⟩,trivial⟩
        ·show some (HObj.box [V.osl (.loc 1) ga e1.length p2.length]) = some (boxAt 1 e1 (rowTake (min j m) p2) ga)
         rw [boxAt,rowTake_len]
        ·show some (HObj.box [V.osl (.loc 3) gb e2.length q1.length]) = some (boxAt 3 e2 (rowTake (min j n) q1) gb)
         rw [boxAt,rowTake_len]
        ·exact congrArg (fun z : Int => some (HObj.box [V.osl (.loc 7) gx 0 x.l.length,V.int .i64 (x.keep + z)])) ej
     | true =>
      refine ⟨fun g => absurd (show false = true from g) Bool.false_ne_true,fun _ => go 60 ?_⟩
      cases more with
      | false =>
       refine ⟨fun _ => go 60 ?_,fun g => absurd (show true = false from g) Bool.true_eq_false.mp⟩
       have ej : m = j:=hj.symm
       cases gone with
       | true =>
        refine ⟨fun _ => go 60 ?_,fun g => absurd (show true = false from g) Bool.true_eq_false.mp⟩
        show CallThen _ _ _ _ _ _
        refine call_sub [6,7] (w_mkDrop x gx j okx (by omega) (by omega)) rfl rfl ⟨⟨rfl,rfl⟩,⟨rfl,rfl⟩,trivial⟩ (congrArg (fun z : Int => [V.ptr (.loc 6) 0,V.int .i64 z]) ej) rfl rfl ?_
        rintro z T1 ⟨g',rfl,rfl⟩
        refine ⟨rfl,?_⟩
        show Goes _ _ _ _
        refine goes_drawX [(3,false),(5,false)] 60 ?_
        refine ⟨[1],.int .i64 m,[],fun gs hg => fact_lend 3 [1] hg rfl rfl rfl cl1 (fun T' hT => ⟨.cut ((hT 1 (by simp)).trans rfl) (by simp) (pieces_apart _) (row_lent e1 p2),trivial⟩) rfl rfl,trivial,?_⟩
        refine ⟨[1],.tup [],[(1,some (rowVec e1 (rowTake (min j m) p2) ga))],fun gs hg => fact_sub1 1 hg rfl rfl rfl rfl rfl (w_rowTake e1 p2 ga (min j m) (by omega) p2ok.p) (congrArg (fun z => [V.osl (.loc 1) ga e1.length p2.length,V.int .i64 z]) ((ite_min _ _).trans (congrArg (fun z => min z m) ej))) rfl (fun _ => rfl),trivial,?_⟩
        refine ⟨by kernel_rfl,?_⟩
        show Goes _ _ _ _
        refine goes_drawX [(3,false),(5,false)] 60 ?_
        refine ⟨[3],.int .i64 n,[],fun gs hg => fact_lend 3 [3] hg rfl rfl rfl cl (fun T' hT => ⟨.cut ((hT 3 (by simp)).trans rfl) (by simp) (pieces_apart _) (row_lent e2 q1),trivial⟩) rfl rfl,trivial,?_⟩
        refine ⟨[3],.tup [],[(3,some (rowVec e2 (rowTake (min j n) q1) gb))],fun gs hg => fact_sub1 3 hg rfl rfl rfl rfl rfl (w_rowTake e2 q1 gb (min j n) (by omega) q1ok.p) (congrArg (fun z => [V.osl (.loc 3) gb e2.length q1.length,V.int .i64 z]) ((ite_min _ _).trans (congrArg (fun z => min z n) ej))) rfl (fun _ => rfl),trivial,?_⟩
        refine ⟨by kernel_rfl,?_⟩
        show Goes _ _ _ _
        refine again _ e1 e2 g' (CpTo.both (s:=⟨_,q,x,_⟩) p1 q1 n true false m true p2 j hh hf2 hq hp rfl hj) _ _ ⟨⟨congrArg V.str hu,rfl⟩,⟨rfl,rfl⟩,⟨rfl,rfl⟩,⟨rfl,rfl⟩,trivial⟩ ⟨⟨rfl,rfl⟩,⟨rfl,rfl⟩,⟨rfl,rfl⟩,⟨rfl,rfl⟩,⟨?_,rfl⟩,⟨?_,rfl⟩,⟨rfl,rfl⟩,⟨rfl,rfl⟩,trivial⟩
        ·show some (HObj.box [V.osl (.loc 1) ga e1.length p2.length]) = some (boxAt 1 e1 (rowTake (min j m) p2) ga)
         rw [boxAt,rowTake_len]
        ·show some (HObj.box [V.osl (.loc 3) gb e2.length q1.length]) = some (boxAt 3 e2 (rowTake (min j n) q1) gb)
         rw [boxAt,rowTake_len]
       | false =>
        refine ⟨fun g => absurd (show false = true from g) Bool.false_ne_true,fun _ => go 60 ?_⟩
        have x3:=mk_keep okx
        have x4:=okx.k
        refine ⟨by constructor <;> (simp only;omega),?_⟩
        show Goes _ _ _ _
        refine goes_drawX [(3,false),(5,false)] 60 ?_
        refine ⟨[1],.int .i64 m,[],fun gs hg => fact_lend 3 [1] hg rfl rfl rfl cl1 (fun T' hT => ⟨.cut ((hT 1 (by simp)).trans rfl) (by simp) (pieces_apart _) (row_lent e1 p2),trivial⟩) rfl rfl,trivial,?_⟩
        refine ⟨[1],.tup [],[(1,some (rowVec e1 (rowTake (min j m) p2) ga))],fun gs hg => fact_sub1 1 hg rfl rfl rfl rfl rfl (w_rowTake e1 p2 ga (min j m) (by omega) p2ok.p) (congrArg (fun z => [V.osl (.loc 1) ga e1.length p2.length,V.int .i64 z]) ((ite_min _ _).trans (congrArg (fun z => min z m) ej))) rfl (fun _ => rfl),trivial,?_⟩
        refine ⟨by kernel_rfl,?_⟩
        show Goes _ _ _ _
        refine goes_drawX [(3,false),(5,false)] 60 ?_
        refine ⟨[3],.int .i64 n,[],fun gs hg => fact_lend 3 [3] hg rfl rfl rfl cl (fun T' hT => ⟨.cut ((hT 3 (by simp)).trans rfl) (by simp) (pieces_apart _) (row_lent e2 q1),trivial⟩) rfl rfl,trivial,?_⟩
        refine ⟨[3],.tup [],[(3,some (rowVec e2 (rowTake (min j n) q1) gb))],fun gs hg => fact_sub1 3 hg rfl rfl rfl rfl rfl (w_rowTake e2 q1 gb (min j n) (by omega) q1ok.p) (congrArg (fun z => [V.osl (.loc 3) gb e2.length q1.length,V.int .i64 z]) ((ite_min _ _).trans (congrArg (fun z => min z n) ej))) rfl (fun _ => rfl),trivial,?_⟩
        refine ⟨by kernel_rfl,?_⟩
        show Goes _ _ _ _
        refine again _ e1 e2 gx (CpTo.both (s:=⟨_,q,x,_⟩) p1 q1 n false false m true p2 j hh hf2 hq hp rfl hj) _ _ ⟨⟨congrArg V.str hu,rfl⟩,⟨rfl,rfl⟩,⟨rfl,rfl⟩,⟨rfl,rfl⟩,trivial⟩ ⟨⟨rfl,rfl⟩,⟨rfl,rfl⟩,⟨rfl,rfl⟩,⟨rfl,rfl⟩,⟨?_,rfl⟩,⟨?_,rfl⟩,⟨?_,rfl⟩,⟨rfl,rfl⟩,trivial⟩
        ·show some (HObj.box [V.osl (.loc 1) ga e1.length p2.length]) = some (boxAt 1 e1 (rowTake (min j m) p2) ga)
         rw [boxAt,rowTake_len]
        ·show some (HObj.box [V.osl (.loc 3) gb e2.length q1.length]) = some (boxAt 3 e2 (rowTake (min j n) q1) gb)
         rw [boxAt,rowTake_len]
        ·exact congrArg (fun z : Int => some (HObj.box [V.osl (.loc 7) gx 0 x.l.length,V.int .i64 (x.keep + z)])) ej
      | true =>
       refine ⟨fun g => absurd (show false = true from g) Bool.false_ne_true,fun _ => go 60 ?_⟩
       refine ⟨fun _ => go 60 ?_,fun g => absurd (show true = false from g) Bool.true_eq_false.mp⟩
       have ej : (if m < n then m else n) = j:=by rw [hj];exact ite_min _ _
       cases gone with
       | true =>
        refine ⟨fun _ => go 60 ?_,fun g => absurd (show true = false from g) Bool.true_eq_false.mp⟩
        show CallThen _ _ _ _ _ _
        refine call_sub [6,7] (w_mkDrop x gx j okx (by omega) (by omega)) rfl rfl ⟨⟨rfl,rfl⟩,⟨rfl,rfl⟩,trivial⟩ (congrArg (fun z : Int => [V.ptr (.loc 6) 0,V.int .i64 z]) ej) rfl rfl ?_
        rintro z T1 ⟨g',rfl,rfl⟩
        refine ⟨rfl,?_⟩
        show Goes _ _ _ _
        refine goes_drawX [(3,false),(5,false)] 60 ?_
        refine ⟨[1],.int .i64 m,[],fun gs hg => fact_lend 3 [1] hg rfl rfl rfl cl1 (fun T' hT => ⟨.cut ((hT 1 (by simp)).trans rfl) (by simp) (pieces_apart _) (row_lent e1 p2),trivial⟩) rfl rfl,trivial,?_⟩
        refine ⟨[1],.tup [],[(1,some (rowVec e1 (rowTake (min j m) p2) ga))],fun gs hg => fact_sub1 1 hg rfl rfl rfl rfl rfl (w_rowTake e1 p2 ga (min j m) (by omega) p2ok.p) (congrArg (fun z => [V.osl (.loc 1) ga e1.length p2.length,V.int .i64 z]) ((ite_min _ _).trans (congrArg (fun z => min z m) ej))) rfl (fun _ => rfl),trivial,?_⟩
        refine ⟨by kernel_rfl,?_⟩
        show Goes _ _ _ _
        refine goes_drawX [(3,false),(5,false)] 60 ?_
        refine ⟨[3],.int .i64 n,[],fun gs hg => fact_lend 3 [3] hg rfl rfl rfl cl (fun T' hT => ⟨.cut ((hT 3 (by simp)).trans rfl) (by simp) (pieces_apart _) (row_lent e2 q1),trivial⟩) rfl rfl,trivial,?_⟩
        refine ⟨[3],.tup [],[(3,some (rowVec e2 (rowTake (min j n) q1) gb))],fun gs hg => fact_sub1 3 hg rfl rfl rfl rfl rfl (w_rowTake e2 q1 gb (min j n) (by omega) q1ok.p) (congrArg (fun z => [V.osl (.loc 3) gb e2.length q1.length,V.int .i64 z]) ((ite_min _ _).trans (congrArg (fun z => min z n) ej))) rfl (fun _ => rfl),trivial,?_⟩
        refine ⟨by kernel_rfl,?_⟩
        show Goes _ _ _ _
        refine again _ e1 e2 g' (CpTo.both (s:=⟨_,q,x,_⟩) p1 q1 n true true m true p2 j hh hf2 hq hp rfl hj) _ _ ⟨⟨congrArg V.str hu,rfl⟩,⟨rfl,rfl⟩,⟨rfl,rfl⟩,⟨rfl,rfl⟩,trivial⟩ ⟨⟨rfl,rfl⟩,⟨rfl,rfl⟩,⟨rfl,rfl⟩,⟨rfl,rfl⟩,⟨?_,rfl⟩,⟨?_,rfl⟩,⟨rfl,rfl⟩,⟨rfl,rfl⟩,trivial⟩
        ·show some (HObj.box [V.osl (.loc 1) ga e1.length p2.length]) = some (boxAt 1 e1 (rowTake (min j m) p2) ga)
         rw [boxAt,rowTake_len]
        ·show some (HObj.box [V.osl (.loc 3) gb e2.length q1.length]) = some (boxAt 3 e2 (rowTake (min j n) q1) gb)
         rw [boxAt,rowTake_len]
       | false =>
        refine ⟨fun g => absurd (show false = true from g) Bool.false_ne_true,fun _ => go 60 ?_⟩
        have x3:=mk_keep okx
        have x4:=okx.k
        refine ⟨by constructor <;> (simp only;omega),?_⟩
        show Goes _ _ _ _
        refine goes_drawX [(3,false),(5,false)] 60 ?_
        refine ⟨[1],.int .i64 m,[],fun gs hg => fact_lend 3 [1] hg rfl rfl rfl cl1 (fun T' hT => ⟨.cut ((hT 1 (by simp)).trans rfl) (by simp) (pieces_apart _) (row_lent e1 p2),trivial⟩) rfl rfl,trivial,?_⟩
        refine ⟨[1],.tup [],[(1,some (rowVec e1 (rowTake (min j m) p2) ga))],fun gs hg => fact_sub1 1 hg rfl rfl rfl rfl rfl (w_rowTake e1 p2 ga (min j m) (by omega) p2ok.p) (congrArg (fun z => [V.osl (.loc 1) ga e1.length p2.length,V.int .i64 z]) ((ite_min _ _).trans (congrArg (fun z => min z m) ej))) rfl (fun _ => rfl),trivial,?_⟩
        refine ⟨by kernel_rfl,?_⟩
        show Goes _ _ _ _
        refine goes_drawX [(3,false),(5,false)] 60 ?_
        refine ⟨[3],.int .i64 n,[],fun gs hg => fact_lend 3 [3] hg rfl rfl rfl cl (fun T' hT => ⟨.cut ((hT 3 (by simp)).trans rfl) (by simp) (pieces_apart _) (row_lent e2 q1),trivial⟩) rfl rfl,trivial,?_⟩
        refine ⟨[3],.tup [],[(3,some (rowVec e2 (rowTake (min j n) q1) gb))],fun gs hg => fact_sub1 3 hg rfl rfl rfl rfl rfl (w_rowTake e2 q1 gb (min j n) (by omega) q1ok.p) (congrArg (fun z => [V.osl (.loc 3) gb e2.length q1.length,V.int .i64 z]) ((ite_min _ _).trans (congrArg (fun z => min z n) ej))) rfl (fun _ => rfl),trivial,?_⟩
        refine ⟨by kernel_rfl,?_⟩
        show Goes _ _ _ _
        refine again _ e1 e2 gx (CpTo.both (s:=⟨_,q,x,_⟩) p1 q1 n false true m true p2 j hh hf2 hq hp rfl hj) _ _ ⟨⟨congrArg V.str hu,rfl⟩,⟨rfl,rfl⟩,⟨rfl,rfl⟩,⟨rfl,rfl⟩,trivial⟩ ⟨⟨rfl,rfl⟩,⟨rfl,rfl⟩,⟨rfl,rfl⟩,⟨rfl,rfl⟩,⟨?_,rfl⟩,⟨?_,rfl⟩,⟨?_,rfl⟩,⟨rfl,rfl⟩,trivial⟩
        ·show some (HObj.box [V.osl (.loc 1) ga e1.length p2.length]) = some (boxAt 1 e1 (rowTake (min j m) p2) ga)
         rw [boxAt,rowTake_len]
        ·show some (HObj.box [V.osl (.loc 3) gb e2.length q1.length]) = some (boxAt 3 e2 (rowTake (min j n) q1) gb)
         rw [boxAt,rowTake_len]
        ·exact congrArg (fun z : Int => some (HObj.box [V.osl (.loc 7) gx 0 x.l.length,V.int .i64 (x.keep + z)])) ej
end Bow
/- W60: two edits of one leaf; square.Behind and Both, whole. -/
namespace Bow
open Go Go.Proofs
set_option pp.maxSteps 300 in
set_option maxHeartbeats 8000000 in
set_option maxRecDepth 100000 in
theorem w_rowE (b a : OpT) (prior : Bool) (ha : a.Ok) (_hb : b.Ok) (sa : soundO a = true) (sb : soundO b = true) (he : bothEdit b a = true) :
  Fun Tryz.prog 202 [] [opV b,opV a,.bool prior] (fun x T => ∃ g,x = .tup [.osl (.loc 2) g 0 1,.int .i64 (transP b.pieces a.pieces prior).2.2] ∧ T = [some (.box (opV (editO b a prior)).cells),some (.box (opV a).cells),some (.vec g 11 [opV (editO b a prior)])]):=by
 unfold bothEdit at he
 simp only [Bool.and_eq_true,decide_eq_true_eq] at he
 obtain ⟨k1,k2,k3⟩:=he
 have fa : formedB a = true:=by unfold soundO at sa;rw [Bool.and_eq_true] at sa;exact sa.1
 have fb : formedB b = true:=by unfold soundO at sb;rw [Bool.and_eq_true] at sb;exact sb.1
 have pa:=may_len (formed_path fa)
 obtain ⟨l1,l2⟩:=right_bounds (formed_pieces fa k1)
 obtain ⟨l3,l4⟩:=right_bounds (formed_pieces fb k2)
 have hw : wonO b a = false:=by unfold wonO;simp [k1,k2]
 have ct:=w_Trans b.pieces a.pieces prior (by omega) (by omega) l4 l2
 have ee : editO b a prior = { b with pieces:=(transP b.pieces a.pieces prior).1 }:=rfl
 rw [ee]
 clear ee
 obtain ⟨⟨r1,r2,e⟩,hr⟩ : ∃ r,transP b.pieces a.pieces prior = r:=⟨_,rfl⟩
 rw [hr] at ct ⊢
 refine fun_fn 300 Tryz.func202 rfl rfl rfl fun imps B hi => ?_
 have : imps = []:=List.length_eq_zero_iff.1 hi
 subst this
 refine ⟨fun g1 => absurd (eq_of g1) (by omega),fun g1 => go 300 ?_⟩
 show CallThen _ _ _ _ _ _
 refine call_pure (w_won b a ha) rfl ?_
 rw [hw]
 rintro x rfl
 refine ⟨fun g2 => (by cases g2),fun g2 => go 300 ?_⟩
 refine ⟨fun g3 => go 300 ?_,fun g3 => absurd (eq_of' g3) (by omega)⟩
 refine ⟨fun g4 => go 300 ?_,fun g4 => absurd k1 (ne_of g4)⟩
 refine ⟨fun g5 => go 300 ?_,fun g5 => absurd k2 (ne_of g5)⟩
 show CallThen _ _ _ _ _ _
 refine call_pure (w_pathSame a.path b.path (by omega)) rfl ?_
 rw [decide_eq_true k3]
 rintro x rfl
 refine ⟨fun g6 => go 300 ?_,fun g6 => (by cases g6)⟩
 show CallThen _ _ _ _ _ _
 refine call_pure ct rfl ?_
 rintro x rfl
 refine ⟨⟨rfl,trivial⟩,?_⟩
 exact ⟨trivial,rfl,rfl,_,rfl,rfl⟩
theorem edit_lt {b a : OpT} {prior : Bool} (hb : b.Ok) : (editO b a prior).Lt 1000000 ∧ ∀ p ∈ (editO b a prior).pieces,p.put.length ≤ 1000000000:=by
 obtain ⟨h1,h2⟩:=right_bounds (trans_right b.pieces a.pieces prior).1
 exact ⟨⟨hb.lt.path,hb.lt.to,hb.lt.label,hb.lt.key,hb.lt.value,by show (transP b.pieces a.pieces prior).1.length ≤ _;omega⟩,h2⟩
theorem behZ' {e : Int} {R : List OpT × Int} (h : R = ([],e)) : ∃ y,Wk (.tup [.nilsl,.int .i64 e]) y ∧ y.pureB = true ∧ y = BehV R:=⟨BehV ([],e),Wk.tup ⟨Wk.nil 11,.refl _,trivial⟩,rfl,by rw [h]⟩
set_option pp.maxSteps 300 in
set_option maxHeartbeats 4000000 in
set_option maxRecDepth 100000 in
theorem w_BehindE (b a : OpT) (prior : Bool) (ha : a.Ok) (hb : b.Ok) (he : bothEdit b a = true) :
  Pure Tryz.prog 188 [opV b,opV a,.bool prior] (fun x => x = BehV (behindE b a prior)):=by
 obtain ⟨R,hR⟩ : ∃ R,behindE b a prior = R:=⟨_,rfl⟩
 rw [hR]
 obtain ⟨hlt,hput⟩:=edit_lt (a:=a) (prior:=prior) hb
 refine pure_wk (pure_fn 300 Tryz.func188 rfl rfl rfl fun B => ?_)
 show CallThen _ _ _ _ _ _
 refine call_pure (w_sound a ha) rfl ?_
 rintro x rfl
 refine ⟨fun g1 => go 300 ?_,fun g1 => go 300 ?_⟩
 ·have g1 : soundO a = false:=by simpa using g1
  exact ⟨trivial,rfl,rfl,rfl,behZ' (by rw [← hR];unfold behindE;rw [g1];rfl)⟩
 have sa : soundO a = true:=by simpa using g1
 show CallThen _ _ _ _ _ _
 refine call_pure (w_sound b hb) rfl ?_
 rintro x rfl
 refine ⟨fun g2 => go 300 ?_,fun g2 => go 300 ?_⟩
 ·have g2 : soundO b = false:=by simpa using g2
  exact ⟨trivial,rfl,rfl,rfl,behZ' (by rw [← hR];unfold behindE;rw [sa,g2];rfl)⟩
 have sb : soundO b = true:=by simpa using g2
 have hrow:=w_rowE b a prior ha hb sa sb he
 have e0 : R = bif decide ((transP b.pieces a.pieces prior).2.2 = 0) && formedB (editO b a prior) then ([bareO (editO b a prior)],0) else ([],3):=by
  rw [← hR];unfold behindE;rw [sa,sb];rfl
 obtain ⟨o,ho⟩ : ∃ o,editO b a prior = o:=⟨_,rfl⟩
 obtain ⟨e,hee⟩ : ∃ e,(transP b.pieces a.pieces prior).2.2 = e:=⟨_,rfl⟩
 rw [ho,hee] at hrow e0
 rw [ho] at hlt hput
 show CallThen _ _ _ _ _ _
 refine call_sub [] hrow rfl rfl trivial rfl rfl rfl ?_
 rintro x T1 ⟨G,rfl,rfl⟩
 refine ⟨rfl,?_⟩
 refine ⟨fun g3 => go 300 ?_,fun g3 => go 300 ?_⟩
 ·have g3:=ne_of' g3
  exact ⟨trivial,rfl,rfl,rfl,behZ' (by rw [e0,decide_eq_false g3];rfl)⟩
 have g3:=eq_of' g3
 rw [decide_eq_true g3] at e0
 refine ⟨rfl,?_⟩
 show Goes _ _ _ _
 refine goes_loop ?_
 refine go 300 ?_
 refine ⟨fun _ => go 300 ?_,fun h => absurd (not_lt_of h) (by decide)⟩
 refine ⟨rfl,by decide,by decide,rfl,_,rfl,?_⟩
 show CallThen _ _ _ _ _ _
 refine call_pure (w_Formed o hlt hput) rfl ?_
 rintro x rfl
 refine ⟨fun g4 => go 300 ?_,fun g4 => go 300 ?_⟩
 ·have g4 : formedB o = false:=by simpa using g4
  exact ⟨trivial,rfl,rfl,rfl,behZ' (by rw [e0,g4];rfl)⟩
 have g4 : formedB o = true:=by simpa using g4
 rw [g4] at e0
 show CallThen _ _ _ _ _ _
 refine call_pure (w_Bare o hlt) rfl ?_
 rintro x rfl
 refine ⟨rfl,by decide,by decide,rfl,_,rfl,?_⟩
 refine ⟨⟨by decide,by decide⟩,?_⟩
 show Goes _ _ _ _
 refine goes_inLoop ?_
 refine go 300 ?_
 refine ⟨fun h => absurd (lt_of h) (by decide),fun _ => go 300 ?_⟩
 have hres : BehV ([bareO o],0) = BehV R:=by rw [e0];rfl
 exact ⟨trivial,rfl,rfl,rfl,rfl,rfl,BehV ([bareO o],0),Wk.refl _,rfl,hres⟩
theorem w_BehindX (b a : OpT) (prior : Bool) (ha : a.Ok) (hb : b.Ok) (hto : a.to.length ≤ 1000 ∧ b.to.length ≤ 1000) :
  Pure Tryz.prog 188 [opV b,opV a,.bool prior] (fun x => x = BehV (behindX b a prior)):=by
 unfold behindX
 cases he : bothEdit b a with
 | true => exact w_BehindE b a prior ha hb he
 | false => exact w_Behind b a prior ha hb he hto
set_option maxRecDepth 100000 in
theorem w_BothX (a b : OpT) (prior : Bool) (ha : a.Ok) (hb : b.Ok) (hto : a.to.length ≤ 1000 ∧ b.to.length ≤ 1000) :
  Pure Tryz.prog 154 [opV a,opV b,.bool prior] (fun x => x = BothV (bothX a b prior)):=by
 refine pure_wk (pure_fn 300 Tryz.func154 rfl rfl rfl fun B => ?_)
 show CallThen _ _ _ _ _ _
 refine call_pure (w_BehindX a b prior hb ha ⟨hto.2,hto.1⟩) rfl ?_
 rintro x rfl
 refine ⟨fun g1 => go 300 ?_,fun g1 => go 300 ?_⟩
 ·have g1 : (behindX a b prior).2 ≠ 0:=ne_of' g1
  have e : bothX a b prior = ([],[],(behindX a b prior).2):=by unfold bothX;rw [decide_eq_false g1];rfl
  rw [e]
  exact ⟨trivial,rfl,rfl,rfl,bothZ _⟩
 have g1 : (behindX a b prior).2 = 0:=eq_of' g1
 show CallThen _ _ _ _ _ _
 refine call_pure (w_BehindX b a (!prior) ha hb hto) rfl ?_
 rintro x rfl
 refine ⟨fun g2 => go 300 ?_,fun g2 => go 300 ?_⟩
 ·have g2 : (behindX b a (!prior)).2 ≠ 0:=ne_of' g2
  have e : bothX a b prior = ([],[],(behindX b a (!prior)).2):=by unfold bothX;rw [decide_eq_true g1,decide_eq_false g2];rfl
  rw [e]
  exact ⟨trivial,rfl,rfl,rfl,bothZ _⟩
 have g2 : (behindX b a (!prior)).2 = 0:=eq_of' g2
 have e : bothX a b prior = ((behindX a b prior).1,(behindX b a (!prior)).1,0):=by unfold bothX;rw [decide_eq_true g1,decide_eq_true g2];rfl
 rw [e]
 exact ⟨trivial,rfl,rfl,rfl,BothV ((behindX a b prior).1,(behindX b a (!prior)).1,0),Wk.refl _,rfl,rfl⟩
end Bow
/- W48: operations that say the same. -/
namespace Bow
open Go Go.Proofs
set_option maxRecDepth 100000 in
theorem w_refSamePieces (xs ys : List PieceT) (hl : xs.length ≤ 1000000) : Pure Tryz.prog 102 [piecesV xs, piecesV ys] (fun x => x = .bool (decide (xs = ys))) := by
  refine pure_wk (pure_fn 300 Tryz.func102 rfl rfl rfl fun B => ?_)
  refine ⟨fun g1 => go 300 ?_, fun g1 => go 300 ?_⟩
  · have g1 := ne_of' g1
    exact ⟨trivial, rfl, rfl, rfl, leaf_ff (decide_eq_false fun e => g1 (by rw [e]))⟩
  have g1 : xs.length = ys.length := by have := eq_of' g1; simp at this; omega
  show Goes _ _ _ _
  refine goes_iter (ι := Nat) (fun i => i ≤ xs.length ∧ (xs.drop i = ys.drop i ↔ xs = ys)) (fun i => xs.length - i) (fun i => [(5, .int .i64 i), (0, piecesV xs), (1, piecesV ys)]) (fun _ => []) 0 300 (fun _ => rfl) (fun _ => rfl) ⟨⟨Nat.zero_le _, by simp⟩, ⟨⟨rfl, rfl⟩, ⟨rfl, rfl⟩, ⟨rfl, rfl⟩, trivial⟩, trivial⟩ ?_
  rintro i ⟨k1, k2⟩ next
  refine ⟨fun hlt => go 300 ?_, fun hge => go 300 ?_⟩
  · have hi : i < xs.length := by simpa using hlt
    have hi' : i < ys.length := by omega
    have hx : (xs.map pieceV)[i]? = some (pieceV xs[i]) := by simp [hi]
    have hy : (ys.map pieceV)[i]? = some (pieceV ys[i]) := by simp [hi']
    rw [attrs_take hi hi'] at k2
    show Goes _ _ _ _
    refine goes_draw 300 ⟨Int.natCast_nonneg i, _, hx, Int.natCast_nonneg i, _, hy, ?_⟩
    refine ⟨by kernel_rfl, ?_⟩
    refine ⟨by kernel_rfl, ?_⟩
    refine ⟨fun g2 => go 300 ?_, fun g2 => go 300 ?_⟩
    · refine ⟨trivial, rfl, rfl, rfl, leaf_ff (decide_eq_false fun e => ?_)⟩
      have := (k2.2 e).1
      rw [this] at g2
      simp at g2
    · refine ⟨by constructor <;> omega, ?_⟩
      have he : xs[i] = ys[i] := by
        simp at g2
        exact PieceT.ext g2.1 g2.2.1 g2.2.2
      exact next (i + 1) _ _ ⟨⟨hi, by rw [← k2]; exact ⟨fun h => ⟨he, h⟩, fun h => h.2⟩⟩, by omega, ⟨⟨rfl, rfl⟩, ⟨rfl, rfl⟩, ⟨rfl, rfl⟩, trivial⟩, trivial⟩
  · have hi : i = xs.length := by have : xs.length ≤ i := by simpa using hge
                                  omega
    subst hi
    refine ⟨trivial, rfl, rfl, rfl, leaf_tt (decide_eq_true (k2.1 ?_))⟩
    rw [List.drop_eq_nil_of_le (Nat.le_refl _), List.drop_eq_nil_of_le (by omega)]
def eqO (x y : OpT) : Bool := decide (x.kind = y.kind) && (decide (x.path = y.path) && (decide (x.at_ = y.at_) && (decide (x.to = y.to) && (decide (x.id = y.id) && ((x.leaf == y.leaf) && (decide (x.label = y.label) && (decide (x.key = y.key) && (decide (x.value = y.value) && ((x.gone == y.gone) && decide (x.pieces = y.pieces))))))))))
def sameO (a b : OpT) : Bool := eqO (bareO a) (bareO b)
set_option maxHeartbeats 2000000 in
set_option maxRecDepth 100000 in
theorem w_refSameO (a b : OpT) (ha : a.Lt 1000000) (hb : b.Lt 1000000) : Pure Tryz.prog 61 [opV a, opV b] (fun x => x = .bool (sameO a b)) := by
  have la := bare_lt ha
  have h1 := w_refSame (bareO a).path (bareO b).path la.path
  have h2 := w_refSame (bareO a).to (bareO b).to la.to
  have h3 := w_refSamePieces (bareO a).pieces (bareO b).pieces la.pieces
  refine pure_wk (pure_fn 300 Tryz.func61 rfl rfl rfl fun B => ?_)
  show CallThen _ _ _ _ _ _
  refine call_pure (w_refBare a ha) rfl ?_
  rintro z rfl
  show CallThen _ _ _ _ _ _
  refine call_pure (w_refBare b hb) rfl ?_
  rintro z rfl
  repeat' first
    | (refine ⟨fun _ => go 300 ?_, fun _ => go 300 ?_⟩)
    | (show CallThen _ _ _ _ _ _; refine call_pure h1 rfl ?_; rintro z rfl)
    | (show CallThen _ _ _ _ _ _; refine call_pure h2 rfl ?_; rintro z rfl)
    | (show CallThen _ _ _ _ _ _; refine call_pure h3 rfl ?_; rintro z rfl)
    | (refine ⟨trivial, rfl, rfl, rfl, leaf_ff ?_⟩)
    | (refine ⟨trivial, rfl, rfl, rfl, leaf_b ?_⟩)
    | fail
  all_goals (unfold sameO eqO; simp_all)
end Bow
/- W61: the laws of chapter 12: what they use; the examples. -/
namespace Bow
open Go Go.Proofs
def isB (x : V) : Prop:=∃ b : Bool,x = .bool b
set_option maxHeartbeats 2000000 in
set_option maxRecDepth 100000 in
theorem w_Small (l : List PieceT) (top : Nat) (hl : l.length ≤ 1000000) (ht : top ≤ 1000000) : Pure Tryz.prog 48 [piecesV l,.int .i64 top] isB:=by
 have ff : ∃ y,Wk .ff y ∧ y.pureB = true ∧ isB y:=⟨.bool false,Wk.ff,rfl,false,rfl⟩
 have tt : ∃ y,Wk .tt y ∧ y.pureB = true ∧ isB y:=⟨.bool true,Wk.tt,rfl,true,rfl⟩
 refine pure_wk (pure_fn 300 Tryz.func48 rfl rfl rfl fun B => ?_)
 refine ⟨fun g1 => go 300 ?_,fun g1 => go 300 ?_⟩
 ·exact ⟨trivial,rfl,rfl,rfl,ff⟩
 show Goes _ _ _ _
 refine goes_iter (ι:=Nat × Int) (fun i => i.1 ≤ l.length ∧ 0 ≤ i.2 ∧ i.2 ≤ top) (fun i => l.length - i.1) (fun i => [(6,.int .i64 i.1),(5,.int .i64 i.2),(0,piecesV l),(1,.int .i64 top)]) (fun _ => []) (0,0) 300 (fun _ => rfl) (fun _ => rfl) ⟨⟨Nat.zero_le _,Int.le_refl _,Int.natCast_nonneg _⟩,⟨⟨rfl,rfl⟩,⟨rfl,rfl⟩,⟨rfl,rfl⟩,⟨rfl,rfl⟩,trivial⟩,trivial⟩ ?_
 rintro ⟨i,n⟩ ⟨k1,k2,k3⟩ next
 simp only at k1 k2 k3
 refine ⟨fun hlt => go 300 ?_,fun hge => go 300 ?_⟩
 ·have hi : i < l.length:=by simpa using hlt
  have hx : (l.map pieceV)[i]? = some (pieceV l[i]):=by simp [hi]
  show Goes _ _ _ _
  refine goes_draw 300 ⟨Int.natCast_nonneg i,_,hx,Int.natCast_nonneg i,_,hx,?_⟩
  refine ⟨by kernel_rfl,?_⟩
  refine ⟨fun g1 => go 300 ?_,fun g1 => go 300 ?_⟩ <;> refine ⟨fun g2 => go 300 ?_,fun g2 => go 300 ?_⟩
  all_goals
   simp only [decide_eq_true_eq,decide_eq_false_iff_not] at g1 g2
   refine ⟨by constructor <;> omega,?_⟩
   refine ⟨fun g3 => go 300 ?_,fun g3 => go 300 ?_⟩
   ·exact ⟨trivial,rfl,rfl,rfl,ff⟩
   simp only [decide_eq_false_iff_not] at g3
   refine ⟨by constructor <;> omega,by constructor <;> omega,?_⟩
   refine ⟨fun g4 => go 300 ?_,fun g4 => go 300 ?_⟩
   ·exact ⟨trivial,rfl,rfl,rfl,ff⟩
   simp only [decide_eq_false_iff_not] at g4
   refine ⟨Int.natCast_nonneg i,_,hx,by constructor <;> omega,by constructor <;> omega,by constructor <;> omega,?_⟩
   refine ⟨fun g5 => go 300 ?_,fun g5 => go 300 ?_⟩
   ·exact ⟨trivial,rfl,rfl,rfl,ff⟩
   simp only [decide_eq_false_iff_not] at g5
   refine ⟨by constructor <;> omega,by constructor <;> omega,Int.natCast_nonneg i,_,hx,by constructor <;> omega,by constructor <;> omega,?_⟩
   show Goes _ _ _ _
   refine next (i + 1,_) _ _ ⟨⟨hi,?_,?_⟩,by simp only;omega,⟨⟨rfl,rfl⟩,⟨rfl,rfl⟩,⟨rfl,rfl⟩,⟨rfl,rfl⟩,trivial⟩,trivial⟩
   ·simp only;omega
   ·simp only;omega
 ·exact ⟨trivial,rfl,rfl,rfl,tt⟩
end Bow
/- W62: SquareTurned. -/
namespace Bow
open Go Go.Proofs
theorem right_puts {l : List PieceT} (h : rightP l = true) : putsLen l ≤ 1048576:=by
 unfold rightP at h
 rw [Bool.and_eq_true] at h
 have:=(rightGo_ok h.2).2
 rcases this with rfl | this
 ·exact Nat.zero_le _
 ·omega
end Bow
