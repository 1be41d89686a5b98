/- The library, part 8: SP72, W132, W112, W133, AE65, W134, TD1, TD2, TD4, TD5. -/
import Derived.Test.YtbffliejmnokpaaGreatMg
import Derived.Test.YtbffliejmnokpaaGreatMf
import Derived.Test.YtbffliejmnokpaaGreatMd
import Derived.Test.YtbffliejmnokpaaGreatMc
import Derived.Test.YtbffliejmnokpaaGreatRows
import Derived.ChangeShapes
/- SP72: what two lists come to costs no more, all in all, than they. -/
namespace Bow
open Go
theorem row_two_cost {b a : OpT} {p : Bool} (h : (rowO b a p).length = 2) : ∀ o ∈ rowO b a p,costO (bareO o) ≤ 2:=by
 have hk:=row_two h
 have hd : ∀ q : List Int,costO (bareO (dropO q)) ≤ 2:=fun q => bare_cost (dropO q)
 have hu : costO (bareO (undoO a)) ≤ 2:=Nat.le_trans (bare_cost _) (by rw [undo_cost];omega)
 have hb : b.kind = 3 → costO (bareO b) ≤ 2:=fun e => by
  unfold bareO
  rw [e]
  exact Nat.le_of_eq rfl
 unfold rowO at h ⊢
 cases h1 : decide (a.kind = 2) with
 | true =>
  rw [h1] at h
  cases h2 : within a.path b.path with
  | true => rw [h2] at h;cases h
  | false =>
   rw [h2] at h
   cases h3 : decide (b.kind = 3) && within a.path b.to <;> (rw [h3] at h;cases h)
 | false =>
  rw [h1] at h
  cases h2 : wonO b a with
  | true => rw [h2] at h;cases p <;> cases h
  | false =>
   rw [h2] at h
   cases h3 : decide (a.kind = 3) with
   | false => rw [h3] at h;cases h
   | true =>
    rw [h3] at h
    cases h4 : decide (b.kind = 2) with
    | true =>
     rw [h4] at h
     cases h5 : within b.path a.path && (!decide (b.path = a.path) && !within b.path a.to) with
     | false => rw [h5] at h;cases h
     | true =>
      intro o ho
      simp only [cond_true,cond_false,Bool.not_true,List.mem_cons,List.not_mem_nil,or_false] at ho
      rcases ho with rfl | rfl <;> exact hd _
    | false =>
     rw [h4] at h
     cases h5 : decide (b.kind = 3) && (within b.path a.to && within a.path b.to) with
     | false => rw [h5] at h;cases h
     | true =>
      have k3 : b.kind = 3:=by
       simp only [Bool.and_eq_true,decide_eq_true_eq] at h5
       exact h5.1
      rw [h5] at h
      cases p with
      | false => cases h
      | true =>
       intro o ho
       simp only [cond_true,cond_false,Bool.not_true,List.mem_cons,List.not_mem_nil,or_false] at ho
       rcases ho with rfl | rfl
       ·exact hu
       ·exact hb k3
theorem costs_each {C : Nat} : ∀ {l : List OpT},(∀ o ∈ l,costO o ≤ C) → costs l ≤ l.length * C
 | [],_ => by rw [costs_nil];omega
 | o :: l,h => by
  have h1:=h o (by simp)
  have h2:=costs_each fun z hz => h z (List.mem_cons_of_mem _ hz)
  rw [costs_cons,List.length_cons,Nat.add_mul]
  omega
theorem cell_sum (a b : OpT) (prior : Bool) : costs (bothX a b prior).1 + costs (bothX a b prior).2.1 ≤ costO a + costO b:=by
 obtain ⟨⟨x,y,e⟩,h⟩ : ∃ r,bothX a b prior = r:=⟨_,rfl⟩
 have c1:=bothX_cost1 a b prior
 have c2:=bothX_cost a b prior
 rw [h] at c1 c2 ⊢
 simp only at c1 c2 ⊢
 by_cases he0 : e = 0
 ·subst he0
  obtain ⟨h1,h2⟩:=bothX_ok h
  have hs:=behX_sound h1
  have hx:=costs_each c1
  have hy:=costs_each c2
  have ma:=cost_min a
  have mb:=cost_min b
  have one : x.length ≤ 1 → y.length ≤ 1 → costs x + costs y ≤ costO a + costO b:=fun l1 l2 => by
   have:=Nat.le_trans hx (Nat.mul_le_mul_right _ l1)
   have:=Nat.le_trans hy (Nat.mul_le_mul_right _ l2)
   omega
  cases hed : bothEdit a b with
  | true =>
   obtain ⟨q1,_⟩:=edit_mv hed h1
   obtain ⟨q3,_⟩:=edit_mv (by rw [bothEdit_comm];exact hed) h2
   exact one (by omega) (by omega)
  | false =>
   have ex:=sound_kinds hs hed h1
   have ey:=sound_kinds ⟨hs.2,hs.1⟩ (by rw [bothEdit_comm];exact hed) h2
   have lx : x.length = (rowO a b prior).length:=by rw [ex];simp
   have ly : y.length = (rowO b a (!prior)).length:=by rw [ey];simp
   have ba:=row_len a b prior
   have bb:=row_len b a (!prior)
   by_cases c1 : (rowO a b prior).length = 2
   ·have r0:=(row_two c1).1
    have hc:=row_two_cost c1
    rw [r0] at ly
    have hy0 : y = []:=List.length_eq_zero_iff.1 (by simpa using ly)
    have : costs x ≤ x.length * 2:=costs_each fun o ho => by
     rw [ex] at ho
     obtain ⟨z,hz,rfl⟩:=List.mem_map.1 ho
     exact hc z hz
    rw [hy0,costs_nil]
    omega
   ·by_cases c2 : (rowO b a (!prior)).length = 2
    ·have r0:=(row_two c2).1
     have hc:=row_two_cost c2
     rw [Bool.not_not] at r0
     rw [r0] at lx
     have hx0 : x = []:=List.length_eq_zero_iff.1 (by simpa using lx)
     have : costs y ≤ y.length * 2:=costs_each fun o ho => by
      rw [ey] at ho
      obtain ⟨z,hz,rfl⟩:=List.mem_map.1 ho
      exact hc z hz
     rw [hx0,costs_nil]
     omega
    ·exact one (by omega) (by omega)
 ·have e1 : bringF prior 1 [a] [b] = some (x,y,e):=by
   rw [bringF_succ]
   unfold bringS
   have : muchP [a] [b] = false:=rfl
   rw [this,cond_false]
   simp only
   rw [h]
  obtain ⟨rfl,rfl⟩:=bringF_err e1 he0
  rw [costs_nil]
  omega
theorem bringF_sum (prior : Bool) : ∀ (n : Nat) (xs ys : List OpT) (r : List OpT × List OpT × Int),bringF prior n xs ys = some r → costs r.1 + costs r.2.1 ≤ costs xs + costs ys
 | 0,_,_,_,h => by cases h
 | n + 1,xs,ys,r,h => by
  have none3 : ∀ e : Int,costs (([],[],e) : List OpT × List OpT × Int).1 + costs (([],[],e) : List OpT × List OpT × Int).2.1 ≤ costs xs + costs ys:=fun e => by
   simp only [costs_nil]
   omega
  rw [bringF_succ] at h
  unfold bringS at h
  cases hm : muchP xs ys with
  | true =>
   rw [hm] at h
   injection h with h
   subst h
   exact none3 3
  | false =>
   rw [hm,cond_false] at h
   match xs,ys,h,none3 with
   | [],ys,h,_ =>
    injection h with h
    subst h
    exact Nat.le_refl _
   | a :: xs,[],h,_ =>
    injection h with h
    subst h
    exact Nat.le_refl _
   | [a],[b],h,_ =>
    injection h with h
    subst h
    have:=cell_sum a b prior
    simp only [costs_cons,costs_nil]
    omega
   | a :: a' :: xs,b :: ys,h,none3 =>
    simp only at h
    cases h1 : bringF prior n [a] (b :: ys) with
    | none => rw [h1] at h;cases h
    | some q =>
     obtain ⟨x1,y1,e1⟩:=q
     rw [h1] at h
     have i1:=bringF_sum prior n _ _ _ h1
     simp only at h i1
     cases d1 : !decide (e1 = 0) with
     | true =>
      rw [d1] at h
      injection h with h
      subst h
      exact none3 e1
     | false =>
      rw [d1,cond_false] at h
      cases h2 : bringF prior n (a' :: xs) y1 with
      | none => rw [h2] at h;cases h
      | some q =>
       obtain ⟨z,w,e2⟩:=q
       rw [h2] at h
       have i2:=bringF_sum prior n _ _ _ h2
       simp only at h i2
       cases d2 : !decide (e2 = 0) with
       | true =>
        rw [d2] at h
        injection h with h
        subst h
        exact none3 e2
       | false =>
        rw [d2,cond_false] at h
        cases hmm : muchP (x1 ++ z) w with
        | true =>
         rw [hmm] at h
         injection h with h
         subst h
         exact none3 3
        | false =>
         rw [hmm] at h
         injection h with h
         subst h
         simp only [costs_app,costs_cons,costs_nil] at i1 i2 ⊢
         omega
   | [a],b :: b' :: ys,h,none3 =>
    simp only at h
    cases h1 : bringF prior n [a] [b] with
    | none => rw [h1] at h;cases h
    | some q =>
     obtain ⟨x1,y1,e1⟩:=q
     rw [h1] at h
     have i1:=bringF_sum prior n _ _ _ h1
     simp only at h i1
     cases d1 : !decide (e1 = 0) with
     | true =>
      rw [d1] at h
      injection h with h
      subst h
      exact none3 e1
     | false =>
      rw [d1,cond_false] at h
      cases h2 : bringF prior n x1 (b' :: ys) with
      | none => rw [h2] at h;cases h
      | some q =>
       obtain ⟨z,w,e2⟩:=q
       rw [h2] at h
       have i2:=bringF_sum prior n _ _ _ h2
       simp only at h i2
       cases d2 : !decide (e2 = 0) with
       | true =>
        rw [d2] at h
        injection h with h
        subst h
        exact none3 e2
       | false =>
        rw [d2,cond_false] at h
        cases hmm : muchP z (y1 ++ w) with
        | true =>
         rw [hmm] at h
         injection h with h
         subst h
         exact none3 3
        | false =>
         rw [hmm] at h
         injection h with h
         subst h
         simp only [costs_app,costs_cons,costs_nil] at i1 i2 ⊢
         omega
theorem costs_bare : ∀ l : List OpT,costs (bareL l) ≤ costs l
 | [] => Nat.le_refl _
 | o :: l => by
  have h1:=bare_cost o
  have h2:=costs_bare l
  have e : bareL (o :: l) = bareO o :: bareL l:=rfl
  rw [e,costs_cons,costs_cons]
  omega
theorem listsX_sum (prior : Bool) (xs ys : List OpT) : costs (listsX prior xs ys).1 + costs (listsX prior xs ys).2.1 ≤ costs xs + costs ys:=by
 obtain ⟨n,hn⟩:=bringX_spec prior xs ys
 have h:=bringF_sum prior n xs ys _ hn
 have h1:=costs_bare (bringX prior xs ys).1
 have h2:=costs_bare (bringX prior xs ys).2.1
 show costs (bareL _) + costs (bareL _) ≤ _
 omega
theorem costs_take_drop (l : List OpT) (k : Nat) : costs (l.take k) + costs (l.drop k) = costs l:=by
 rw [← costs_app,List.take_append_drop]
end Bow
/- W132: a client's script: what is known of the client behind it. -/
namespace Bow
open Go Go.Proofs
def wt : Nat → Nat
 | 0 => 100
 | k + 1 => wt k + 648 * (k + 1)
theorem wt_mono {k : Nat} : ∀ n,wt k ≤ wt (k + n)
 | 0 => Nat.le_refl _
 | n + 1 => Nat.le_trans (wt_mono n) (show wt (k + n) ≤ wt (k + n) + 648 * (k + n + 1) by omega)
theorem wt_le {k : Nat} (h : k ≤ 32) : wt k ≤ 345000:=by
 have:=wt_mono (k:=k) (32 - k)
 rw [Nat.add_sub_cancel' h] at this
 exact Nat.le_trans this (by decide)
structure CI (c : Cl) (k : Nat) : Prop where
 flight : OkL c.flight
 buffer : OkL c.buffer
 len : c.flight.length + c.buffer.length ≤ 4 * k
 cost : costs c.flight + costs c.buffer ≤ 648 * k
 seen : 0 ≤ c.seen ∧ c.seen ≤ 2305843009213693952 + k
 seq : 0 ≤ c.seq ∧ c.seq ≤ 2305843009213693952 + k
 base : c.base.weight ≤ wt k
 tree : c.tree.weight ≤ wt k
 none : c.sent = false → c.flight = []
structure Lc (l : List OpT) : Prop where
 ok : OkL l
 len : l.length ≤ 4
 cost : costs l ≤ 648
theorem lc_of {l : List OpT} (h : LightL l 4 40) : Lc l :=
 ⟨lightL_ok ⟨h.len,fun o ho => ⟨lt_mono (h.ops o ho).1 (by decide),Nat.le_trans (h.ops o ho).2 (by decide)⟩⟩,h.len,costs_le h.len (light_most h)⟩
theorem CI.mono {c : Cl} {k : Nat} (h : CI c k) : CI c (k + 1):=by
 have e : wt (k + 1) = wt k + 648 * (k + 1):=rfl
 obtain ⟨h1,h2,h3,h4,h5,h6,h7,h8,h9⟩:=h
 exact ⟨h1,h2,by omega,by omega,⟨h5.1,by omega⟩,⟨h6.1,by omega⟩,by omega,by omega,h9⟩
theorem okL_app {a b : List OpT} (h : OkL a) (k : OkL b) : OkL (a ++ b):=fun o ho => by
 rcases List.mem_append.1 ho with ho | ho
 ·exact h o ho
 ·exact k o ho
theorem CI.edit {c : Cl} {k : Nat} (h : CI c k) {l : List OpT} (hl : Lc l) : CI (c.edit l).1 (k + 1):=by
 have e : wt (k + 1) = wt k + 648 * (k + 1):=rfl
 have hw:=AllR_weight c.tree l
 unfold Cl.edit
 cases !decide (firstBad l = 0) with
 | true => exact h.mono
 | false =>
 cases decide (512 < (c.buffer.length : Int) + l.length) with
 | true => exact h.mono
 | false =>
 obtain ⟨⟨t2,n2,er⟩,hA⟩ : ∃ r,AllR c.tree l = r:=⟨_,rfl⟩
 rw [hA] at hw ⊢
 simp only [cond_false] at hw ⊢
 cases decide (er = 0) with
 | false => exact h.mono
 | true =>
  have hb:=costs_bare l
  obtain ⟨h1,h2,h3,h4,h5,h6,h7,h8,h9⟩:=h
  obtain ⟨l1,l2,l3⟩:=hl
  refine ⟨h1,okL_app h2 (bareL_okL l1),?_,?_,⟨h5.1,?_⟩,⟨h6.1,?_⟩,?_,?_,h9⟩
  ·simp only [cond_true,List.length_append,bareL_len];omega
  ·simp only [cond_true,costs_app];omega
  ·simp only [cond_true];omega
  ·simp only [cond_true];omega
  ·simp only [cond_true];omega
  ·simp only [cond_true];omega
theorem pair_to {a b z : OpT} (h : pairO a b = some (some z)) : z.to = []:=by
 unfold pairO at h
 have kb : ∀ o : OpT,o.kind ≠ 3 → (bareO o).to = []:=fun o ho => by
  unfold bareO
  have : (o.kind == 3) = false:=by simpa using ho
  cases o.kind == 1 <;> cases o.kind == 2 <;> cases o.kind == 4 <;> cases o.kind == 5 <;> cases o.kind == 6 <;> simp [this,noOp]
 cases h1 : !busyO a || !busyO b with
 | true => rw [h1] at h;cases h
 | false =>
 rw [h1,cond_false] at h
 cases h2 : decide (a.kind = 1) && decide (a.path ++ [a.at_] = b.path) && decide (b.kind = 2) with
 | true => rw [h2] at h;simp at h
 | false =>
 rw [h2,cond_false] at h
 cases h3 : decide (a.kind = 1) && decide (a.path ++ [a.at_] = b.path) && decide (b.kind = 5) with
 | true =>
  rw [h3,cond_true] at h
  injection h with h
  injection h with h
  rw [← h]
  simp only [Bool.and_eq_true,decide_eq_true_eq] at h3
  exact kb _ (by simp only;omega)
 | false =>
 rw [h3,cond_false] at h
 cases h4 : !decide (a.kind = b.kind) || !decide (a.path = b.path) with
 | true => rw [h4] at h;cases h
 | false =>
 rw [h4,cond_false] at h
 simp only [Bool.or_eq_false_iff,Bool.not_eq_false',decide_eq_true_eq] at h4
 cases h5 : decide (a.kind = 5) with
 | true =>
  rw [h5,cond_true] at h
  injection h with h
  injection h with h
  rw [← h]
  exact kb _ (by have:=of_decide_eq_true h5;omega)
 | false =>
 rw [h5,cond_false] at h
 cases h6 : decide (a.kind = 4) with
 | true =>
  rw [h6,cond_true] at h
  cases h7 : decide (a.key = b.key) with
  | false => rw [h7] at h;cases h
  | true =>
   rw [h7,cond_true] at h
   injection h with h
   injection h with h
   rw [← h]
   exact kb _ (by have:=of_decide_eq_true h6;omega)
 | false =>
 rw [h6,cond_false] at h
 cases h7 : decide (a.kind = 6) with
 | false => rw [h7] at h;cases h
 | true =>
 rw [h7,cond_true] at h
 cases h8 : !decide ((composeP a.pieces b.pieces).2 = 0) with
 | true => rw [h8] at h;cases h
 | false =>
 rw [h8,cond_false] at h
 cases h9 : decide ((composeP a.pieces b.pieces).1.length = 0) with
 | true => rw [h9] at h;simp at h
 | false =>
 rw [h9,cond_false] at h
 injection h with h
 injection h with h
 rw [← h]
 exact kb _ (by have:=of_decide_eq_true h7;simp only;omega)
theorem bare_toL (o : OpT) : (bareO o).to.length ≤ o.to.length:=by
 unfold bareO
 cases o.kind == 1 <;> cases o.kind == 2 <;> cases o.kind == 3 <;> cases o.kind == 4 <;> cases o.kind == 5 <;> cases o.kind == 6 <;> simp [noOp]
theorem listsX_nil (prior : Bool) (xs : List OpT) : (listsX prior xs []).2.1 = []:=by
 obtain ⟨n,hn⟩:=bringX_spec prior xs []
 have : (bringX prior xs []).2.1 = []:=by
  generalize bringX prior xs [] = r at hn
  cases n with
  | zero => cases hn
  | succ n =>
   rw [bringF_succ] at hn
   unfold bringS at hn
   cases hm : muchP xs [] with
   | true =>
    rw [hm] at hn
    injection hn with hn
    rw [← hn]
   | false =>
    rw [hm,cond_false] at hn
    cases xs with
    | nil =>
     injection hn with hn
     rw [← hn]
    | cons a xs =>
     injection hn with hn
     rw [← hn]
 show bareL _ = _
 rw [this]
 rfl
theorem listS_okL {l : List OpT} (h : OkL l) : OkL (listS l):=by
 have key : ∀ (n : Nat) (s : List OpT) (x : OpT),s.length ≤ n → OkL s → OkL [x] → OkL (pushO s x):=by
  intro n
  induction n with
  | zero =>
   intro s x hn hs hx
   have : s = []:=List.length_eq_zero_iff.1 (by omega)
   subst this
   exact hx
  | succ n ih =>
   intro s x hn hs hx
   have cons : ∀ {s : List OpT} {x : OpT},OkL s → OkL [x] → OkL (x :: s):=fun {s x} hs hx => okL_app (a:=[x]) hx hs
   cases s with
   | nil => exact hx
   | cons a rest =>
    have ha:=hs a (by simp)
    have hr : OkL rest:=fun z hz => hs z (by simp [hz])
    rw [push_cons]
    cases hp : pairO a x with
    | none => exact cons hs hx
    | some z =>
     cases z with
     | some z =>
      refine ih rest z (by simp at hn;omega) hr fun o ho => ?_
      rw [List.mem_singleton.1 ho]
      exact ⟨pair_okO ha.1 (hx x (by simp)).1 hp,by rw [pair_to hp];exact Nat.zero_le _⟩
     | none =>
      cases rest with
      | nil => exact hr
      | cons y rest =>
       refine ih rest y (by simp at hn;omega) (fun z hz => hr z (by simp [hz])) fun o ho => ?_
       rw [List.mem_singleton.1 ho]
       exact hr y (by simp)
 have go : ∀ (l s : List OpT),OkL l → OkL s → OkL (listR l s):=by
  intro l
  induction l with
  | nil => exact fun s _ hs => hs
  | cons o l ih =>
   intro s hl hs
   have ho:=hl o (by simp)
   have hl' : OkL l:=fun z hz => hl z (by simp [hz])
   rw [listR]
   cases idleO o with
   | true => exact ih s hl' hs
   | false =>
    refine ih _ hl' (key _ s _ (Nat.le_refl _) hs fun z hz => ?_)
    rw [List.mem_singleton.1 hz]
    exact ⟨bare_ok ho.1,Nat.le_trans (bare_toL o) ho.2⟩
 intro o ho
 unfold listS at ho
 rw [List.mem_reverse] at ho
 exact go l [] h okL_nil o ho
theorem CI.submit {c : Cl} {k : Nat} (h : CI c k) : CI c.submit.1 (k + 1):=by
 have e : wt (k + 1) = wt k + 648 * (k + 1):=rfl
 have l1:=listS_len c.buffer
 have l2:=listS_cost c.buffer
 have l3:=listS_okL h.buffer
 unfold Cl.submit
 cases hs : c.sent with
 | true => exact h.mono
 | false =>
 have hf:=h.none hs
 obtain ⟨h1,h2,h3,h4,h5,h6,h7,h8,h9⟩:=h
 generalize listS c.buffer = b at l1 l2 l3
 cases decide (b.length = 0) with
 | true =>
  simp only [cond_true,cond_false]
  exact ⟨h1,l3,by simp only;omega,by simp only;omega,⟨h5.1,by simp only;omega⟩,⟨h6.1,by simp only;omega⟩,by simp only;omega,by simp only;omega,fun _ => hf⟩
 | false =>
  simp only [cond_false]
  generalize subK b b.length 1 = K
  have ht:=costs_take_drop b K
  have hd:=costs_bare (b.drop K)
  refine ⟨fun o ho => l3 o (List.mem_of_mem_take ho),bareL_okL fun o ho => l3 o (List.mem_of_mem_drop ho),?_,?_,⟨h5.1,by simp only;omega⟩,⟨by simp only;omega,by simp only;omega⟩,by simp only;omega,by simp only;omega,fun q => by cases q⟩
  ·simp only [bareL_len,List.length_take,List.length_drop];omega
  ·simp only;omega
theorem CI.hear {c : Cl} {k : Nat} (h : CI c k) {l : List OpT} (hl : Lc l) (rev : Int) : CI (c.hear rev l).1 (k + 1) ∧ costs (listsX true (listsX true l c.flight).1 c.buffer).1 ≤ 648 * (k + 1):=by
 have e : wt (k + 1) = wt k + 648 * (k + 1):=rfl
 have hw:=AllR_weight c.base l
 have s1:=listsX_sum true l c.flight
 have s2:=listsX_sum true (listsX true l c.flight).1 c.buffer
 have o1:=bringX_okL (prior:=true) hl.ok h.flight
 have i1:=bringX_inv true l c.flight
 have o2:=bringX_okL (prior:=true) (bareL_okL o1.1) h.buffer
 have i2:=bringX_inv true (bareL (bringX true l c.flight).1) c.buffer
 have hw2:=AllR_weight c.tree (listsX true (listsX true l c.flight).1 c.buffer).1
 have p1 : OkL (listsX true l c.flight).2.1:=bareL_okL o1.2
 have p2 : OkL (listsX true (listsX true l c.flight).1 c.buffer).2.1:=bareL_okL o2.2
 have q1 : (listsX true l c.flight).1.length + (listsX true l c.flight).2.1.length ≤ l.length + c.flight.length:=by
  show (bareL _).length + (bareL _).length ≤ _
  rw [bareL_len,bareL_len]
  exact i1
 have q2 : (listsX true (listsX true l c.flight).1 c.buffer).1.length + (listsX true (listsX true l c.flight).1 c.buffer).2.1.length ≤ (listsX true l c.flight).1.length + c.buffer.length:=by
  show (bareL _).length + (bareL _).length ≤ _
  rw [bareL_len,bareL_len]
  exact i2
 have hm:=h.mono
 obtain ⟨h1,h2,h3,h4,h5,h6,h7,h8,h9⟩:=h
 obtain ⟨l1,l2,l3⟩:=hl
 refine ⟨?_,by omega⟩
 unfold Cl.hear
 cases hr : !decide (rev = c.seen + 1) with
 | true => exact hm
 | false =>
 have hr : rev = c.seen + 1:=by simpa using hr
 cases hA : !decide ((AllR c.base l).2.2 = 0) with
 | true => exact hm
 | false =>
 cases !decide ((listsX true l c.flight).2.2 = 0) with
 | true => exact hm
 | false =>
 cases !decide ((listsX true (listsX true l c.flight).1 c.buffer).2.2 = 0) with
 | true => exact hm
 | false =>
  simp only [cond_false]
  obtain ⟨b1,b2⟩:=bringX_okL (prior:=true) l1 h1
  exact ⟨p1,p2,by simp only;omega,by simp only;omega,⟨by simp only;omega,by simp only;omega⟩,⟨h6.1,by simp only;omega⟩,by simp only;omega,by simp only;omega,fun q => by simp only;rw [h9 q];exact listsX_nil true l⟩
theorem CI.accepted {c : Cl} {k : Nat} (h : CI c k) (rev : Int) : CI (c.accepted rev).1 (k + 1):=by
 have e : wt (k + 1) = wt k + 648 * (k + 1):=rfl
 have hw:=AllR_weight c.base c.flight
 have hm:=h.mono
 obtain ⟨h1,h2,h3,h4,h5,h6,h7,h8,h9⟩:=h
 unfold Cl.accepted
 cases !c.sent with
 | true => exact hm
 | false =>
 cases hr : !decide (rev = c.seen + 1) with
 | true => exact hm
 | false =>
 have hr : rev = c.seen + 1:=by simpa using hr
 cases decide ((AllR c.base c.flight).2.2 = 0) with
 | false => exact hm
 | true =>
  simp only [Bool.or_self,cond_true,cond_false]
  exact ⟨okL_nil,h2,by simp only [List.length_nil];omega,by simp only [costs_nil];omega,⟨by simp only;omega,by simp only;omega⟩,⟨h6.1,by simp only;omega⟩,by simp only;omega,by simp only;omega,fun _ => rfl⟩
theorem CI.drop {c : Cl} {k : Nat} (h : CI c k) : CI c.dropped (k + 1):=by
 have hm:=h.mono
 obtain ⟨h1,h2,h3,h4,h5,h6,h7,h8,h9⟩:=hm
 exact ⟨okL_nil,okL_nil,by simp [Cl.dropped],by simp [Cl.dropped,costs_nil],h5,h6,h7,h7,fun _ => rfl⟩
theorem CI.begun {t : Tree} (h : t.weight ≤ 100) (rev seq : Int) (hm : mayE rev seq t = 0) : CI (Cl.new rev seq t) 0:=by
 have hr : 0 ≤ rev ∧ 0 ≤ seq ∧ rev ≤ 2305843009213693952 ∧ seq ≤ 2305843009213693952:=by
  unfold mayE at hm
  cases h1 : decide (min rev seq < 0) || decide (2305843009213693952 < max rev seq) with
  | true => rw [h1] at hm;simp at hm
  | false =>
   simp only [Bool.or_eq_false_iff,decide_eq_false_iff_not] at h1
   omega
 exact ⟨okL_nil,okL_nil,by simp [Cl.new],by simp [Cl.new,costs_nil],⟨hr.1,by simp only [Cl.new];omega⟩,⟨hr.2.1,by simp only [Cl.new];omega⟩,h,h,fun _ => rfl⟩
end Bow
/- W112: which scripts of a window are light. -/
namespace Bow
open Go Go.Proofs
end Bow
/- W133: which scripts of a client are light; numbers near others. -/
namespace Bow
open Go Go.Proofs
structure Call22 where
  kind : Int
  rev : Int
  seq : Int
  taken : Bool
  l : List OpT
  n : Tree
def call22V (c : Call22) : V := .agg [.int .u8 c.kind, .int .i64 c.rev, .int .i64 c.seq, .bool c.taken, .sl 11 (c.l.map opV), .int .u64 c.n.id, .bool c.n.leaf, .str c.n.label, .sl 2 (c.n.attrs.map attrV), .str c.n.text, .sl 6 c.n.subV]
def calls22V (l : List Call22) : V := .sl 11 (l.map call22V)
set_option maxRecDepth 100000 in
theorem w_few22 (l : List OpT) : Pure Tryz.prog 42 [opsV l] (fun x => ∃ b : Bool, x = .bool b ∧ (b = true → LightL l 4 40)) := by
  have ff : ∃ y, Wk .ff y ∧ y.pureB = true ∧ ∃ b : Bool, y = .bool b ∧ (b = true → LightL l 4 40) := ⟨_, Wk.ff, rfl, false, rfl, fun h => by cases h⟩
  refine pure_wk (pure_fn 60 Tryz.func42 rfl rfl rfl fun B => ?_)
  show CallThen _ _ _ _ _ _
  refine call_pure (w_LightList l 4 40 (by decide) (by decide)) rfl ?_
  rintro x ⟨b, rfl, hb⟩
  refine ⟨fun g => go 60 ?_, fun g => go 60 ?_⟩
  · exact ⟨trivial, rfl, rfl, rfl, ff⟩
  have hl := hb (by simpa using g)
  have hlen := hl.len
  show Goes _ _ _ _
  refine goes_iter (ι := Nat) (fun i => i ≤ l.length) (fun i => l.length - i) (fun i => [(3, .int .i64 i), (0, opsV l)]) (fun _ => []) 0 60 (fun _ => rfl) (fun _ => rfl) ⟨Nat.zero_le _, ⟨⟨rfl, rfl⟩, ⟨rfl, rfl⟩, trivial⟩, trivial⟩ ?_
  rintro i k1 next
  refine ⟨fun hlt => go 60 ?_, fun hge => go 60 ?_⟩
  · have hi : i < l.length := by simpa using hlt
    have hp := (hl.ops _ (List.getElem_mem hi)).1.pieces
    have hx : (l.map opV)[i]? = some (opV l[i]) := by simp [hi]
    refine ⟨Int.natCast_nonneg i, _, hx, ?_⟩
    show CallThen _ _ _ _ _ _
    refine call_pure (w_Small l[i].pieces 100 (by omega) (by decide)) rfl ?_
    rintro z ⟨s1, rfl⟩
    refine ⟨fun g => go 60 ?_, fun g => go 60 ?_⟩
    · exact ⟨trivial, rfl, rfl, rfl, ff⟩
    refine ⟨by constructor <;> omega, ?_⟩
    show Goes _ _ _ _
    exact next (i + 1) _ _ ⟨hi, by omega, ⟨⟨rfl, rfl⟩, ⟨rfl, rfl⟩, trivial⟩, trivial⟩
  · exact ⟨trivial, rfl, rfl, rfl, _, Wk.tt, rfl, true, rfl, fun _ => hl⟩
structure LightC (c : Call22) : Prop where
  l : LightL c.l 4 40
  n : c.n.weight ≤ 100
set_option maxRecDepth 100000 in
theorem w_light22 (l : List Call22) : Pure Tryz.prog 23 [calls22V l] (fun x => ∃ b : Bool, x = .bool b ∧ (b = true → l.length ≤ 30 ∧ ∀ c ∈ l, LightC c)) := by
  have ff : ∃ y, Wk .ff y ∧ y.pureB = true ∧ ∃ b : Bool, y = .bool b ∧ (b = true → l.length ≤ 30 ∧ ∀ c ∈ l, LightC c) := ⟨_, Wk.ff, rfl, false, rfl, fun h => by cases h⟩
  refine pure_wk (pure_fn 60 Tryz.func23 rfl rfl rfl fun B => ?_)
  refine ⟨fun g => go 60 ?_, fun g => go 60 ?_⟩
  · exact ⟨trivial, rfl, rfl, rfl, ff⟩
  have hlen : l.length ≤ 30 := by have := not_lt_of g; simp at this; omega
  show Goes _ _ _ _
  refine goes_iter (ι := Nat) (fun i => i ≤ l.length ∧ ∀ c ∈ l.take i, LightC c) (fun i => l.length - i) (fun i => [(3, .int .i64 i), (0, calls22V l)]) (fun _ => []) 0 60 (fun _ => rfl) (fun _ => rfl) ⟨⟨Nat.zero_le _, by simp⟩, ⟨⟨rfl, rfl⟩, ⟨rfl, rfl⟩, trivial⟩, trivial⟩ ?_
  rintro i ⟨k1, k2⟩ next
  refine ⟨fun hlt => go 60 ?_, fun hge => go 60 ?_⟩
  · have hi : i < l.length := by simpa using hlt
    have hx : (l.map call22V)[i]? = some (call22V l[i]) := by simp [hi]
    refine ⟨Int.natCast_nonneg i, _, hx, ?_⟩
    show CallThen _ _ _ _ _ _
    refine call_pure (w_few22 l[i].l) rfl ?_
    rintro z ⟨b, rfl, hb⟩
    refine ⟨fun g => go 60 ?_, fun g => go 60 ?_⟩
    · exact ⟨trivial, rfl, rfl, rfl, ff⟩
    have hb := hb (by simpa using g)
    refine ⟨Int.natCast_nonneg i, _, hx, ?_⟩
    show CallThen _ _ _ _ _ _
    refine call_pure (w_Weight l[i].n 100 (by decide)) rfl ?_
    rintro z ⟨w, rfl, w1, w2, w3⟩
    refine ⟨fun g => go 60 ?_, fun g => go 60 ?_⟩
    · exact ⟨trivial, rfl, rfl, rfl, ff⟩
    have gw : (w : Int) ≤ 100 := not_lt_of g
    have hw : l[i].n.weight ≤ 100 := by have := w3 (by omega); omega
    refine ⟨by constructor <;> omega, ?_⟩
    show Goes _ _ _ _
    refine next (i + 1) _ _ ⟨⟨hi, fun c hc => ?_⟩, by omega, ⟨⟨rfl, rfl⟩, ⟨rfl, rfl⟩, trivial⟩, trivial⟩
    rw [List.take_succ_eq_append_getElem hi] at hc
    rcases List.mem_append.1 hc with hc | hc
    · exact k2 c hc
    · rw [List.mem_singleton.1 hc]
      exact ⟨hb, hw⟩
  · have hi : i = l.length := by have : l.length ≤ i := by simpa using hge
                                 omega
    rw [hi, List.take_length] at k2
    exact ⟨trivial, rfl, rfl, rfl, _, Wk.tt, rfl, true, rfl, fun _ => ⟨hlen, k2⟩⟩
def nearI (n base : Int) : Int := bif decide (-60 ≤ n) && decide (n ≤ 60) then base + n else n
set_option maxRecDepth 100000 in
theorem w_near22 (n base : Int) (h : 0 ≤ base ∧ base ≤ 4611686018427387904) : Pure Tryz.prog 32 [.int .i64 n, .int .i64 base] (fun x => x = .int .i64 (nearI n base)) := by
  obtain ⟨R, hR⟩ : ∃ R, nearI n base = R := ⟨_, rfl⟩
  rw [hR]
  unfold nearI at hR
  refine pure_fn 60 Tryz.func32 rfl rfl rfl fun B => ?_
  refine ⟨fun g => go 60 ?_, fun g => go 60 ?_⟩
  · have h1 : -60 ≤ n := by have := of_decide_eq_true g; omega
    rw [decide_eq_true h1] at hR
    refine ⟨fun g2 => go 60 ?_, fun g2 => go 60 ?_⟩
    · have h2 : n ≤ 60 := by have := of_decide_eq_true g2; omega
      rw [decide_eq_true h2] at hR
      refine ⟨by constructor <;> omega, ?_⟩
      exact ⟨trivial, rfl, rfl, rfl, by rw [← hR]; rfl⟩
    · have h2 : ¬ n ≤ 60 := by have := of_decide_eq_false g2; omega
      rw [decide_eq_false h2] at hR
      exact ⟨trivial, rfl, rfl, rfl, by rw [← hR]; rfl⟩
  · have h1 : ¬ -60 ≤ n := by have := of_decide_eq_false g; omega
    rw [decide_eq_false h1] at hR
    exact ⟨trivial, rfl, rfl, rfl, by rw [← hR]; rfl⟩
end Bow
/- AE65: facts for regions that draw their order: a call that is handed three objects. -/
namespace Bow
open Go
section
variable {c : Cx} {ops : Array Oper} {i : Nat} {o : Oper} {E : Env} {T : Heap} {gs : List Tmp}
theorem fact_sub3 {f : Operand} {args : Array Operand} {ts : Array TypeId} {g : FuncId} {first cap args' : List V} {x : V} (k0 k1 k2 : Nat) {a0 a1 a2 b0 b1 b2 : HObj} (hg : Guarded ops o E gs true) (ho : ops[i]? = some o)
    (hop : o.op = .call { callee := .value f, args := args, argTypes := ts }) (hf : opd E f = .fn (.func g) first cap) (h0 : T[k0]? = some (some (a0.ren [k0, k1, k2]))) (h1 : T[k1]? = some (some (a1.ren [k0, k1, k2]))) (h2 : T[k2]? = some (some (a2.ren [k0, k1, k2])))
    (hnd : nodupB [k0, k1, k2] = true) (hD : c.D.all (fun k => !memN [k0, k1, k2] k) = true) (hs : (a0.scB 3 && (a1.scB 3 && a2.scB 3)) = true)
    (hfun : Fun c.P g [some a0, some a1, some a2] args' (fun y T1 => y = x ∧ T1 = [some b0, some b1, some b2])) (ha : first ++ args.toList.map (opd E) ++ cap = V.renL [k0, k1, k2] args') (hsc : V.scBL 3 args' = true) (hx : ∀ ρ, x.ren ρ = x) :
    Fact c ops i E T ⟨o.dst, gs ++ tmpsOf o.op.operands.toList, [k0, k1, k2], x, [(k0, some (b0.ren [k0, k1, k2])), (k1, some (b1.ren [k0, k1, k2])), (k2, some (b2.ren [k0, k1, k2]))], none⟩ := by
  simp only [Bool.and_eq_true] at hs
  refine fact_call_then ho hg hop hf fun E' T' hl hT' => ?_
  have e0 := (hT' k0 (by simp)).trans h0
  have e1 := (hT' k1 (by simp)).trans h1
  have e2 := (hT' k2 (by simp)).trans h2
  have l0 := lt_of_get e0
  have l1 := lt_of_get e1
  have l2 := lt_of_get e2
  rw [ha]
  refine call_sub [k0, k1, k2] hfun hnd (by simp only [subB, Bool.and_true, Bool.and_eq_true, Nat.blt, Nat.ble_eq]; exact ⟨l0, l1, l2⟩) ⟨⟨by rw [lget_eq]; exact e0, hs.1⟩, ⟨by rw [lget_eq]; exact e1, hs.2.1⟩, ⟨by rw [lget_eq]; exact e2, hs.2.2⟩, trivial⟩ rfl hsc hD ?_
  rintro y T1 ⟨rfl, rfl⟩
  refine ⟨rfl, ?_⟩
  rw [setAllK_eq]
  refine ⟨hx _, ?_⟩
  simp only [setAll, omap, subρ, lcount, Nat.sub_self, rangeFrom, List.append_nil, List.map_nil, app]
theorem goes_remK {t t' : TypeId} {x y : Operand} {ik : IntKind} {a b : Int} {rest : List Nat} {k : List Item} (n : Nat) (ho : lget ops.toList i = some o) (hg : o.guard = none) (hop : o.op = .binOp .rem t x y t') (hx : opd E x = .int ik a) (hy : opd E y = .int ik b) (hb : b ≠ 0)
    (h : putE c.nt o.dst (.int ik (a.tmod b)) E False fun E' => evp c n (.inRegion ops rest :: k) E' T) : Goes c (.inRegion ops (i :: rest) :: k) E T := by
  refine goes_opTo n ho hg hop (fun o hop w β H m a hs => ?_) (fun cl h => by cases h) h
  have e1 := rep_int (by have := opd_rep hs x; rwa [hx] at this)
  have e2 := rep_int (by have := opd_rep hs y; rwa [hy] at this)
  refine ⟨_, _, w, β, H, m, ?_, .inl rfl, hs, Fr.refl w β H, .int _ _, List.prefix_refl m⟩
  simp [execOp, hop, e1, e2, eqGuard, binOp, Op.intDiv, hb]
end
end Bow
/- W134: the law ClientDrops, walked. -/
namespace Bow
open Go Go.Proofs
theorem seen_edit (c : Cl) (l : List OpT) : (c.edit l).1.seen = c.seen:=by
 unfold Cl.edit
 cases !decide (firstBad l = 0) with
 | true => rfl
 | false =>
 cases decide (512 < (c.buffer.length : Int) + l.length) with
 | true => rfl
 | false =>
 cases decide ((AllR c.tree l).2.2 = 0) with
 | true => rfl
 | false => rfl
theorem seen_submit (c : Cl) : c.submit.1.seen = c.seen:=by
 unfold Cl.submit
 cases c.sent with
 | true => rfl
 | false =>
 cases decide ((listS c.buffer).length = 0) with
 | true => rfl
 | false => rfl
theorem seen_hear (c : Cl) (rev : Int) (l : List OpT) : (c.hear rev l).1.seen ≤ c.seen + 1:=by
 unfold Cl.hear
 cases hr : !decide (rev = c.seen + 1) with
 | true => simp only [cond_true];omega
 | false =>
 have hr : rev = c.seen + 1:=by simpa using hr
 cases !decide ((AllR c.base l).2.2 = 0) with
 | true => simp only [cond_true,cond_false];omega
 | false =>
 cases !decide ((listsX true l c.flight).2.2 = 0) with
 | true => simp only [cond_true,cond_false];omega
 | false =>
 cases !decide ((listsX true (listsX true l c.flight).1 c.buffer).2.2 = 0) with
 | true => simp only [cond_true,cond_false];omega
 | false => simp only [cond_false];omega
theorem seen_accepted (c : Cl) (rev : Int) : (c.accepted rev).1.seen ≤ c.seen + 1:=by
 unfold Cl.accepted
 cases hr : !c.sent || !decide (rev = c.seen + 1) with
 | true => simp only [cond_true];omega
 | false =>
 have hr : rev = c.seen + 1:=by simp at hr;exact hr.2
 cases decide ((AllR c.base c.flight).2.2 = 0) with
 | true => simp only [cond_true,cond_false];omega
 | false => simp only [cond_false];omega
theorem same22 {l : List OpT} (h : OkL l) (hl : l.length ≤ 1000) : Pure Tryz.prog 22 [opsV (bareL l),opsV (bareL l)] (fun v => v = .bool true):=by
 have:=w_ref13Same (bareL l) (bareL l) (by rw [bareL_len];omega) (fun o ho => (bareL_okL h o ho).1.lt) (fun o ho => (bareL_okL h o ho).1.lt)
 rwa [sameL_refl] at this
theorem same22' {a l : List OpT} (e : a = l) (h : OkL l) (hl : l.length ≤ 1000) : Pure Tryz.prog 22 [opsV (bareL a),opsV (bareL l)] (fun v => v = .bool true):=by
 subst e
 exact same22 h hl
theorem sameT22 {t : Tree} (h : t.weight ≤ 1000000) : Pure Tryz.prog 19 [nodeV t,nodeV t] (fun v => v = .bool true):=by
 have:=w_refSameT t t h
 rwa [sameT_refl] at this
theorem may22 {s : Int} {m : Tree} (hs : 0 ≤ s ∧ s ≤ 1000) (hr : rightT m = true) : mayE (s + 3) 7 m = 0:=by
 have e : (decide (min (s + 3) 7 < 0) || decide (2305843009213693952 < max (s + 3) 7)) = false:=by
  rw [decide_eq_false (by omega),decide_eq_false (by omega)]
  rfl
 unfold mayE
 rw [e,hr]
 rfl
theorem may22_bad {s : Int} {m : Tree} (hs : 0 ≤ s ∧ s ≤ 1000) (hr : rightT m = false) : mayE (s + 3) 7 m = 60:=by
 have e : (decide (min (s + 3) 7 < 0) || decide (2305843009213693952 < max (s + 3) 7)) = false:=by
  rw [decide_eq_false (by omega),decide_eq_false (by omega)]
  rfl
 unfold mayE
 rw [e,hr]
 rfl
set_option maxRecDepth 100000 in
theorem w_cBufferP (c : Cl) (gf gb : Nat) (hl : c.buffer.length ≤ 1000000) (hok : OkS c.buffer) : Fun Tryz.prog 37 (clT c gf gb) [.ptr (.loc 0) 0] (fun x T' => x = opsV (bareL c.buffer) ∧ T' = clT c gf gb):=by
 refine fun_keep 3 rfl (fun_frzR ((w_cBuffer c gf gb hl hok).mono fun x T' hq => ?_))
 obtain ⟨g,rfl,rfl⟩:=hq
 exact ⟨rfl,rfl,rfl,clT c gf gb,rfl,rfl,heapIs_pre (clT c gf gb) [_] rfl,rfl,rfl⟩
def bxD (c : Cl) (gf gb : Nat) : HObj:=.box (clC c (.osl (.loc 1) gf 0 (c.flight.map opV).length) (.osl (.loc 2) gb 0 (c.buffer.map opV).length))
def vfD (c : Cl) (g : Nat) : HObj:=.vec g 11 (c.flight.map opV)
def vbD (c : Cl) (g : Nat) : HObj:=.vec g 11 (c.buffer.map opV)
def hpD (n m : Tree) (c : Cl) (gf gb : Nat) (r : Heap) : Heap:=some (.box (nodeV n).cells) :: some (.box (nodeV m).cells) :: some (.box (nodeV n).cells) :: some (.box (clC c (.osl (.loc 4) gf 0 (c.flight.map opV).length) (.osl (.loc 5) gb 0 (c.buffer.map opV).length))) :: some (.vec gf 11 (c.flight.map opV)) :: some (.vec gb 11 (c.buffer.map opV)) :: r
set_option maxHeartbeats 4000000 in
set_option maxRecDepth 100000 in
theorem w_ClientDrops (n : Tree) (l : List Call22) (tk : Bool) (m : Tree) :
  Pure Tryz.prog 5 [nodeV n,calls22V l,.bool tk,nodeV m] (fun x => x = .bool true):=by
 have hw:=w_works22
 refine pure_wk (pure_fn 60 Tryz.func5 rfl rfl rfl fun B => ?_)
 show CallThen _ _ _ _ _ _
 refine call_pure (w_Weight n 100 (by decide)) rfl ?_
 rintro z ⟨w,rfl,w1,w2,w3⟩
 refine ⟨fun _ => go 60 ?_,fun ga => go 60 ?_⟩
 ·show CallThen _ _ _ _ _ _
  refine call_pure hw rfl ?_
  rintro z rfl
  exact ⟨trivial,rfl,rfl,rfl,leaf_b rfl⟩
 have ga : (w : Int) ≤ 100:=not_lt_of ga
 have hn : n.weight ≤ 100:=by have:=w3 (by omega);omega
 show CallThen _ _ _ _ _ _
 refine call_pure (w_light22 l) rfl ?_
 rintro z ⟨b1,rfl,hcs⟩
 refine ⟨fun _ => go 60 ?_,fun g1 => go 60 ?_⟩
 ·show CallThen _ _ _ _ _ _
  refine call_pure hw rfl ?_
  rintro z rfl
  exact ⟨trivial,rfl,rfl,rfl,leaf_b rfl⟩
 have hcs:=hcs (by simpa using g1)
 show CallThen _ _ _ _ _ _
 refine call_pure (w_Weight m 100 (by decide)) rfl ?_
 rintro z ⟨wm,rfl,v1,v2,v3⟩
 refine ⟨fun _ => go 60 ?_,fun gm => go 60 ?_⟩
 ·show CallThen _ _ _ _ _ _
  refine call_pure hw rfl ?_
  rintro z rfl
  exact ⟨trivial,rfl,rfl,rfl,leaf_b rfl⟩
 have gm : (wm : Int) ≤ 100:=not_lt_of gm
 have hm : m.weight ≤ 100:=by have:=v3 (by omega);omega
 rcases Decidable.em (mayE 0 0 n = 0) with hy | hy
 ·show Goes { P:=Tryz.prog,nt:=Tryz.f5.ntmps,fn:=5,ro:=none,imps:=[],X:=XR Tryz.prog [] Tryz.f5.results B fun x T => frz x T False fun x' _ => x'.pureB = true ∧ ∃ y,Wk x' y ∧ y.pureB = true ∧ y = V.bool true,B:=B,D:=[] } _ _ _
  refine goes_iter (ι:=Nat) (fun t => t ≤ 2) (fun t => 2 - t) (fun t => [(9,.int .i64 t),(7,.ptr (.loc 1) 0),(4,.ptr (.loc 0) 0),(2,.bool tk),(1,calls22V l)]) (fun _ => [some (.box (nodeV n).cells),some (.box (nodeV m).cells)]) 0 60 (fun _ => rfl) (fun _ => rfl)
   ⟨Nat.zero_le _,⟨⟨rfl,rfl⟩,⟨rfl,rfl⟩,⟨rfl,rfl⟩,⟨rfl,rfl⟩,⟨rfl,rfl⟩,trivial⟩,⟨⟨rfl,rfl⟩,⟨rfl,rfl⟩,trivial⟩⟩ ?_
  rintro t ht nextT
  refine ⟨fun hlt => go 60 ?_,fun hge => go 60 ?_⟩
  ·have ht2 : t < 2:=by have:=lt_of hlt;omega
   show CallThen _ _ _ _ _ _
   refine call_subE [] (w_cNew 0 0 n hy (by omega)) rfl rfl trivial rfl rfl rfl ?_
   rintro x T1 ⟨rfl,rfl⟩
   refine ⟨rfl,[some (.box (nodeV n).cells),some (.box (nodeV m).cells),some (.box (nodeV n).cells),some (.box (clC (Cl.new 0 0 n) .nilsl .nilsl))],_,rfl,rfl,?_⟩
   refine ⟨fun q => absurd rfl (ne_of' q),fun _ => ?_⟩
   refine goes_ownCell 3 15 11 rfl rfl ?_
   refine goes_ownCell 3 16 11 rfl rfl ?_
   refine go 60 ?_
   show Goes { P:=Tryz.prog,nt:=Tryz.f5.ntmps,fn:=5,ro:=none,imps:=[],X:=XR Tryz.prog [] Tryz.f5.results B fun x T => frz x T False fun x' _ => x'.pureB = true ∧ ∃ y,Wk x' y ∧ y.pureB = true ∧ y = V.bool true,B:=B,D:=[] } _ _ _
   refine goes_iter (ι:=Nat × Cl × Nat × Nat) (fun i => i.1 ≤ l.length ∧ CI i.2.1 i.1 ∧ i.2.1.seen ≤ i.1) (fun i => l.length - i.1) (fun i => [(12,.int .i64 i.1),(10,.ptr (.loc 3) 0),(9,.int .i64 t),(7,.ptr (.loc 1) 0),(4,.ptr (.loc 0) 0),(2,.bool tk),(1,calls22V l)])
    (fun i => hpD n m i.2.1 i.2.2.1 i.2.2.2 []) (0,Cl.new 0 0 n,0,0) 60 (fun _ => rfl) (fun _ => rfl)
    ⟨⟨Nat.zero_le _,CI.begun hn 0 0 hy,Int.le_refl _⟩,⟨⟨rfl,rfl⟩,⟨rfl,rfl⟩,⟨rfl,rfl⟩,⟨rfl,rfl⟩,⟨rfl,rfl⟩,⟨rfl,rfl⟩,⟨rfl,rfl⟩,trivial⟩,⟨⟨rfl,rfl⟩,⟨rfl,rfl⟩,⟨rfl,rfl⟩,⟨rfl,rfl⟩,⟨rfl,rfl⟩,⟨rfl,rfl⟩,trivial⟩⟩ ?_
   rintro ⟨i,c,gf,gb⟩ ⟨k1,k2,k3⟩ next
   refine ⟨fun hlt => go 60 ?_,fun hge => ?_⟩
   ·have hi : i < l.length:=by simpa using hlt
    have hx : (l.map call22V)[i]? = some (call22V l[i]):=by simp [hi]
    have hL:=hcs.2 _ (List.getElem_mem hi)
    have hLc:=lc_of hL.l
    have hl30:=hcs.1
    have hwt:=wt_le (k:=i) (by omega)
    have e1:=hLc.len
    have e2:=hLc.cost
    have e3:=k2.len
    have e4:=k2.cost
    have e5:=k2.seen
    have e6:=k2.seq
    have e7:=k2.base
    have e8:=k2.tree
    simp only at e3 e4 e5 e6 e7 e8 k3
    refine ⟨Int.natCast_nonneg i,_,hx,?_⟩
    show Goes _ _ _ _
    refine goes_remK 60 rfl rfl rfl rfl rfl (by decide) ?_
    refine ⟨fun h0 => go 60 ?_,fun h0 => go 60 ?_⟩
    ·show CallThen _ _ _ _ _ _
     refine call_subE [3,4,5] (w_cEdit c gf gb l[i].l (by omega) (by omega) hLc.ok (by omega)) rfl rfl ⟨⟨rfl,rfl⟩,⟨rfl,rfl⟩,⟨rfl,rfl⟩,trivial⟩ rfl rfl rfl ?_
     rintro x T1 ⟨gb',rfl,rfl⟩
     refine ⟨rfl,hpD n m (c.edit l[i].l).1 gf gb' [some (.box (call22V l[i]).cells)],_,rfl,rfl,?_⟩
     refine ⟨by constructor <;> omega,?_⟩
     show Goes _ _ _ _
     exact next (i + 1,(c.edit l[i].l).1,gf,gb') _ _ ⟨⟨hi,k2.edit hLc,by have:=seen_edit c l[i].l;simp only;omega⟩,by simp only;omega,⟨⟨rfl,rfl⟩,⟨rfl,rfl⟩,⟨rfl,rfl⟩,⟨rfl,rfl⟩,⟨rfl,rfl⟩,⟨rfl,rfl⟩,⟨rfl,rfl⟩,trivial⟩,⟨⟨rfl,rfl⟩,⟨rfl,rfl⟩,⟨rfl,rfl⟩,⟨rfl,rfl⟩,⟨rfl,rfl⟩,⟨rfl,rfl⟩,trivial⟩⟩
    refine ⟨fun h0 => go 60 ?_,fun h0 => go 60 ?_⟩
    ·show CallThen _ _ _ _ _ _
     refine call_subE [3,4,5] (w_cEdit c gf gb l[i].l (by omega) (by omega) hLc.ok (by omega)) rfl rfl ⟨⟨rfl,rfl⟩,⟨rfl,rfl⟩,⟨rfl,rfl⟩,trivial⟩ rfl rfl rfl ?_
     rintro x T1 ⟨gb',rfl,rfl⟩
     refine ⟨rfl,hpD n m (c.edit l[i].l).1 gf gb' [some (.box (call22V l[i]).cells)],_,rfl,rfl,?_⟩
     refine ⟨by constructor <;> omega,?_⟩
     show Goes _ _ _ _
     exact next (i + 1,(c.edit l[i].l).1,gf,gb') _ _ ⟨⟨hi,k2.edit hLc,by have:=seen_edit c l[i].l;simp only;omega⟩,by simp only;omega,⟨⟨rfl,rfl⟩,⟨rfl,rfl⟩,⟨rfl,rfl⟩,⟨rfl,rfl⟩,⟨rfl,rfl⟩,⟨rfl,rfl⟩,⟨rfl,rfl⟩,trivial⟩,⟨⟨rfl,rfl⟩,⟨rfl,rfl⟩,⟨rfl,rfl⟩,⟨rfl,rfl⟩,⟨rfl,rfl⟩,⟨rfl,rfl⟩,trivial⟩⟩
    refine ⟨fun h0 => go 60 ?_,fun h0 => go 60 ?_⟩
    ·show CallThen _ _ _ _ _ _
     refine call_subE [3,4,5] (w_cSubmit c gf gb (by omega) (by omega) (okL_S k2.buffer) k2.none) rfl rfl ⟨⟨rfl,rfl⟩,⟨rfl,rfl⟩,⟨rfl,rfl⟩,trivial⟩ rfl rfl rfl ?_
     rintro x T1 ⟨gf',gb',rfl,rfl⟩
     refine ⟨rfl,hpD n m c.submit.1 gf' gb' [some (.box (call22V l[i]).cells)],_,rfl,rfl,?_⟩
     refine ⟨by constructor <;> omega,?_⟩
     show Goes _ _ _ _
     exact next (i + 1,c.submit.1,gf',gb') _ _ ⟨⟨hi,k2.submit,by have:=seen_submit c;simp only;omega⟩,by simp only;omega,⟨⟨rfl,rfl⟩,⟨rfl,rfl⟩,⟨rfl,rfl⟩,⟨rfl,rfl⟩,⟨rfl,rfl⟩,⟨rfl,rfl⟩,⟨rfl,rfl⟩,trivial⟩,⟨⟨rfl,rfl⟩,⟨rfl,rfl⟩,⟨rfl,rfl⟩,⟨rfl,rfl⟩,⟨rfl,rfl⟩,⟨rfl,rfl⟩,trivial⟩⟩
    refine ⟨fun h0 => go 60 ?_,fun h0 => go 60 ?_⟩
    ·show Goes _ _ _ _
     refine goes_drawX [(4,false),(8,false)] 60 ?_
     refine ⟨[3,4,5],.int .i64 c.seen,_,fun gs hg => fact_sub3 (a0:=bxD c gf gb) (a1:=vfD c gf) (a2:=vbD c gb) (b0:=bxD c gf gb) (b1:=vfD c gf) (b2:=vbD c gb) 3 4 5 hg rfl rfl rfl rfl rfl rfl rfl rfl rfl (w_cSeen c gf gb) rfl rfl (fun _ => rfl),trivial,?_⟩
     refine ⟨_,w_near22 l[i].rev c.seen (by omega),rfl,?_⟩
     refine ⟨[3,4,5],.int .i64 (c.hear (nearI l[i].rev c.seen) l[i].l).2,_,fun gs hg => fact_sub3 (a0:=bxD c gf gb) (a1:=vfD c gf) (a2:=vbD c gb) (b0:=bxD (c.hear (nearI l[i].rev c.seen) l[i].l).1 (hgen (decide ((c.hear (nearI l[i].rev c.seen) l[i].l).2 = 0)) gf) (hgen (decide ((c.hear (nearI l[i].rev c.seen) l[i].l).2 = 0)) gb)) (b1:=vfD (c.hear (nearI l[i].rev c.seen) l[i].l).1 (hgen (decide ((c.hear (nearI l[i].rev c.seen) l[i].l).2 = 0)) gf)) (b2:=vbD (c.hear (nearI l[i].rev c.seen) l[i].l).1 (hgen (decide ((c.hear (nearI l[i].rev c.seen) l[i].l).2 = 0)) gb)) 3 4 5 hg rfl rfl rfl rfl rfl rfl rfl rfl rfl (w_cHear c gf gb (nearI l[i].rev c.seen) l[i].l (by omega) (by omega) hLc.ok k2.flight k2.buffer (by omega) (by have:=(k2.hear hLc (nearI l[i].rev c.seen)).2;simp only at this;omega)) rfl rfl (fun _ => rfl),trivial,?_⟩
     refine ⟨by kernel_rfl,?_⟩
     refine ⟨by constructor <;> omega,?_⟩
     show Goes _ _ _ _
     exact next (i + 1,(c.hear (nearI l[i].rev c.seen) l[i].l).1,hgen (decide ((c.hear (nearI l[i].rev c.seen) l[i].l).2 = 0)) gf,hgen (decide ((c.hear (nearI l[i].rev c.seen) l[i].l).2 = 0)) gb) _ _ ⟨⟨hi,(k2.hear hLc (nearI l[i].rev c.seen)).1,by have:=seen_hear c (nearI l[i].rev c.seen) l[i].l;simp only;omega⟩,by simp only;omega,⟨⟨rfl,rfl⟩,⟨rfl,rfl⟩,⟨rfl,rfl⟩,⟨rfl,rfl⟩,⟨rfl,rfl⟩,⟨rfl,rfl⟩,⟨rfl,rfl⟩,trivial⟩,⟨⟨rfl,rfl⟩,⟨rfl,rfl⟩,⟨rfl,rfl⟩,⟨rfl,rfl⟩,⟨rfl,rfl⟩,⟨rfl,rfl⟩,trivial⟩⟩
    refine ⟨fun h0 => go 60 ?_,fun h0 => go 60 ?_⟩
    ·show Goes _ _ _ _
     refine goes_drawX [(4,false),(8,false)] 60 ?_
     refine ⟨[3,4,5],.int .i64 c.seen,_,fun gs hg => fact_sub3 (a0:=bxD c gf gb) (a1:=vfD c gf) (a2:=vbD c gb) (b0:=bxD c gf gb) (b1:=vfD c gf) (b2:=vbD c gb) 3 4 5 hg rfl rfl rfl rfl rfl rfl rfl rfl rfl (w_cSeen c gf gb) rfl rfl (fun _ => rfl),trivial,?_⟩
     refine ⟨_,w_near22 l[i].rev c.seen (by omega),rfl,?_⟩
     refine ⟨[3,4,5],.int .i64 (c.hear (nearI l[i].rev c.seen) l[i].l).2,_,fun gs hg => fact_sub3 (a0:=bxD c gf gb) (a1:=vfD c gf) (a2:=vbD c gb) (b0:=bxD (c.hear (nearI l[i].rev c.seen) l[i].l).1 (hgen (decide ((c.hear (nearI l[i].rev c.seen) l[i].l).2 = 0)) gf) (hgen (decide ((c.hear (nearI l[i].rev c.seen) l[i].l).2 = 0)) gb)) (b1:=vfD (c.hear (nearI l[i].rev c.seen) l[i].l).1 (hgen (decide ((c.hear (nearI l[i].rev c.seen) l[i].l).2 = 0)) gf)) (b2:=vbD (c.hear (nearI l[i].rev c.seen) l[i].l).1 (hgen (decide ((c.hear (nearI l[i].rev c.seen) l[i].l).2 = 0)) gb)) 3 4 5 hg rfl rfl rfl rfl rfl rfl rfl rfl rfl (w_cHear c gf gb (nearI l[i].rev c.seen) l[i].l (by omega) (by omega) hLc.ok k2.flight k2.buffer (by omega) (by have:=(k2.hear hLc (nearI l[i].rev c.seen)).2;simp only at this;omega)) rfl rfl (fun _ => rfl),trivial,?_⟩
     refine ⟨by kernel_rfl,?_⟩
     refine ⟨by constructor <;> omega,?_⟩
     show Goes _ _ _ _
     exact next (i + 1,(c.hear (nearI l[i].rev c.seen) l[i].l).1,hgen (decide ((c.hear (nearI l[i].rev c.seen) l[i].l).2 = 0)) gf,hgen (decide ((c.hear (nearI l[i].rev c.seen) l[i].l).2 = 0)) gb) _ _ ⟨⟨hi,(k2.hear hLc (nearI l[i].rev c.seen)).1,by have:=seen_hear c (nearI l[i].rev c.seen) l[i].l;simp only;omega⟩,by simp only;omega,⟨⟨rfl,rfl⟩,⟨rfl,rfl⟩,⟨rfl,rfl⟩,⟨rfl,rfl⟩,⟨rfl,rfl⟩,⟨rfl,rfl⟩,⟨rfl,rfl⟩,trivial⟩,⟨⟨rfl,rfl⟩,⟨rfl,rfl⟩,⟨rfl,rfl⟩,⟨rfl,rfl⟩,⟨rfl,rfl⟩,⟨rfl,rfl⟩,trivial⟩⟩
    refine ⟨fun h0 => go 60 ?_,fun h0 => go 60 ?_⟩
    ·show Goes _ _ _ _
     refine goes_drawX [(4,false),(6,false)] 60 ?_
     refine ⟨[3,4,5],.int .i64 c.seen,_,fun gs hg => fact_sub3 (a0:=bxD c gf gb) (a1:=vfD c gf) (a2:=vbD c gb) (b0:=bxD c gf gb) (b1:=vfD c gf) (b2:=vbD c gb) 3 4 5 hg rfl rfl rfl rfl rfl rfl rfl rfl rfl (w_cSeen c gf gb) rfl rfl (fun _ => rfl),trivial,?_⟩
     refine ⟨_,w_near22 l[i].rev c.seen (by omega),rfl,?_⟩
     refine ⟨[3,4,5],.int .i64 (c.accepted (nearI l[i].rev c.seen)).2,_,fun gs hg => fact_sub3 (a0:=bxD c gf gb) (a1:=vfD c gf) (a2:=vbD c gb) (b0:=bxD (c.accepted (nearI l[i].rev c.seen)).1 (hgen (decide ((c.accepted (nearI l[i].rev c.seen)).2 = 0)) gf) gb) (b1:=vfD (c.accepted (nearI l[i].rev c.seen)).1 (hgen (decide ((c.accepted (nearI l[i].rev c.seen)).2 = 0)) gf)) (b2:=vbD (c.accepted (nearI l[i].rev c.seen)).1 gb) 3 4 5 hg rfl rfl rfl rfl rfl rfl rfl rfl rfl (w_cAccepted c gf gb (nearI l[i].rev c.seen) (by omega) (by omega) k2.flight (by omega)) rfl rfl (fun _ => rfl),trivial,?_⟩
     refine ⟨by kernel_rfl,?_⟩
     refine ⟨by constructor <;> omega,?_⟩
     show Goes _ _ _ _
     exact next (i + 1,(c.accepted (nearI l[i].rev c.seen)).1,hgen (decide ((c.accepted (nearI l[i].rev c.seen)).2 = 0)) gf,gb) _ _ ⟨⟨hi,k2.accepted (nearI l[i].rev c.seen),by have:=seen_accepted c (nearI l[i].rev c.seen);simp only;omega⟩,by simp only;omega,⟨⟨rfl,rfl⟩,⟨rfl,rfl⟩,⟨rfl,rfl⟩,⟨rfl,rfl⟩,⟨rfl,rfl⟩,⟨rfl,rfl⟩,⟨rfl,rfl⟩,trivial⟩,⟨⟨rfl,rfl⟩,⟨rfl,rfl⟩,⟨rfl,rfl⟩,⟨rfl,rfl⟩,⟨rfl,rfl⟩,⟨rfl,rfl⟩,trivial⟩⟩
    refine ⟨fun h0 => go 60 ?_,fun h0 => go 60 ?_⟩
    ·rcases Bool.eq_false_or_eq_true c.sent with hs | hs
     ·show CallThen _ _ _ _ _ _
      refine call_subE [3,4,5] (w_cRefusedP c gf gb hs (by omega) (okL_S k2.flight) (okL_S k2.buffer)) rfl rfl ⟨⟨rfl,rfl⟩,⟨rfl,rfl⟩,⟨rfl,rfl⟩,trivial⟩ rfl rfl rfl ?_
      rintro x T1 ⟨rfl,rfl⟩
      refine ⟨rfl,hpD n m c.dropped (bump (bump gf)) (bump gb) [some (.box (call22V l[i]).cells)],_,rfl,rfl,?_⟩
      refine ⟨by constructor <;> omega,?_⟩
      show Goes _ _ _ _
      exact next (i + 1,c.dropped,bump (bump gf),bump gb) _ _ ⟨⟨hi,k2.drop,by have : c.dropped.seen ≤ i:=k3;simp only;omega⟩,by simp only;omega,⟨⟨rfl,rfl⟩,⟨rfl,rfl⟩,⟨rfl,rfl⟩,⟨rfl,rfl⟩,⟨rfl,rfl⟩,⟨rfl,rfl⟩,⟨rfl,rfl⟩,trivial⟩,⟨⟨rfl,rfl⟩,⟨rfl,rfl⟩,⟨rfl,rfl⟩,⟨rfl,rfl⟩,⟨rfl,rfl⟩,⟨rfl,rfl⟩,trivial⟩⟩
     ·show CallThen _ _ _ _ _ _
      refine call_subE [3,4,5] (w_cRefused_no c gf gb hs) rfl rfl ⟨⟨rfl,rfl⟩,⟨rfl,rfl⟩,⟨rfl,rfl⟩,trivial⟩ rfl rfl rfl ?_
      rintro x T1 ⟨rfl,rfl⟩
      refine ⟨rfl,hpD n m c gf gb [some (.box (call22V l[i]).cells)],_,rfl,rfl,?_⟩
      refine ⟨by constructor <;> omega,?_⟩
      show Goes _ _ _ _
      exact next (i + 1,c,gf,gb) _ _ ⟨⟨hi,k2.mono,by have:=k3;simp only;omega⟩,by simp only;omega,⟨⟨rfl,rfl⟩,⟨rfl,rfl⟩,⟨rfl,rfl⟩,⟨rfl,rfl⟩,⟨rfl,rfl⟩,⟨rfl,rfl⟩,⟨rfl,rfl⟩,trivial⟩,⟨⟨rfl,rfl⟩,⟨rfl,rfl⟩,⟨rfl,rfl⟩,⟨rfl,rfl⟩,⟨rfl,rfl⟩,⟨rfl,rfl⟩,trivial⟩⟩
    refine ⟨by constructor <;> omega,?_⟩
    show Goes _ _ _ _
    exact next (i + 1,c,gf,gb) _ _ ⟨⟨hi,k2.mono,by have:=k3;simp only;omega⟩,by simp only;omega,⟨⟨rfl,rfl⟩,⟨rfl,rfl⟩,⟨rfl,rfl⟩,⟨rfl,rfl⟩,⟨rfl,rfl⟩,⟨rfl,rfl⟩,⟨rfl,rfl⟩,trivial⟩,⟨⟨rfl,rfl⟩,⟨rfl,rfl⟩,⟨rfl,rfl⟩,⟨rfl,rfl⟩,⟨rfl,rfl⟩,⟨rfl,rfl⟩,trivial⟩⟩
   show Goes { P:=Tryz.prog,nt:=Tryz.f5.ntmps,fn:=5,ro:=none,imps:=[],X:=XR Tryz.prog [] Tryz.f5.results B fun x T => frz x T False fun x' _ => x'.pureB = true ∧ ∃ y,Wk x' y ∧ y.pureB = true ∧ y = V.bool true,B:=B,D:=[] } _ _ _
   refine go 60 ?_
   have k2 : CI c i:=k2
   have k1 : i ≤ l.length:=k1
   have k3 : c.seen ≤ i:=k3
   have hl30:=hcs.1
   have hwt:=wt_le (k:=i) (by omega)
   have e3:=k2.len
   have e4:=k2.cost
   have e5:=k2.seen
   have e7:=k2.base
   have e8:=k2.tree
   show CallThen _ _ _ _ _ _
   refine call_subE [3,4,5] (w_cFlight c gf gb (by omega) (okL_S k2.flight)) rfl rfl ⟨⟨rfl,rfl⟩,⟨rfl,rfl⟩,⟨rfl,rfl⟩,trivial⟩ rfl rfl rfl ?_
   rintro x T1 ⟨rfl,rfl⟩
   refine ⟨rfl,hpD n m c gf gb [some (.vec 2 11 ((bareL c.flight).map opV))],.tup [.osl (.loc 6) 2 0 ((bareL c.flight).map opV).length,.bool c.sent],rfl,rfl,?_⟩
   show CallThen _ _ _ _ _ _
   refine call_subE [3,4,5] (w_cBuffer c gf gb (by omega) (okL_S k2.buffer)) rfl rfl ⟨⟨rfl,rfl⟩,⟨rfl,rfl⟩,⟨rfl,rfl⟩,trivial⟩ rfl rfl rfl ?_
   rintro x T1 ⟨g7,rfl,rfl⟩
   refine ⟨rfl,hpD n m c gf gb [some (.vec 2 11 ((bareL c.flight).map opV)),some (.vec g7 11 ((bareL c.buffer).map opV))],.osl (.loc 7) g7 0 ((bareL c.buffer).map opV).length,rfl,rfl,?_⟩
   refine ⟨rfl,rfl,rfl,rfl,Nat.le_trans (Nat.mul_le_mul_right _ (show _ ≤ 1000001 by simp only [List.length_map,bareL_len];omega)) (by decide),?_⟩
   have happ : (bareL c.flight).map opV ++ (bareL c.buffer).map opV = (bareL (c.flight ++ c.buffer)).map opV:=by simp [bareL]
   have hpT : tk = true → c.pending tk = c.buffer:=by rintro rfl;rfl
   have hpF : tk = false → c.pending tk = c.flight ++ c.buffer:=by rintro rfl;rfl
   have hright:=Bool.eq_false_or_eq_true (rightT m)
   have hbad : rightT m = false → ∀ tk,Fun Tryz.prog 38 (clT c gf gb) [.ptr (.loc 0) 0,.int .i64 (c.seen + 3),.int .i64 7,.bool tk,nodeV m] (fun x T' => x = .tup [.nilsl,.int .i64 60] ∧ T' = clT c gf gb):=fun hr tk => by
    have:=w_cResync_bad c gf gb (c.seen + 3) 7 tk m (by rw [may22_bad (by omega) hr];decide) (by omega)
    rwa [may22_bad (by omega) hr] at this
   have hsent:=Bool.eq_false_or_eq_true c.sent
   refine ⟨fun q0 => ?_,fun q0 => ?_⟩
   ·show Goes { P:=Tryz.prog,nt:=Tryz.f5.ntmps,fn:=5,ro:=none,imps:=[],X:=XR Tryz.prog [] Tryz.f5.results B fun x T => frz x T False fun x' _ => x'.pureB = true ∧ ∃ y,Wk x' y ∧ y.pureB = true ∧ y = V.bool true,B:=B,D:=[] } _ _ _
    refine go 60 ?_
    rcases Bool.eq_false_or_eq_true c.sent with hs | hs
    ·show CallThen _ _ _ _ _ _
     refine call_subE [3,4,5] (w_cRefusedP c gf gb hs (by omega) (okL_S k2.flight) (okL_S k2.buffer)) rfl rfl ⟨⟨rfl,rfl⟩,⟨rfl,rfl⟩,⟨rfl,rfl⟩,trivial⟩ rfl rfl rfl ?_
     rintro x T1 ⟨rfl,rfl⟩
     refine ⟨rfl,hpD n m c.dropped (bump (bump gf)) (bump gb) [some (.vec (bump 2) 11 ((bareL c.flight).map opV ++ (bareL c.buffer).map opV)),some (.vec g7 11 ((bareL c.buffer).map opV))],_,rfl,rfl,?_⟩
     refine ⟨fun q => absurd q (by rw [hs];decide),fun _ => go 60 ?_⟩
     show CallThen _ _ _ _ _ _
     refine call_subE [3,4,5] (w_cFlight c.dropped (bump (bump gf)) (bump gb) (Nat.zero_le _) (okL_S okL_nil)) rfl rfl ⟨⟨rfl,rfl⟩,⟨rfl,rfl⟩,⟨rfl,rfl⟩,trivial⟩ rfl rfl rfl ?_
     rintro x T1 ⟨rfl,rfl⟩
     refine ⟨rfl,hpD n m c.dropped (bump (bump gf)) (bump gb) ([some (.vec (bump 2) 11 ((bareL c.flight).map opV ++ (bareL c.buffer).map opV)),some (.vec g7 11 ((bareL c.buffer).map opV))] ++ [some (.vec 2 11 [])]),.tup [.osl (.loc 8) 2 0 0,.bool false],rfl,rfl,?_⟩
     show Goes _ _ _ _
     refine goes_drawX [(5,false),(13,false),(19,false),(21,false),(30,false)] 60 ?_
     refine ⟨fun q => absurd q (by decide),fun _ => ?_⟩
     refine ⟨[6],.bool true,[],fun gs hg => fact_lend 11 [6] hg rfl rfl rfl (same22 (okL_app k2.flight k2.buffer) (by rw [List.length_append];omega)) (fun T' hT => ⟨.wk rfl (.refl _) (apart_ops ⟨rfl,rfl⟩ rfl _),.cut ((hT 6 (by simp)).trans rfl) (by simp) (by rw [happ];exact apart_opsL ⟨rfl,rfl⟩ _) (by rw [List.drop_zero,happ,List.take_of_length_le (by simp [bareL])]),trivial⟩) rfl rfl,trivial,?_⟩
     refine ⟨fun q => absurd q (by decide),fun _ => ?_⟩
     refine ⟨fun q => absurd q (by decide),fun _ => ?_⟩
     refine ⟨[3,4,5],.sl 11 [],_,fun gs hg => fact_sub3 (a0:=bxD c.dropped (bump (bump gf)) (bump gb)) (a1:=vfD c.dropped (bump (bump gf))) (a2:=vbD c.dropped (bump gb)) (b0:=bxD c.dropped (bump (bump gf)) (bump gb)) (b1:=vfD c.dropped (bump (bump gf))) (b2:=vbD c.dropped (bump gb)) 3 4 5 hg rfl rfl rfl rfl rfl rfl rfl rfl rfl (w_cBufferP c.dropped (bump (bump gf)) (bump gb) (Nat.zero_le _) (okL_S okL_nil)) rfl rfl (fun _ => rfl),trivial,?_⟩
     refine ⟨fun q => absurd q (by decide),fun _ => ?_⟩
     refine ⟨[3,4,5],nodeV c.dropped.tree,_,fun gs hg => fact_sub3 (a0:=bxD c.dropped (bump (bump gf)) (bump gb)) (a1:=vfD c.dropped (bump (bump gf))) (a2:=vbD c.dropped (bump gb)) (b0:=bxD c.dropped (bump (bump gf)) (bump gb)) (b1:=vfD c.dropped (bump (bump gf))) (b2:=vbD c.dropped (bump gb)) 3 4 5 hg rfl rfl rfl rfl rfl rfl rfl rfl rfl (w_cTree c.dropped (bump (bump gf)) (bump gb) (by show c.base.weight ≤ 1000000;omega)) rfl rfl (fun _ => rfl),trivial,?_⟩
     refine ⟨[3,4,5],nodeV c.dropped.base,_,fun gs hg => fact_sub3 (a0:=bxD c.dropped (bump (bump gf)) (bump gb)) (a1:=vfD c.dropped (bump (bump gf))) (a2:=vbD c.dropped (bump gb)) (b0:=bxD c.dropped (bump (bump gf)) (bump gb)) (b1:=vfD c.dropped (bump (bump gf))) (b2:=vbD c.dropped (bump gb)) 3 4 5 hg rfl rfl rfl rfl rfl rfl rfl rfl rfl (w_cBase c.dropped (bump (bump gf)) (bump gb) (by show c.base.weight ≤ 1000000;omega)) rfl rfl (fun _ => rfl),trivial,?_⟩
     refine ⟨_,sameT22 (by show c.base.weight ≤ 1000000;omega),rfl,?_⟩
     refine ⟨fun q => absurd q (by decide),fun _ => ?_⟩
     refine ⟨fun q => absurd (of_decide_eq_true q) (by have:=of_decide_eq_true q0;omega),fun _ => ?_⟩
     refine ⟨by kernel_rfl,?_⟩
     refine ⟨by constructor <;> omega,?_⟩
     show Goes _ _ _ _
     exact nextT (t + 1) _ _ ⟨by omega,by omega,⟨⟨rfl,rfl⟩,⟨rfl,rfl⟩,⟨rfl,rfl⟩,⟨rfl,rfl⟩,⟨rfl,rfl⟩,trivial⟩,⟨⟨rfl,rfl⟩,⟨rfl,rfl⟩,trivial⟩⟩
    ·show CallThen _ _ _ _ _ _
     refine call_subE [3,4,5] (w_cRefused_no c gf gb hs) rfl rfl ⟨⟨rfl,rfl⟩,⟨rfl,rfl⟩,⟨rfl,rfl⟩,trivial⟩ rfl rfl rfl ?_
     rintro x T1 ⟨rfl,rfl⟩
     refine ⟨rfl,hpD n m c gf gb [some (.vec (bump 2) 11 ((bareL c.flight).map opV ++ (bareL c.buffer).map opV)),some (.vec g7 11 ((bareL c.buffer).map opV))],_,rfl,rfl,?_⟩
     refine ⟨fun _ => go 60 ?_,fun q => absurd q (by rw [hs];decide)⟩
     refine ⟨fun q => absurd q (by decide),fun _ => go 60 ?_⟩
     show CallThen _ _ _ _ _ _
     refine call_subE [3,4,5] (w_cBuffer c gf gb (by omega) (okL_S k2.buffer)) rfl rfl ⟨⟨rfl,rfl⟩,⟨rfl,rfl⟩,⟨rfl,rfl⟩,trivial⟩ rfl rfl rfl ?_
     rintro x T1 ⟨g8,rfl,rfl⟩
     refine ⟨rfl,hpD n m c gf gb ([some (.vec (bump 2) 11 ((bareL c.flight).map opV ++ (bareL c.buffer).map opV)),some (.vec g7 11 ((bareL c.buffer).map opV))] ++ [some (.vec g8 11 ((bareL c.buffer).map opV))]),.osl (.loc 8) g8 0 ((bareL c.buffer).map opV).length,rfl,rfl,?_⟩
     show CallThen _ _ _ _ _ _
     refine call_lendT 11 (same22 k2.buffer (by omega)) ⟨.row 8 g8 _ rfl (apart_opsL ⟨rfl,rfl⟩ _),.row 7 g7 _ rfl (apart_opsL ⟨rfl,rfl⟩ _),trivial⟩ rfl (by rintro _ rfl;rfl) ?_
     rintro z rfl
     refine ⟨fun q => absurd q (by decide),fun _ => go 60 ?_⟩
     refine ⟨by constructor <;> omega,?_⟩
     show Goes _ _ _ _
     exact nextT (t + 1) _ _ ⟨by omega,by omega,⟨⟨rfl,rfl⟩,⟨rfl,rfl⟩,⟨rfl,rfl⟩,⟨rfl,rfl⟩,⟨rfl,rfl⟩,trivial⟩,⟨⟨rfl,rfl⟩,⟨rfl,rfl⟩,trivial⟩⟩
   ·show Goes { P:=Tryz.prog,nt:=Tryz.f5.ntmps,fn:=5,ro:=none,imps:=[],X:=XR Tryz.prog [] Tryz.f5.results B fun x T => frz x T False fun x' _ => x'.pureB = true ∧ ∃ y,Wk x' y ∧ y.pureB = true ∧ y = V.bool true,B:=B,D:=[] } _ _ _
    refine go 60 ?_
    refine ⟨fun qt => go 60 ?_,fun qt => go 60 ?_⟩
    ·rcases hright with hr | hr
     ·show Goes _ _ _ _
      refine goes_drawX [(2,false),(6,false)] 60 ?_
      refine ⟨[3,4,5],.int .i64 c.seen,_,fun gs hg => fact_sub3 (a0:=bxD c gf gb) (a1:=vfD c gf) (a2:=vbD c gb) (b0:=bxD c gf gb) (b1:=vfD c gf) (b2:=vbD c gb) 3 4 5 hg rfl rfl rfl rfl rfl rfl rfl rfl rfl (w_cSeen c gf gb) rfl rfl (fun _ => rfl),trivial,?_⟩
      refine ⟨by constructor <;> omega,?_⟩
      refine ⟨[3,4,5],.tup [opsV (bareL (c.pending tk)),.int .i64 0],_,fun gs hg => fact_sub3 (a0:=bxD c gf gb) (a1:=vfD c gf) (a2:=vbD c gb) (b0:=bxD (c.resync (c.seen + 3) 7 m).dropped (bump (bump gf)) (bump gb)) (b1:=vfD (c.resync (c.seen + 3) 7 m).dropped (bump (bump gf))) (b2:=vbD (c.resync (c.seen + 3) 7 m).dropped (bump gb)) 3 4 5 hg rfl rfl rfl rfl rfl rfl rfl rfl rfl (w_cResyncP c gf gb (c.seen + 3) 7 tk m (may22 (by omega) hr) (by omega) (by omega) (okL_S k2.flight) (okL_S k2.buffer)) rfl rfl (fun _ => rfl),trivial,?_⟩
      refine ⟨by kernel_rfl,?_⟩
      show CallThen _ _ _ _ _ _
      refine call_pure (w_refRightT m (by omega)) rfl ?_
      rintro z rfl
      refine ⟨fun q => absurd q (by rw [hr];decide),fun _ => ?_⟩
      show Goes { P:=Tryz.prog,nt:=Tryz.f5.ntmps,fn:=5,ro:=none,imps:=[],X:=XR Tryz.prog [] Tryz.f5.results B fun x T => frz x T False fun x' _ => x'.pureB = true ∧ ∃ y,Wk x' y ∧ y.pureB = true ∧ y = V.bool true,B:=B,D:=[] } _ _ _
      refine go 60 ?_
      show CallThen _ _ _ _ _ _
      refine call_subE [3,4,5] (w_cFlight (c.resync (c.seen + 3) 7 m).dropped (bump (bump gf)) (bump gb) (Nat.zero_le _) (okL_S okL_nil)) rfl rfl ⟨⟨rfl,rfl⟩,⟨rfl,rfl⟩,⟨rfl,rfl⟩,trivial⟩ rfl rfl rfl ?_
      rintro x T1 ⟨rfl,rfl⟩
      refine ⟨rfl,hpD n m (c.resync (c.seen + 3) 7 m).dropped (bump (bump gf)) (bump gb) ([some (.vec (bump 2) 11 ((bareL c.flight).map opV ++ (bareL c.buffer).map opV)),some (.vec g7 11 ((bareL c.buffer).map opV))] ++ [some (.vec 2 11 [])]),.tup [.osl (.loc 8) 2 0 0,.bool false],rfl,rfl,?_⟩
      show Goes _ _ _ _
      refine goes_drawX [(5,false),(13,false),(19,false),(21,false),(30,false)] 60 ?_
      refine ⟨fun q => absurd q (by decide),fun _ => ?_⟩
      refine ⟨[7],.bool true,[],fun gs hg => fact_lend 11 [7] hg rfl rfl rfl (same22' (hpT qt) k2.buffer (by omega)) (fun T' hT => ⟨.wk rfl (.refl _) (apart_ops ⟨rfl,rfl⟩ rfl _),.row 7 g7 _ ((hT 7 (by simp)).trans rfl) (apart_opsL ⟨rfl,rfl⟩ _),trivial⟩) rfl rfl,trivial,?_⟩
      refine ⟨fun q => absurd q (by decide),fun _ => ?_⟩
      refine ⟨fun q => absurd q (by decide),fun _ => ?_⟩
      refine ⟨[3,4,5],.sl 11 [],_,fun gs hg => fact_sub3 (a0:=bxD (c.resync (c.seen + 3) 7 m).dropped (bump (bump gf)) (bump gb)) (a1:=vfD (c.resync (c.seen + 3) 7 m).dropped (bump (bump gf))) (a2:=vbD (c.resync (c.seen + 3) 7 m).dropped (bump gb)) (b0:=bxD (c.resync (c.seen + 3) 7 m).dropped (bump (bump gf)) (bump gb)) (b1:=vfD (c.resync (c.seen + 3) 7 m).dropped (bump (bump gf))) (b2:=vbD (c.resync (c.seen + 3) 7 m).dropped (bump gb)) 3 4 5 hg rfl rfl rfl rfl rfl rfl rfl rfl rfl (w_cBufferP (c.resync (c.seen + 3) 7 m).dropped (bump (bump gf)) (bump gb) (Nat.zero_le _) (okL_S okL_nil)) rfl rfl (fun _ => rfl),trivial,?_⟩
      refine ⟨fun q => absurd q (by decide),fun _ => ?_⟩
      refine ⟨[3,4,5],nodeV m,_,fun gs hg => fact_sub3 (a0:=bxD (c.resync (c.seen + 3) 7 m).dropped (bump (bump gf)) (bump gb)) (a1:=vfD (c.resync (c.seen + 3) 7 m).dropped (bump (bump gf))) (a2:=vbD (c.resync (c.seen + 3) 7 m).dropped (bump gb)) (b0:=bxD (c.resync (c.seen + 3) 7 m).dropped (bump (bump gf)) (bump gb)) (b1:=vfD (c.resync (c.seen + 3) 7 m).dropped (bump (bump gf))) (b2:=vbD (c.resync (c.seen + 3) 7 m).dropped (bump gb)) 3 4 5 hg rfl rfl rfl rfl rfl rfl rfl rfl rfl (w_cTree (c.resync (c.seen + 3) 7 m).dropped (bump (bump gf)) (bump gb) (by show m.weight ≤ 1000000;omega)) rfl rfl (fun _ => rfl),trivial,?_⟩
      refine ⟨[3,4,5],nodeV m,_,fun gs hg => fact_sub3 (a0:=bxD (c.resync (c.seen + 3) 7 m).dropped (bump (bump gf)) (bump gb)) (a1:=vfD (c.resync (c.seen + 3) 7 m).dropped (bump (bump gf))) (a2:=vbD (c.resync (c.seen + 3) 7 m).dropped (bump gb)) (b0:=bxD (c.resync (c.seen + 3) 7 m).dropped (bump (bump gf)) (bump gb)) (b1:=vfD (c.resync (c.seen + 3) 7 m).dropped (bump (bump gf))) (b2:=vbD (c.resync (c.seen + 3) 7 m).dropped (bump gb)) 3 4 5 hg rfl rfl rfl rfl rfl rfl rfl rfl rfl (w_cBase (c.resync (c.seen + 3) 7 m).dropped (bump (bump gf)) (bump gb) (by show m.weight ≤ 1000000;omega)) rfl rfl (fun _ => rfl),trivial,?_⟩
      refine ⟨_,sameT22 (t:=m) (by omega),rfl,?_⟩
      refine ⟨fun q => absurd q (by decide),fun _ => ?_⟩
      refine ⟨fun _ => ?_,fun q => absurd (of_decide_eq_false q) (by have:=of_decide_eq_false q0;omega)⟩
      refine ⟨[3,4,5],nodeV m,_,fun gs hg => fact_sub3 (a0:=bxD (c.resync (c.seen + 3) 7 m).dropped (bump (bump gf)) (bump gb)) (a1:=vfD (c.resync (c.seen + 3) 7 m).dropped (bump (bump gf))) (a2:=vbD (c.resync (c.seen + 3) 7 m).dropped (bump gb)) (b0:=bxD (c.resync (c.seen + 3) 7 m).dropped (bump (bump gf)) (bump gb)) (b1:=vfD (c.resync (c.seen + 3) 7 m).dropped (bump (bump gf))) (b2:=vbD (c.resync (c.seen + 3) 7 m).dropped (bump gb)) 3 4 5 hg rfl rfl rfl rfl rfl rfl rfl rfl rfl (w_cBase (c.resync (c.seen + 3) 7 m).dropped (bump (bump gf)) (bump gb) (by show m.weight ≤ 1000000;omega)) rfl rfl (fun _ => rfl),trivial,?_⟩
      refine ⟨_,sameT22 (t:=m) (by omega),rfl,?_⟩
      refine ⟨by kernel_rfl,?_⟩
      refine ⟨fun q => absurd q (by decide),fun _ => go 60 ?_⟩
      refine ⟨by constructor <;> omega,?_⟩
      show Goes _ _ _ _
      exact nextT (t + 1) _ _ ⟨by omega,by omega,⟨⟨rfl,rfl⟩,⟨rfl,rfl⟩,⟨rfl,rfl⟩,⟨rfl,rfl⟩,⟨rfl,rfl⟩,trivial⟩,⟨⟨rfl,rfl⟩,⟨rfl,rfl⟩,trivial⟩⟩
     ·show Goes _ _ _ _
      refine goes_drawX [(2,false),(6,false)] 60 ?_
      refine ⟨[3,4,5],.int .i64 c.seen,_,fun gs hg => fact_sub3 (a0:=bxD c gf gb) (a1:=vfD c gf) (a2:=vbD c gb) (b0:=bxD c gf gb) (b1:=vfD c gf) (b2:=vbD c gb) 3 4 5 hg rfl rfl rfl rfl rfl rfl rfl rfl rfl (w_cSeen c gf gb) rfl rfl (fun _ => rfl),trivial,?_⟩
      refine ⟨by constructor <;> omega,?_⟩
      refine ⟨[3,4,5],.tup [.nilsl,.int .i64 60],_,fun gs hg => fact_sub3 (a0:=bxD c gf gb) (a1:=vfD c gf) (a2:=vbD c gb) (b0:=bxD c gf gb) (b1:=vfD c gf) (b2:=vbD c gb) 3 4 5 hg rfl rfl rfl rfl rfl rfl rfl rfl rfl (hbad hr tk) rfl rfl (fun _ => rfl),trivial,?_⟩
      refine ⟨by kernel_rfl,?_⟩
      show CallThen _ _ _ _ _ _
      refine call_pure (w_refRightT m (by omega)) rfl ?_
      rintro z rfl
      refine ⟨fun _ => go 60 ?_,fun q => absurd q (by rw [hr];decide)⟩
      refine ⟨fun q => absurd q (by decide),fun _ => go 60 ?_⟩
      show CallThen _ _ _ _ _ _
      refine call_subE [3,4,5] (w_cBuffer c gf gb (by omega) (okL_S k2.buffer)) rfl rfl ⟨⟨rfl,rfl⟩,⟨rfl,rfl⟩,⟨rfl,rfl⟩,trivial⟩ rfl rfl rfl ?_
      rintro x T1 ⟨g8,rfl,rfl⟩
      refine ⟨rfl,hpD n m c gf gb ([some (.vec (bump 2) 11 ((bareL c.flight).map opV ++ (bareL c.buffer).map opV)),some (.vec g7 11 ((bareL c.buffer).map opV))] ++ [some (.vec g8 11 ((bareL c.buffer).map opV))]),.osl (.loc 8) g8 0 ((bareL c.buffer).map opV).length,rfl,rfl,?_⟩
      show CallThen _ _ _ _ _ _
      refine call_lendT 11 (same22 k2.buffer (by omega)) ⟨.row 8 g8 _ rfl (apart_opsL ⟨rfl,rfl⟩ _),.row 7 g7 _ rfl (apart_opsL ⟨rfl,rfl⟩ _),trivial⟩ rfl (by rintro _ rfl;rfl) ?_
      rintro z rfl
      refine ⟨fun q => absurd q (by decide),fun _ => go 60 ?_⟩
      refine ⟨by constructor <;> omega,?_⟩
      show Goes _ _ _ _
      exact nextT (t + 1) _ _ ⟨by omega,by omega,⟨⟨rfl,rfl⟩,⟨rfl,rfl⟩,⟨rfl,rfl⟩,⟨rfl,rfl⟩,⟨rfl,rfl⟩,trivial⟩,⟨⟨rfl,rfl⟩,⟨rfl,rfl⟩,trivial⟩⟩
    ·rcases hright with hr | hr
     ·show Goes _ _ _ _
      refine goes_drawX [(2,false),(6,false)] 60 ?_
      refine ⟨[3,4,5],.int .i64 c.seen,_,fun gs hg => fact_sub3 (a0:=bxD c gf gb) (a1:=vfD c gf) (a2:=vbD c gb) (b0:=bxD c gf gb) (b1:=vfD c gf) (b2:=vbD c gb) 3 4 5 hg rfl rfl rfl rfl rfl rfl rfl rfl rfl (w_cSeen c gf gb) rfl rfl (fun _ => rfl),trivial,?_⟩
      refine ⟨by constructor <;> omega,?_⟩
      refine ⟨[3,4,5],.tup [opsV (bareL (c.pending tk)),.int .i64 0],_,fun gs hg => fact_sub3 (a0:=bxD c gf gb) (a1:=vfD c gf) (a2:=vbD c gb) (b0:=bxD (c.resync (c.seen + 3) 7 m).dropped (bump (bump gf)) (bump gb)) (b1:=vfD (c.resync (c.seen + 3) 7 m).dropped (bump (bump gf))) (b2:=vbD (c.resync (c.seen + 3) 7 m).dropped (bump gb)) 3 4 5 hg rfl rfl rfl rfl rfl rfl rfl rfl rfl (w_cResyncP c gf gb (c.seen + 3) 7 tk m (may22 (by omega) hr) (by omega) (by omega) (okL_S k2.flight) (okL_S k2.buffer)) rfl rfl (fun _ => rfl),trivial,?_⟩
      refine ⟨by kernel_rfl,?_⟩
      show CallThen _ _ _ _ _ _
      refine call_pure (w_refRightT m (by omega)) rfl ?_
      rintro z rfl
      refine ⟨fun q => absurd q (by rw [hr];decide),fun _ => ?_⟩
      show Goes { P:=Tryz.prog,nt:=Tryz.f5.ntmps,fn:=5,ro:=none,imps:=[],X:=XR Tryz.prog [] Tryz.f5.results B fun x T => frz x T False fun x' _ => x'.pureB = true ∧ ∃ y,Wk x' y ∧ y.pureB = true ∧ y = V.bool true,B:=B,D:=[] } _ _ _
      refine go 60 ?_
      show CallThen _ _ _ _ _ _
      refine call_subE [3,4,5] (w_cFlight (c.resync (c.seen + 3) 7 m).dropped (bump (bump gf)) (bump gb) (Nat.zero_le _) (okL_S okL_nil)) rfl rfl ⟨⟨rfl,rfl⟩,⟨rfl,rfl⟩,⟨rfl,rfl⟩,trivial⟩ rfl rfl rfl ?_
      rintro x T1 ⟨rfl,rfl⟩
      refine ⟨rfl,hpD n m (c.resync (c.seen + 3) 7 m).dropped (bump (bump gf)) (bump gb) ([some (.vec (bump 2) 11 ((bareL c.flight).map opV ++ (bareL c.buffer).map opV)),some (.vec g7 11 ((bareL c.buffer).map opV))] ++ [some (.vec 2 11 [])]),.tup [.osl (.loc 8) 2 0 0,.bool false],rfl,rfl,?_⟩
      show Goes _ _ _ _
      refine goes_drawX [(5,false),(13,false),(19,false),(21,false),(30,false)] 60 ?_
      refine ⟨fun q => absurd q (by decide),fun _ => ?_⟩
      refine ⟨[6],.bool true,[],fun gs hg => fact_lend 11 [6] hg rfl rfl rfl (same22' (hpF qt) (okL_app k2.flight k2.buffer) (by rw [List.length_append];omega)) (fun T' hT => ⟨.wk rfl (.refl _) (apart_ops ⟨rfl,rfl⟩ rfl _),.cut ((hT 6 (by simp)).trans rfl) (by simp) (by rw [happ];exact apart_opsL ⟨rfl,rfl⟩ _) (by rw [List.drop_zero,happ,List.take_of_length_le (by simp [bareL])]),trivial⟩) rfl rfl,trivial,?_⟩
      refine ⟨fun q => absurd q (by decide),fun _ => ?_⟩
      refine ⟨fun q => absurd q (by decide),fun _ => ?_⟩
      refine ⟨[3,4,5],.sl 11 [],_,fun gs hg => fact_sub3 (a0:=bxD (c.resync (c.seen + 3) 7 m).dropped (bump (bump gf)) (bump gb)) (a1:=vfD (c.resync (c.seen + 3) 7 m).dropped (bump (bump gf))) (a2:=vbD (c.resync (c.seen + 3) 7 m).dropped (bump gb)) (b0:=bxD (c.resync (c.seen + 3) 7 m).dropped (bump (bump gf)) (bump gb)) (b1:=vfD (c.resync (c.seen + 3) 7 m).dropped (bump (bump gf))) (b2:=vbD (c.resync (c.seen + 3) 7 m).dropped (bump gb)) 3 4 5 hg rfl rfl rfl rfl rfl rfl rfl rfl rfl (w_cBufferP (c.resync (c.seen + 3) 7 m).dropped (bump (bump gf)) (bump gb) (Nat.zero_le _) (okL_S okL_nil)) rfl rfl (fun _ => rfl),trivial,?_⟩
      refine ⟨fun q => absurd q (by decide),fun _ => ?_⟩
      refine ⟨[3,4,5],nodeV m,_,fun gs hg => fact_sub3 (a0:=bxD (c.resync (c.seen + 3) 7 m).dropped (bump (bump gf)) (bump gb)) (a1:=vfD (c.resync (c.seen + 3) 7 m).dropped (bump (bump gf))) (a2:=vbD (c.resync (c.seen + 3) 7 m).dropped (bump gb)) (b0:=bxD (c.resync (c.seen + 3) 7 m).dropped (bump (bump gf)) (bump gb)) (b1:=vfD (c.resync (c.seen + 3) 7 m).dropped (bump (bump gf))) (b2:=vbD (c.resync (c.seen + 3) 7 m).dropped (bump gb)) 3 4 5 hg rfl rfl rfl rfl rfl rfl rfl rfl rfl (w_cTree (c.resync (c.seen + 3) 7 m).dropped (bump (bump gf)) (bump gb) (by show m.weight ≤ 1000000;omega)) rfl rfl (fun _ => rfl),trivial,?_⟩
      refine ⟨[3,4,5],nodeV m,_,fun gs hg => fact_sub3 (a0:=bxD (c.resync (c.seen + 3) 7 m).dropped (bump (bump gf)) (bump gb)) (a1:=vfD (c.resync (c.seen + 3) 7 m).dropped (bump (bump gf))) (a2:=vbD (c.resync (c.seen + 3) 7 m).dropped (bump gb)) (b0:=bxD (c.resync (c.seen + 3) 7 m).dropped (bump (bump gf)) (bump gb)) (b1:=vfD (c.resync (c.seen + 3) 7 m).dropped (bump (bump gf))) (b2:=vbD (c.resync (c.seen + 3) 7 m).dropped (bump gb)) 3 4 5 hg rfl rfl rfl rfl rfl rfl rfl rfl rfl (w_cBase (c.resync (c.seen + 3) 7 m).dropped (bump (bump gf)) (bump gb) (by show m.weight ≤ 1000000;omega)) rfl rfl (fun _ => rfl),trivial,?_⟩
      refine ⟨_,sameT22 (t:=m) (by omega),rfl,?_⟩
      refine ⟨fun q => absurd q (by decide),fun _ => ?_⟩
      refine ⟨fun _ => ?_,fun q => absurd (of_decide_eq_false q) (by have:=of_decide_eq_false q0;omega)⟩
      refine ⟨[3,4,5],nodeV m,_,fun gs hg => fact_sub3 (a0:=bxD (c.resync (c.seen + 3) 7 m).dropped (bump (bump gf)) (bump gb)) (a1:=vfD (c.resync (c.seen + 3) 7 m).dropped (bump (bump gf))) (a2:=vbD (c.resync (c.seen + 3) 7 m).dropped (bump gb)) (b0:=bxD (c.resync (c.seen + 3) 7 m).dropped (bump (bump gf)) (bump gb)) (b1:=vfD (c.resync (c.seen + 3) 7 m).dropped (bump (bump gf))) (b2:=vbD (c.resync (c.seen + 3) 7 m).dropped (bump gb)) 3 4 5 hg rfl rfl rfl rfl rfl rfl rfl rfl rfl (w_cBase (c.resync (c.seen + 3) 7 m).dropped (bump (bump gf)) (bump gb) (by show m.weight ≤ 1000000;omega)) rfl rfl (fun _ => rfl),trivial,?_⟩
      refine ⟨_,sameT22 (t:=m) (by omega),rfl,?_⟩
      refine ⟨by kernel_rfl,?_⟩
      refine ⟨fun q => absurd q (by decide),fun _ => go 60 ?_⟩
      refine ⟨by constructor <;> omega,?_⟩
      show Goes _ _ _ _
      exact nextT (t + 1) _ _ ⟨by omega,by omega,⟨⟨rfl,rfl⟩,⟨rfl,rfl⟩,⟨rfl,rfl⟩,⟨rfl,rfl⟩,⟨rfl,rfl⟩,trivial⟩,⟨⟨rfl,rfl⟩,⟨rfl,rfl⟩,trivial⟩⟩
     ·show Goes _ _ _ _
      refine goes_drawX [(2,false),(6,false)] 60 ?_
      refine ⟨[3,4,5],.int .i64 c.seen,_,fun gs hg => fact_sub3 (a0:=bxD c gf gb) (a1:=vfD c gf) (a2:=vbD c gb) (b0:=bxD c gf gb) (b1:=vfD c gf) (b2:=vbD c gb) 3 4 5 hg rfl rfl rfl rfl rfl rfl rfl rfl rfl (w_cSeen c gf gb) rfl rfl (fun _ => rfl),trivial,?_⟩
      refine ⟨by constructor <;> omega,?_⟩
      refine ⟨[3,4,5],.tup [.nilsl,.int .i64 60],_,fun gs hg => fact_sub3 (a0:=bxD c gf gb) (a1:=vfD c gf) (a2:=vbD c gb) (b0:=bxD c gf gb) (b1:=vfD c gf) (b2:=vbD c gb) 3 4 5 hg rfl rfl rfl rfl rfl rfl rfl rfl rfl (hbad hr tk) rfl rfl (fun _ => rfl),trivial,?_⟩
      refine ⟨by kernel_rfl,?_⟩
      show CallThen _ _ _ _ _ _
      refine call_pure (w_refRightT m (by omega)) rfl ?_
      rintro z rfl
      refine ⟨fun _ => go 60 ?_,fun q => absurd q (by rw [hr];decide)⟩
      refine ⟨fun q => absurd q (by decide),fun _ => go 60 ?_⟩
      show CallThen _ _ _ _ _ _
      refine call_subE [3,4,5] (w_cBuffer c gf gb (by omega) (okL_S k2.buffer)) rfl rfl ⟨⟨rfl,rfl⟩,⟨rfl,rfl⟩,⟨rfl,rfl⟩,trivial⟩ rfl rfl rfl ?_
      rintro x T1 ⟨g8,rfl,rfl⟩
      refine ⟨rfl,hpD n m c gf gb ([some (.vec (bump 2) 11 ((bareL c.flight).map opV ++ (bareL c.buffer).map opV)),some (.vec g7 11 ((bareL c.buffer).map opV))] ++ [some (.vec g8 11 ((bareL c.buffer).map opV))]),.osl (.loc 8) g8 0 ((bareL c.buffer).map opV).length,rfl,rfl,?_⟩
      show CallThen _ _ _ _ _ _
      refine call_lendT 11 (same22 k2.buffer (by omega)) ⟨.row 8 g8 _ rfl (apart_opsL ⟨rfl,rfl⟩ _),.row 7 g7 _ rfl (apart_opsL ⟨rfl,rfl⟩ _),trivial⟩ rfl (by rintro _ rfl;rfl) ?_
      rintro z rfl
      refine ⟨fun q => absurd q (by decide),fun _ => go 60 ?_⟩
      refine ⟨by constructor <;> omega,?_⟩
      show Goes _ _ _ _
      exact nextT (t + 1) _ _ ⟨by omega,by omega,⟨⟨rfl,rfl⟩,⟨rfl,rfl⟩,⟨rfl,rfl⟩,⟨rfl,rfl⟩,⟨rfl,rfl⟩,trivial⟩,⟨⟨rfl,rfl⟩,⟨rfl,rfl⟩,trivial⟩⟩
  ·show CallThen _ _ _ _ _ _
   refine call_pure hw rfl ?_
   rintro z rfl
   exact ⟨trivial,rfl,rfl,rfl,leaf_b rfl⟩
 ·show Goes { P:=Tryz.prog,nt:=Tryz.f5.ntmps,fn:=5,ro:=none,imps:=[],X:=XR Tryz.prog [] Tryz.f5.results B fun x T => frz x T False fun x' _ => x'.pureB = true ∧ ∃ y,Wk x' y ∧ y.pureB = true ∧ y = V.bool true,B:=B,D:=[] } _ _ _
  refine goes_loop (go 60 ?_)
  refine ⟨fun _ => go 60 ?_,fun q => absurd q (by decide)⟩
  show CallThen _ _ _ _ _ _
  refine call_subE [] (w_cNew_bad 0 0 n hy (by omega)) rfl rfl trivial rfl rfl rfl ?_
  rintro x T1 ⟨rfl,rfl⟩
  refine ⟨rfl,[some (.box (nodeV n).cells),some (.box (nodeV m).cells)],_,rfl,rfl,?_⟩
  refine ⟨fun _ => go 60 ?_,fun q => absurd (eq_of' q) hy⟩
  show Goes _ _ _ _
  refine goes_nileqP 60 rfl rfl rfl rfl rfl ?_
  show CallThen _ _ _ _ _ _
  refine call_pure hw rfl ?_
  rintro z rfl
  exact ⟨trivial,rfl,rfl,rfl,leaf_b rfl⟩
end Bow
/- TD1: what is read as data at the program's types. -/
namespace Bow
open Go Go.Proofs
theorem take1 {vs : List V} {c : V} (h : vs.take 1 = [c]) : ∃ r,vs = c :: r ∧ vs.drop 1 = r:=by
 cases vs with
 | nil => simp at h
 | cons x r => simp at h;subst h;exact ⟨r,rfl,rfl⟩
theorem map_exists {α β : Type} {f : α → V} {g : β → V} : ∀ {xs : List α},(∀ x ∈ xs,∃ y,f x = g y) → ∃ ys : List β,xs.map f = ys.map g
 | [],_ => ⟨[],rfl⟩
 | x :: xs,h => by
  obtain ⟨y,hy⟩:=h x List.mem_cons_self
  obtain ⟨ys,hys⟩:=map_exists (xs:=xs) fun z hz => h z (List.mem_cons_of_mem _ hz)
  exact ⟨y :: ys,by simp [hy,hys]⟩
theorem vt_str {n : Nat} {vs : List V} (h : VT Tryz.prog n 9 vs) : ∃ s,vs = [.str s]:=by
 cases n with
 | zero => exact h.elim
 | succ n =>
  obtain ⟨s,e,_⟩ : ∃ s : List UInt8,vs = [.str s] ∧ s.length ≤ maxLen:=h
  exact ⟨s,e⟩
theorem vt_bool {n : Nat} {vs : List V} (h : VT Tryz.prog n 4 vs) : ∃ b,vs = [.bool b]:=by
 cases n with
 | zero => exact h.elim
 | succ n => exact h
theorem vt_int {n : Nat} {vs : List V} (h : VT Tryz.prog n 3 vs) : ∃ i,vs = [.int .i64 i] ∧ (Lit.int .i64 i).wf = true:=by
 cases n with
 | zero => exact h.elim
 | succ n => exact h
theorem vt_u64 {n : Nat} {vs : List V} (h : VT Tryz.prog n 22 vs) : ∃ i,vs = [.int .u64 i]:=by
 cases n with
 | zero => exact h.elim
 | succ n =>
  obtain ⟨s,e,_⟩ : ∃ s : Int,vs = [.int .u64 s] ∧ (Lit.int .u64 s).wf = true:=h
  exact ⟨s,e⟩
theorem vt_u8 {n : Nat} {vs : List V} (h : VT Tryz.prog n 5 vs) : ∃ i,vs = [.int .u8 i]:=by
 cases n with
 | zero => exact h.elim
 | succ n =>
  obtain ⟨s,e,_⟩ : ∃ s : Int,vs = [.int .u8 s] ∧ (Lit.int .u8 s).wf = true:=h
  exact ⟨s,e⟩
set_option maxRecDepth 100000 in
theorem vt_attr {n : Nat} {vs : List V} (h : VT Tryz.prog n 93 vs) : ∃ a,vs = (attrV a).cells:=by
 cases n with
 | zero => exact h.elim
 | succ n =>
  obtain ⟨h0,h1,h2⟩ : VT Tryz.prog n 9 (vs.take 1) ∧ VT Tryz.prog n 9 ((vs.drop 1).take 1) ∧ (vs.drop 1).drop 1 = []:=h
  obtain ⟨a,e0⟩:=vt_str h0
  obtain ⟨b,e1⟩:=vt_str h1
  obtain ⟨r,rfl,d0⟩:=take1 e0
  rw [d0] at e1 h2
  obtain ⟨r1,rfl,d1⟩:=take1 e1
  rw [d1] at h2
  subst h2
  exact ⟨(a,b),rfl⟩
set_option maxRecDepth 100000 in
theorem vt_attrs {n : Nat} {vs : List V} (h : VT Tryz.prog n 23 vs) : ∃ l : List (List UInt8 × List UInt8),vs = [.sl 2 (l.map attrV)]:=by
 cases n with
 | zero => exact h.elim
 | succ n =>
  obtain ⟨xs,e,_,hx⟩ : ∃ xs : List (List V),vs = [.sl 2 (xs.map (mkX Tryz.prog 93))] ∧ xs.length ≤ maxLen ∧ ∀ x ∈ xs,VT Tryz.prog n 93 x:=h
  obtain ⟨l,hl⟩:=map_exists (f:=mkX Tryz.prog 93) (g:=attrV) (xs:=xs) fun x hm => by
   obtain ⟨a,rfl⟩:=vt_attr (hx x hm)
   exact ⟨a,rfl⟩
  exact ⟨l,by rw [e,hl]⟩
set_option maxRecDepth 100000 in
theorem vt_node : ∀ (n : Nat) (vs : List V),VT Tryz.prog n 26 vs → ∃ t : Tree,vs = (nodeV t).cells:=by
 intro n
 induction n using Nat.strongRecOn with
 | _ n ih =>
  intro vs h
  cases n with
  | zero => exact h.elim
  | succ n =>
   obtain ⟨h0,h1,h2,h3,h4,h5,h6⟩ : VT Tryz.prog n 22 (vs.take 1) ∧ VT Tryz.prog n 4 ((vs.drop 1).take 1) ∧ VT Tryz.prog n 9 (((vs.drop 1).drop 1).take 1) ∧ VT Tryz.prog n 23 ((((vs.drop 1).drop 1).drop 1).take 1) ∧
    VT Tryz.prog n 9 (((((vs.drop 1).drop 1).drop 1).drop 1).take 1) ∧ VT Tryz.prog n 24 ((((((vs.drop 1).drop 1).drop 1).drop 1).drop 1).take 1) ∧ (((((vs.drop 1).drop 1).drop 1).drop 1).drop 1).drop 1 = []:=h
   obtain ⟨i,e0⟩:=vt_u64 h0
   obtain ⟨l,e1⟩:=vt_bool h1
   obtain ⟨s,e2⟩:=vt_str h2
   obtain ⟨a,e3⟩:=vt_attrs h3
   obtain ⟨x,e4⟩:=vt_str h4
   obtain ⟨r,rfl,d0⟩:=take1 e0
   rw [d0] at e1 e2 e3 e4 h5 h6
   obtain ⟨r,rfl,d0⟩:=take1 e1
   rw [d0] at e2 e3 e4 h5 h6
   obtain ⟨r,rfl,d0⟩:=take1 e2
   rw [d0] at e3 e4 h5 h6
   obtain ⟨r,rfl,d0⟩:=take1 e3
   rw [d0] at e4 h5 h6
   obtain ⟨r,rfl,d0⟩:=take1 e4
   rw [d0] at h5 h6
   cases n with
   | zero => exact h5.elim
   | succ n =>
    obtain ⟨xs,e5,_,hx⟩ : ∃ xs : List (List V),r.take 1 = [.sl 6 (xs.map (mkX Tryz.prog 26))] ∧ xs.length ≤ maxLen ∧ ∀ x ∈ xs,VT Tryz.prog n 26 x:=h5
    obtain ⟨ts,hts⟩:=map_exists (f:=mkX Tryz.prog 26) (g:=nodeV) (xs:=xs) fun x hm => by
     obtain ⟨t,rfl⟩:=ih n (by omega) x (hx x hm)
     exact ⟨t,rfl⟩
    obtain ⟨r,rfl,d0⟩:=take1 e5
    rw [d0] at h6
    subst h6
    refine ⟨.mk i l s a x ts,?_⟩
    rw [hts]
    simp only [nodeV,Tree.id,Tree.leaf,Tree.label,Tree.attrs,Tree.text,subV_eq,Tree.subs,V.cells]
theorem rep_of_cells {w : World} {vs : List V} {cs : Array Value} (h : RowRep w β0 [] vs cs.toList) : Rep w β0 [] (.agg vs) (.agg cs) :=
 .agg vs cs (by simpa using h.1) fun j c v hj hv => h.2 j c v hj (by simpa using hv)
set_option maxRecDepth 100000 in
theorem node_arg {H : Type} {enc : TypeId × Value → H} {w : World} {r : Reach} {base b0 : Nat} {sp : Nat → Bool} {held : Bool} {v : Value} {d : DataW H} {p : List MemPlace} (ho : Value.okWide Tryz.prog w r b0 26 v) (h : DataW.Trod enc Tryz.prog w base sp held 26 v d p) :
  ∃ t : Tree,Rep w β0 [] (nodeV t) v:=by
 obtain ⟨fuel,hf⟩:=h
 obtain ⟨cs,rfl,_,_⟩ : ∃ cs,v = .agg cs ∧ cs.size = Tryz.prog.cellsOf 26 ∧ Row.okWide Tryz.prog w r b0 26 cs:=ho
 obtain ⟨vs,h1,_,h3⟩:=read_data (G:=[26,24,23,93,9,22,4]) (by kernel_rfl) fuel _ _ _ (by kernel_rfl) hf
 obtain ⟨t,rfl⟩:=vt_node _ _ h3
 exact ⟨t,rep_of_cells h1⟩
end Bow
/- TD2: operations that are read as data. -/
namespace Bow
open Go Go.Proofs
set_option maxRecDepth 100000 in
theorem vt_path {n : Nat} {vs : List V} (h : VT Tryz.prog n 86 vs) : ∃ l : List Int,vs = [pathV l] ∧ l.length ≤ maxLen ∧ ∀ i ∈ l,(Lit.int .i64 i).wf = true:=by
 cases n with
 | zero => exact h.elim
 | succ n =>
  obtain ⟨xs,e,hl,hx⟩ : ∃ xs : List (List V),vs = [.sl 1 (xs.map (mkX Tryz.prog 3))] ∧ xs.length ≤ maxLen ∧ ∀ x ∈ xs,VT Tryz.prog n 3 x:=h
  have key : ∀ xs : List (List V),(∀ x ∈ xs,VT Tryz.prog n 3 x) → ∃ l : List Int,xs.map (mkX Tryz.prog 3) = l.map intV ∧ ∀ i ∈ l,(Lit.int .i64 i).wf = true:=by
   intro xs
   induction xs with
   | nil => intro _;exact ⟨[],rfl,by simp⟩
   | cons x xs ih =>
    intro hx
    obtain ⟨i,rfl,hw⟩:=vt_int (hx x List.mem_cons_self)
    obtain ⟨l,e,hl⟩:=ih fun z hz => hx z (List.mem_cons_of_mem _ hz)
    refine ⟨i :: l,by simp only [List.map_cons,e];rfl,fun j hj => ?_⟩
    rcases List.mem_cons.1 hj with rfl | hj
    ·exact hw
    ·exact hl j hj
  obtain ⟨l,e1,e2⟩:=key xs hx
  refine ⟨l,by rw [e,e1];rfl,?_,e2⟩
  have:=congrArg List.length e1
  simp at this
  omega
set_option maxRecDepth 100000 in
theorem vt_piece {n : Nat} {vs : List V} (h : VT Tryz.prog n 91 vs) : ∃ p,vs = (pieceV p).cells:=by
 cases n with
 | zero => exact h.elim
 | succ n =>
  obtain ⟨h0,h1,h2,h3⟩ : VT Tryz.prog n 3 (vs.take 1) ∧ VT Tryz.prog n 3 ((vs.drop 1).take 1) ∧ VT Tryz.prog n 9 (((vs.drop 1).drop 1).take 1) ∧ ((vs.drop 1).drop 1).drop 1 = []:=h
  obtain ⟨a,e0,_⟩:=vt_int h0
  obtain ⟨b,e1,_⟩:=vt_int h1
  obtain ⟨s,e2⟩:=vt_str h2
  obtain ⟨r,rfl,d0⟩:=take1 e0
  rw [d0] at e1 e2 h3
  obtain ⟨r1,rfl,d1⟩:=take1 e1
  rw [d1] at e2 h3
  obtain ⟨r2,rfl,d2⟩:=take1 e2
  rw [d2] at h3
  subst h3
  exact ⟨⟨a,b,s⟩,rfl⟩
set_option maxRecDepth 100000 in
theorem vt_pieces {n : Nat} {vs : List V} (h : VT Tryz.prog n 87 vs) : ∃ l : List PieceT,vs = [piecesV l]:=by
 cases n with
 | zero => exact h.elim
 | succ n =>
  obtain ⟨xs,e,_,hx⟩ : ∃ xs : List (List V),vs = [.sl 3 (xs.map (mkX Tryz.prog 91))] ∧ xs.length ≤ maxLen ∧ ∀ x ∈ xs,VT Tryz.prog n 91 x:=h
  obtain ⟨l,hl⟩:=map_exists (f:=mkX Tryz.prog 91) (g:=pieceV) (xs:=xs) fun x hm => by
   obtain ⟨a,rfl⟩:=vt_piece (hx x hm)
   exact ⟨a,rfl⟩
  exact ⟨l,by rw [e,hl];rfl⟩
set_option maxRecDepth 100000 in
theorem vt_op {n : Nat} {vs : List V} (h : VT Tryz.prog n 89 vs) : ∃ o,vs = (opV o).cells:=by
 cases n with
 | zero => exact h.elim
 | succ n =>
  obtain ⟨h0,h⟩ : VT Tryz.prog n 5 (vs.take 1) ∧ _:=h
  obtain ⟨a0,e0⟩:=vt_u8 h0
  obtain ⟨r,rfl,d0⟩:=take1 e0
  obtain ⟨h1,h⟩ : VT Tryz.prog n 86 (r.take 1) ∧ _:=h
  obtain ⟨a1,e1,_⟩:=vt_path h1
  obtain ⟨r,rfl,d0⟩:=take1 e1
  obtain ⟨h2,h⟩ : VT Tryz.prog n 3 (r.take 1) ∧ _:=h
  obtain ⟨a2,e2,_⟩:=vt_int h2
  obtain ⟨r,rfl,d0⟩:=take1 e2
  obtain ⟨h3,h⟩ : VT Tryz.prog n 86 (r.take 1) ∧ _:=h
  obtain ⟨a3,e3,_⟩:=vt_path h3
  obtain ⟨r,rfl,d0⟩:=take1 e3
  obtain ⟨h4,h⟩ : VT Tryz.prog n 22 (r.take 1) ∧ _:=h
  obtain ⟨a4,e4⟩:=vt_u64 h4
  obtain ⟨r,rfl,d0⟩:=take1 e4
  obtain ⟨h5,h⟩ : VT Tryz.prog n 4 (r.take 1) ∧ _:=h
  obtain ⟨a5,e5⟩:=vt_bool h5
  obtain ⟨r,rfl,d0⟩:=take1 e5
  obtain ⟨h6,h⟩ : VT Tryz.prog n 9 (r.take 1) ∧ _:=h
  obtain ⟨a6,e6⟩:=vt_str h6
  obtain ⟨r,rfl,d0⟩:=take1 e6
  obtain ⟨h7,h⟩ : VT Tryz.prog n 9 (r.take 1) ∧ _:=h
  obtain ⟨a7,e7⟩:=vt_str h7
  obtain ⟨r,rfl,d0⟩:=take1 e7
  obtain ⟨h8,h⟩ : VT Tryz.prog n 9 (r.take 1) ∧ _:=h
  obtain ⟨a8,e8⟩:=vt_str h8
  obtain ⟨r,rfl,d0⟩:=take1 e8
  obtain ⟨h9,h⟩ : VT Tryz.prog n 4 (r.take 1) ∧ _:=h
  obtain ⟨a9,e9⟩:=vt_bool h9
  obtain ⟨r,rfl,d0⟩:=take1 e9
  obtain ⟨h10,h⟩ : VT Tryz.prog n 87 (r.take 1) ∧ _:=h
  obtain ⟨a10,e10⟩:=vt_pieces h10
  obtain ⟨r,rfl,d0⟩:=take1 e10
  have h : r = []:=h
  subst h
  exact ⟨⟨a0,a1,a2,a3,a4,a5,a6,a7,a8,a9,a10⟩,rfl⟩
set_option maxRecDepth 100000 in
theorem vt_ops {n : Nat} {vs : List V} (h : VT Tryz.prog n 28 vs) : ∃ l : List OpT,vs = [.sl 11 (l.map opV)] ∧ l.length ≤ maxLen:=by
 cases n with
 | zero => exact h.elim
 | succ n =>
  obtain ⟨xs,e,hl,hx⟩ : ∃ xs : List (List V),vs = [.sl 11 (xs.map (mkX Tryz.prog 89))] ∧ xs.length ≤ maxLen ∧ ∀ x ∈ xs,VT Tryz.prog n 89 x:=h
  obtain ⟨l,e1⟩:=map_exists (f:=mkX Tryz.prog 89) (g:=opV) (xs:=xs) fun x hm => by
   obtain ⟨a,rfl⟩:=vt_op (hx x hm)
   exact ⟨a,rfl⟩
  refine ⟨l,by rw [e,e1],?_⟩
  have:=congrArg List.length e1
  simp at this
  omega
end Bow
/- TD4: a window's script that is read as data. -/
namespace Bow
open Go Go.Proofs
theorem vt_i64 {n : Nat} {vs : List V} (h : VT Tryz.prog n 2 vs) : ∃ i,vs = [.int .i64 i]:=by
 cases n with
 | zero => exact h.elim
 | succ n =>
  obtain ⟨s,e,_⟩ : ∃ s : Int,vs = [.int .i64 s] ∧ (Lit.int .i64 s).wf = true:=h
  exact ⟨s,e⟩
end Bow
/- TD5: a client's script that is read as data. -/
namespace Bow
open Go Go.Proofs
set_option maxRecDepth 100000 in
theorem vt_call22 {n : Nat} {vs : List V} (h : VT Tryz.prog n 64 vs) : ∃ c,vs = (call22V c).cells:=by
 cases n with
 | zero => exact h.elim
 | succ n =>
  obtain ⟨h0,h1,h2,h3,h4,h5,h6⟩ : VT Tryz.prog n 5 (vs.take 1) ∧ VT Tryz.prog n 2 ((vs.drop 1).take 1) ∧ VT Tryz.prog n 2 (((vs.drop 1).drop 1).take 1) ∧ VT Tryz.prog n 4 ((((vs.drop 1).drop 1).drop 1).take 1) ∧ VT Tryz.prog n 28 (((((vs.drop 1).drop 1).drop 1).drop 1).take 1) ∧ VT Tryz.prog n 26 ((((((vs.drop 1).drop 1).drop 1).drop 1).drop 1).take 6) ∧ (((((vs.drop 1).drop 1).drop 1).drop 1).drop 1).drop 6 = []:=h
  obtain ⟨a,e0⟩:=vt_u8 h0
  obtain ⟨b,e1⟩:=vt_i64 h1
  obtain ⟨c,e2⟩:=vt_i64 h2
  obtain ⟨d,e3⟩:=vt_bool h3
  obtain ⟨s,e4,_⟩:=vt_ops h4
  obtain ⟨t,e5⟩:=vt_node _ _ h5
  obtain ⟨r,rfl,d0⟩:=take1 e0
  rw [d0] at e1 e2 e3 e4 e5 h6
  obtain ⟨r1,rfl,d1⟩:=take1 e1
  rw [d1] at e2 e3 e4 e5 h6
  obtain ⟨r2,rfl,d2⟩:=take1 e2
  rw [d2] at e3 e4 e5 h6
  obtain ⟨r3,rfl,d3⟩:=take1 e3
  rw [d3] at e4 e5 h6
  obtain ⟨r4,rfl,d4⟩:=take1 e4
  rw [d4] at e5 h6
  have hr : r4 = (nodeV t).cells:=by
   have:=List.take_append_drop 6 r4
   rw [e5,h6,List.append_nil] at this
   exact this.symm
  subst hr
  exact ⟨⟨a,b,c,d,s,t⟩,rfl⟩
set_option maxRecDepth 100000 in
theorem vt_calls22 {n : Nat} {vs : List V} (h : VT Tryz.prog n 54 vs) : ∃ l : List Call22,vs = [calls22V l] ∧ l.length ≤ maxLen:=by
 cases n with
 | zero => exact h.elim
 | succ n =>
  obtain ⟨xs,e,hl,hx⟩ : ∃ xs : List (List V),vs = [.sl 11 (xs.map (mkX Tryz.prog 64))] ∧ xs.length ≤ maxLen ∧ ∀ x ∈ xs,VT Tryz.prog n 64 x:=h
  obtain ⟨l,e1⟩:=map_exists (f:=mkX Tryz.prog 64) (g:=call22V) (xs:=xs) fun x hm => by
   obtain ⟨a,rfl⟩:=vt_call22 (hx x hm)
   exact ⟨a,rfl⟩
  refine ⟨l,by rw [e,e1];rfl,?_⟩
  have:=congrArg List.length e1
  simp at this
  omega
set_option maxRecDepth 100000 in
theorem calls22_arg {H : Type} {enc : TypeId × Value → H} {w : World} {r : Reach} {base b0 : Nat} {sp : Nat → Bool} {held : Bool} {v : Value} {d : DataW H} {p : List MemPlace} (ho : Value.okWide Tryz.prog w r b0 54 v) (h : DataW.Trod enc Tryz.prog w base sp held 54 v d p) :
  ∃ l : List Call22,Rep w β0 [] (calls22V l) v ∧ l.length ≤ maxLen:=by
 obtain ⟨a,len,cap,rfl⟩:=WideShapes.okWide_slice Tryz.underlying54 ho
 obtain ⟨fuel,hf⟩:=h
 obtain ⟨vs,h1,_,h3⟩:=read_data (G:=[54,64,28,89,26,24,23,93,86,87,91,3,2,9,22,5,4]) (by kernel_rfl) fuel _ _ _ (by kernel_rfl) hf
 obtain ⟨l,rfl,hl⟩:=vt_calls22 h3
 exact ⟨l,h1.2 0 _ _ rfl rfl,hl⟩
end Bow
