/- The library, part 7: SP61, SP40, SP41, SP42, SP43, SP44, SP45, SP46, SP47, SP48, SP49, SP50, SP51, SP52, SP53, SP54, SP55, SP56, SP57, SP62, SP63, SP64, SP38, SP65, W98. -/
import Derived.Test.YtbffliejmnokpaaGreatMf
import Derived.Test.YtbffliejmnokpaaGreatMd
import Derived.Test.YtbffliejmnokpaaGreatMc
import Derived.Test.YtbffliejmnokpaaGreatMe
/- SP61: an edit made normal does what it did; two edits of one text behind each other end in one text. -/
namespace Bow
open Go
theorem edit_cong {r r' : List PieceT} (h : ∀ t,editP t r = editP t r') : ∀ (l : List PieceT) (t : List UInt8),editP t (l ++ r) = editP t (l ++ r')
 | [],t => h t
 | p :: l,t => by rw [List.cons_append,List.cons_append,editP,editP,edit_cong h l]
theorem edit_trail (k : Int) (l : List PieceT) (t : List UInt8) : editP t (l ++ [⟨k,0,[]⟩]) = editP t l:=by
 have:=edit_cong (r:=[⟨k,0,[]⟩]) (r':=[]) (fun t => by simp [editP]) l t
 rwa [List.append_nil] at this
theorem edit_keeps {a b d : Int} (s : List UInt8) (w : List PieceT) (ha : 0 ≤ a) (hb : 0 ≤ b) (hd : 0 ≤ d) (t : List UInt8) : editP t (⟨a,0,[]⟩ :: ⟨b,d,s⟩ :: w) = editP t (⟨a + b,d,s⟩ :: w):=by
 rw [editP,editP,editP]
 simp only [List.append_nil,Int.add_zero]
 have e1 : (a + b).toNat = a.toNat + b.toNat:=by omega
 have e2 : (a + b + d).toNat = a.toNat + (b + d).toNat:=by omega
 rw [e1,e2,List.take_add,List.drop_drop]
 simp only [List.append_assoc]
theorem edit_zero (w : List PieceT) (t : List UInt8) : editP t (⟨0,0,[]⟩ :: w) = editP t w:=by
 rw [editP]
 simp
theorem edit_join {k d e : Int} (s p : List UInt8) (w : List PieceT) (hk : 0 ≤ k) (hd : 0 ≤ d) (he : 0 ≤ e) (t : List UInt8) : editP t (⟨k,d,s⟩ :: ⟨0,e,p⟩ :: w) = editP t (⟨k,d + e,s ++ p⟩ :: w):=by
 rw [editP,editP,editP]
 have e2 : (k + (d + e)).toNat = (k + d).toNat + (0 + e).toNat:=by omega
 simp only [e2,List.drop_drop,Int.toNat_zero,List.take_zero,List.nil_append,List.append_assoc]
theorem piece_edit {m : Mk} {p : PieceT} (hm : m.Ok) (hp : p.Nn) (w : List PieceT) (t : List UInt8) : editP t ((m.piece p).l ++ ⟨(m.piece p).keep,0,[]⟩ :: w) = editP t (m.l ++ ⟨m.keep,0,[]⟩ :: p :: w):=by
 have mk:=hm.k
 have pk:=hp.k
 have pd:=hp.d
 by_cases h0 : p.put = [] ∧ p.drop = 0
 ·rw [piece_skip h0.1 h0.2]
  refine edit_cong (fun t => ?_) m.l t
  obtain ⟨k,d,s⟩:=p
  simp only at h0
  obtain ⟨rfl,rfl⟩:=h0
  exact (edit_keeps [] w mk pk (Int.le_refl 0) t).symm
 ·by_cases hk : 0 < m.keep + p.keep ∨ m.l = []
  ·rw [piece_new pd h0 hk]
   simp only [List.append_assoc,List.cons_append,List.nil_append]
   refine edit_cong (fun t => ?_) m.l t
   rw [edit_keeps _ _ mk pk pd,editP,edit_zero,← editP]
  ·have hk0 : m.keep + p.keep = 0:=by
    have : ¬ 0 < m.keep + p.keep:=fun c => hk (.inl c)
    omega
   have hl0 : m.l ≠ []:=fun c => hk (.inr c)
   have k1 : m.keep = 0:=by omega
   have k2 : p.keep = 0:=by omega
   rw [piece_merge pd h0 hk0 hl0]
   obtain ⟨l',q,hl⟩ : ∃ l' q,m.l = l' ++ [q]:=⟨m.l.dropLast,m.l.getLast hl0,(List.dropLast_concat_getLast hl0).symm⟩
   have hq:=hm.l q (by simp [hl])
   rw [hl,modL_snoc]
   simp only [List.append_assoc,List.cons_append,List.nil_append]
   refine edit_cong (fun t => ?_) l' t
   obtain ⟨k,d,s⟩:=p
   obtain ⟨qk,qd,qs⟩:=q
   simp only at k2 pd
   subst k2
   have e:=edit_join qs s w hq.k hq.d pd t
   rw [k1]
   show editP t (⟨qk,qd + d,qs ++ s⟩ :: ⟨0,0,[]⟩ :: w) = _
   have e1 : editP t (⟨qk,qd + d,qs ++ s⟩ :: ⟨0,0,[]⟩ :: w) = editP t (⟨qk,qd + d,qs ++ s⟩ :: w):=edit_cong (r:=⟨0,0,[]⟩ :: w) (r':=w) (edit_zero w) [⟨qk,qd + d,qs ++ s⟩] t
   have e2 : editP t (⟨qk,qd,qs⟩ :: ⟨0,0,[]⟩ :: ⟨0,d,s⟩ :: w) = editP t (⟨qk,qd,qs⟩ :: ⟨0,d,s⟩ :: w):=edit_cong (r:=⟨0,0,[]⟩ :: ⟨0,d,s⟩ :: w) (r':=⟨0,d,s⟩ :: w) (edit_zero _) [⟨qk,qd,qs⟩] t
   rw [e1,e2,e]
theorem fold_edit : ∀ (l : List PieceT) (m : Mk) (t : List UInt8),m.Ok → (∀ p ∈ l,p.Nn) → editP t (l.foldl Mk.piece m).l = editP t (m.l ++ ⟨m.keep,0,[]⟩ :: l)
 | [],m,t,_,_ => (edit_trail m.keep m.l t).symm
 | p :: l,m,t,hm,hl => by
  rw [List.foldl_cons,fold_edit l (m.piece p) t (Mk.piece_ok hm (hl p (by simp))).1 (fun q hq => hl q (by simp [hq])),piece_edit hm (hl p (by simp))]
theorem norm_edit {l : List PieceT} (h : ∀ p ∈ l,p.Nn) (t : List UInt8) : editP t (normP l) = editP t l:=by
 unfold normP
 rw [fold_edit l Mk.nil t Mk.nil_ok h]
 exact edit_zero l t
theorem extent_app (l r : List PieceT) : extentP (l ++ r) = extentP l + extentP r:=by
 induction l with
 | nil => rw [List.nil_append];show _ = 0 + _;omega
 | cons p l ih => rw [List.cons_append,extentP_cons,extentP_cons,ih];omega
theorem piece_ext {m : Mk} {p : PieceT} (hm : m.Ok) (hp : p.Nn) : extentP (m.piece p).l + (m.piece p).keep = extentP m.l + m.keep + p.keep + p.drop:=by
 have mk:=hm.k
 have pk:=hp.k
 have pd:=hp.d
 have nil : extentP [] = 0:=rfl
 by_cases h0 : p.put = [] ∧ p.drop = 0
 ·rw [piece_skip h0.1 h0.2]
  simp only
  omega
 ·by_cases hk : 0 < m.keep + p.keep ∨ m.l = []
  ·rw [piece_new pd h0 hk]
   simp only
   rw [extent_app,extentP_cons,nil]
   simp only
   omega
  ·have hk0 : m.keep + p.keep = 0:=by
    have : ¬ 0 < m.keep + p.keep:=fun c => hk (.inl c)
    omega
   have hl0 : m.l ≠ []:=fun c => hk (.inr c)
   rw [piece_merge pd h0 hk0 hl0]
   obtain ⟨l',q,hl⟩ : ∃ l' q,m.l = l' ++ [q]:=⟨m.l.dropLast,m.l.getLast hl0,(List.dropLast_concat_getLast hl0).symm⟩
   rw [hl,modL_snoc]
   simp only
   rw [extent_app,extent_app,extentP_cons,extentP_cons,nil]
   unfold addP
   simp only
   omega
theorem fold_ext : ∀ (l : List PieceT) (m : Mk),m.Ok → (∀ p ∈ l,p.Nn) → (l.foldl Mk.piece m).Ok ∧ extentP (l.foldl Mk.piece m).l + (l.foldl Mk.piece m).keep = extentP m.l + m.keep + extentP l
 | [],m,hm,_ => ⟨hm,by show _ = _ + (0 : Int);rw [List.foldl_nil];omega⟩
 | p :: l,m,hm,hl => by
  have hp:=hl p (by simp)
  have ih:=fold_ext l (m.piece p) (Mk.piece_ok hm hp).1 fun q hq => hl q (by simp [hq])
  have e:=piece_ext hm hp
  rw [List.foldl_cons,extentP_cons]
  exact ⟨ih.1,by rw [ih.2];omega⟩
theorem norm_ext {l : List PieceT} (h : ∀ p ∈ l,p.Nn) : extentP (normP l) ≤ extentP l:=by
 have e:=fold_ext l Mk.nil Mk.nil_ok h
 have k:=e.1.k
 have e:=e.2
 have n1 : extentP Mk.nil.l = 0:=rfl
 have n2 : Mk.nil.keep = 0:=rfl
 unfold normP
 omega
theorem norm_trail (l : List PieceT) (k : Int) : normP (l ++ [⟨k,0,[]⟩]) = normP l:=by
 unfold normP
 rw [List.foldl_append]
 rfl
theorem extN_ext : ∀ {l : List PieceT},(∀ p ∈ l,p.Nn) → (extN l : Int) = extentP l
 | [],_ => rfl
 | p :: l,h => by
  have hp:=h p (by simp)
  have:=hp.k
  have:=hp.d
  have ih:=extN_ext (l:=l) fun q hq => h q (by simp [hq])
  rw [extN,extentP_cons]
  omega
theorem putAt_ge : ∀ (l : List PieceT) (j : Nat),extN l < j → putAt l j = []
 | [],_,_ => rfl
 | p :: l,j,h => by
  rw [extN] at h
  rw [putAt,decide_eq_false (by omega : ¬ j < p.keep.toNat),decide_eq_false (by omega : ¬ j = p.keep.toNat),decide_eq_false (by omega : ¬ j < p.keep.toNat + p.drop.toNat)]
  exact putAt_ge l _ (by omega)
def szV : List Pl → Nat
 | [] => 0
 | b :: vb => b.1.length + (bif b.2 then 0 else 1) + szV vb
theorem place_ext (first : Bool) (a b : Pl) : extentP (placeP first a b) = b.1.length + (bif b.2 then 0 else 1):=by
 unfold placeP
 cases first <;> cases b.2 <;> cases a.2 <;> simp [extentP]
theorem places_ext (first : Bool) : ∀ (va vb : List Pl),va.length = vb.length → extentP (placesP first va vb) = szV vb
 | [],[],_ => rfl
 | [],_ :: _,h => by simp at h
 | _ :: _,[],h => by simp at h
 | a :: va,b :: vb,h => by
  rw [placesP,extent_app,place_ext,places_ext first va vb (by simpa using h),szV]
  cases b.2 <;> simp
theorem appV_len (b : Pl) : ∀ (vb : List Pl) (t : List UInt8),vb.length ≤ t.length → szV vb + b.1.length ≤ (appV (vb ++ [b]) t).length
 | [],[],_ => by simp [szV,appV]
 | [],c :: t,_ => by simp [szV,appV]
 | a :: vb,[],h => by simp at h
 | a :: vb,c :: t,h => by
  have ih:=appV_len b vb t (by simpa using h)
  rw [List.cons_append,appV,szV,List.length_append,List.length_append]
  cases a.2 <;> simp <;> omega
theorem placesP_app (first : Bool) (a b : Pl) : ∀ (va vb : List Pl),va.length = vb.length → placesP first (va ++ [a]) (vb ++ [b]) = placesP first va vb ++ placeP first a b
 | [],[],_ => by simp [placesP]
 | [],_ :: _,h => by simp at h
 | _ :: _,[],h => by simp at h
 | c :: va,d :: vb,h => by
  rw [List.cons_append,List.cons_append,placesP,placesP,placesP_app first a b va vb (by simpa using h),List.append_assoc]
theorem places_fit (first : Bool) {va vb : List Pl} {a b : Pl} {t : List UInt8} (h : va.length = vb.length) (hl : vb.length ≤ t.length) (ha : a.2 = false) (hb : b.2 = false) : extentP (normP (placesP first (va ++ [a]) (vb ++ [b]))) ≤ ((appV (vb ++ [b]) t).length : Int):=by
 have hx : ∃ X,placeP first a b = X ++ [⟨1,0,[]⟩] ∧ extentP X = b.1.length ∧ ∀ p ∈ X,p.Nn:=by
  unfold placeP
  rw [ha,hb]
  cases first
  ·refine ⟨[⟨b.1.length,0,[]⟩,⟨0,0,a.1⟩],rfl,by simp [extentP],fun p hp => ?_⟩
   simp at hp
   rcases hp with rfl | rfl <;> exact ⟨by simp,by simp⟩
  ·refine ⟨[⟨0,0,a.1⟩,⟨b.1.length,0,[]⟩],rfl,by simp [extentP],fun p hp => ?_⟩
   simp at hp
   rcases hp with rfl | rfl <;> exact ⟨by simp,by simp⟩
 obtain ⟨X,hX,hX1,hX2⟩:=hx
 have e:=norm_ext (l:=placesP first va vb ++ X) fun p hp => by
  rcases List.mem_append.1 hp with hp | hp
  ·exact (places_nn first va vb).1 p hp
  ·exact hX2 p hp
 have g:=appV_len b vb t hl
 rw [placesP_app first a b va vb h,hX,← List.append_assoc,norm_trail]
 rw [extent_app,places_ext first va vb h,hX1] at e
 omega
theorem view_snoc (l : List PieceT) (n : Nat) : viewP l n = (List.range' 0 n).map (placesF l) ++ [placesF l n]:=by
 unfold viewP
 rw [List.range'_1_concat,List.map_append,Nat.zero_add]
 rfl
theorem applyE_ok {t : List UInt8} {l : List PieceT} (h : (applyE t l).2 = 0) : rightP l = true ∧ extentP l ≤ t.length ∧ applyE t l = (editP t l,0):=by
 unfold applyE at h ⊢
 cases hr : rightP l with
 | false => rw [hr] at h;cases h
 | true =>
  rw [hr] at h
  simp only [Bool.not_true,cond_false] at h ⊢
  by_cases c : (t.length : Int) < extentP l
  ·rw [decide_eq_true c] at h;cases h
  ·rw [decide_eq_false c]
   simp only [cond_false,true_and,and_true]
   omega
theorem edit_RN {l : List PieceT} {t : List UInt8} (hl : RN l) (h : extentP l ≤ t.length) : editP t l = appF (placesF l) t:=by
 cases l with
 | nil => exact edit_F [] t (by intro p hp;cases hp) h
 | cons p l =>
  obtain ⟨h1,h2,h3⟩:=hl
  have hx : 0 ≤ extentP l:=extentP_nn h3
  obtain ⟨k,d,s⟩:=p
  simp only at h1 h2
  have e:=edit_keep2 h3 (fun t h => edit_F l t h3 h) d.toNat s hx k.toNat t (by rw [extentP_cons] at h;simp only at h;omega)
  rw [show ((k.toNat : Nat) : Int) = k by omega,show ((d.toNat : Nat) : Int) = d by omega] at e
  exact e
theorem edit_view {t : List UInt8} {l : List PieceT} {n : Nat} (h : (applyE t l).2 = 0) (h1 : extN (normP l) ≤ n) (h2 : n ≤ t.length) : (applyE t l).1 = appV (viewP (normP l) n) t:=by
 obtain ⟨hr,hx,he⟩:=applyE_ok h
 have nn:=(right_nn hr).1
 have nx:=norm_ext nn
 rw [he]
 show editP t l = _
 rw [← norm_edit nn t,edit_RN (norm_rn hr) (by omega)]
 exact (appF_V n t (placesF (normP l)) h2 fun i hi => by
  unfold placesF
  rw [putAt_ge _ _ (by omega),dropAt_ge _ _ (by omega)]).symm
theorem trans_half {t : List UInt8} {A B : List PieceT} {prior : Bool} (hA : (applyE t A).2 = 0) (hB : (applyE t B).2 = 0) (h : (transP A B prior).2.2 = 0) {n : Nat} (hn : n = max (extN (normP A)) (extN (normP B))) :
  applyE (applyE t B).1 (transP A B prior).1 = (appV (mergeV prior (viewP (normP A) n) (viewP (normP B) n)) t,0):=by
 obtain ⟨ra,xa,_⟩:=applyE_ok hA
 obtain ⟨rb,xb,_⟩:=applyE_ok hB
 have ta:=norm_ext (right_nn ra).1
 have tb:=norm_ext (right_nn rb).1
 have na:=extN_ext (rn_nn (norm_rn ra))
 have nb:=extN_ext (rn_nn (norm_rn rb))
 have hnt : n ≤ t.length:=by omega
 have eb:=edit_view hB (by omega : extN (normP B) ≤ n) hnt
 have tr:=(trans_right A B prior).1
 have e : (transP A B prior).1 = normP (placesP prior (viewP (normP A) n) (viewP (normP B) n)):=by
  rw [← transR_eq] at h ⊢
  unfold transR at h ⊢
  rw [ra,rb] at h ⊢
  simp only [Bool.not_true,Bool.or_self,cond_false,← hn] at h ⊢
  revert h
  cases !rightP (normP (placesP prior (viewP (normP A) n) (viewP (normP B) n))) || !rightP (normP (placesP (!prior) (viewP (normP B) n) (viewP (normP A) n))) with
  | true => intro h;cases h
  | false => intro _;rfl
 have da : (placesF (normP A) n).2 = false:=dropAt_ge _ _ (by omega)
 have db : (placesF (normP B) n).2 = false:=dropAt_ge _ _ (by omega)
 have fit:=places_fit prior (va:=(List.range' 0 n).map (placesF (normP A))) (vb:=(List.range' 0 n).map (placesF (normP B))) (t:=t) (by simp) (by simpa using hnt) da db
 rw [← view_snoc,← view_snoc,← e,← eb] at fit
 have pe:=places_edit prior (viewP (normP A) n) (viewP (normP B) n) t (by rw [viewP_len,viewP_len]) (by rw [viewP_len];omega)
 generalize (applyE t B).1 = w at *
 unfold applyE
 rw [tr,decide_eq_false (show ¬ ((w.length : Nat) : Int) < extentP (transP A B prior).1 by omega)]
 simp only [Bool.not_true,cond_false]
 rw [← pe,← eb,e,norm_edit (places_nn ..).1]
theorem trans_meet {t : List UInt8} {A B : List PieceT} {prior : Bool} (hA : (applyE t A).2 = 0) (hB : (applyE t B).2 = 0) (h1 : (transP A B prior).2.2 = 0) (h2 : (transP B A (!prior)).2.2 = 0) :
  applyE (applyE t B).1 (transP A B prior).1 = applyE (applyE t A).1 (transP B A (!prior)).1 ∧ (applyE (applyE t B).1 (transP A B prior).1).2 = 0:=by
 have e1:=trans_half hA hB h1 rfl
 have e2:=trans_half hB hA h2 (n:=max (extN (normP A)) (extN (normP B))) (Nat.max_comm ..)
 rw [e1,e2,merge_turn prior]
 exact ⟨rfl,rfl⟩
end Bow
/- SP40: trees as what names unfold to: whose children are which, and what stands at each. -/
namespace Bow
open Go
structure Pay where
 id : Int
 leaf : Bool
 label : List UInt8
 attrs : AttrL
 text : List UInt8
def Tree.pay : Tree → Pay
 | .mk i l b a c _ => ⟨i,l,b,a,c⟩
structure Gr (α : Type) where
 kids : α → List α
 pay : α → Pay
section
variable {α : Type}
mutual
def Unf (S : Gr α) : α → Tree → Prop
 | u,.mk i l b a c ss => S.pay u = ⟨i,l,b,a,c⟩ ∧ Unfs S (S.kids u) ss
def Unfs (S : Gr α) : List α → List Tree → Prop
 | [],[] => True
 | u :: us,s :: ss => Unf S u s ∧ Unfs S us ss
 | [],_ :: _ => False
 | _ :: _,[] => False
end
mutual
def labs (S : Gr α) : α → Tree → List α
 | u,.mk _ _ _ _ _ ss => u :: labss S (S.kids u) ss
def labss (S : Gr α) : List α → List Tree → List α
 | u :: us,s :: ss => labs S u s ++ labss S us ss
 | _,_ => []
end
theorem unf_eq {S : Gr α} {u : α} {t : Tree} : Unf S u t ↔ S.pay u = t.pay ∧ Unfs S (S.kids u) t.subs:=by
 cases t
 rw [Unf]
 exact Iff.rfl
theorem labs_eq {S : Gr α} {u : α} {t : Tree} : labs S u t = u :: labss S (S.kids u) t.subs:=by
 cases t
 rw [labs]
 rfl
theorem tree_eq {t u : Tree} (h : t.pay = u.pay) (k : t.subs = u.subs) : t = u:=by
 cases t
 cases u
 simp only [Tree.pay,Pay.mk.injEq] at h
 obtain ⟨rfl,rfl,rfl,rfl,rfl⟩:=h
 simp only [Tree.subs] at k
 rw [k]
theorem unfs_len {S : Gr α} : ∀ {us : List α} {ss : List Tree},Unfs S us ss → us.length = ss.length
 | [],[],_ => rfl
 | u :: us,s :: ss,h => by
  rw [Unfs] at h
  simp [unfs_len h.2]
 | [],_ :: _,h => by rw [Unfs] at h;exact h.elim
 | _ :: _,[],h => by rw [Unfs] at h;exact h.elim
theorem unfs_get {S : Gr α} : ∀ {us : List α} {ss : List Tree},Unfs S us ss → ∀ (i : Nat) (s : Tree),ss[i]? = some s → ∃ u,us[i]? = some u ∧ Unf S u s
 | [],[],_,i,s,hs => by simp at hs
 | u :: us,s' :: ss,h,i,s,hs => by
  rw [Unfs] at h
  cases i with
  | zero => simp at hs;subst hs;exact ⟨u,rfl,h.1⟩
  | succ i => simpa using unfs_get h.2 i s (by simpa using hs)
 | [],_ :: _,h,_,_,_ => by rw [Unfs] at h;exact h.elim
 | _ :: _,[],h,_,_,_ => by rw [Unfs] at h;exact h.elim
theorem unfs_app {S : Gr α} : ∀ {us us' : List α} {ss ss' : List Tree},Unfs S us ss → Unfs S us' ss' → Unfs S (us ++ us') (ss ++ ss')
 | [],_,[],_,_,k => k
 | u :: us,_,s :: ss,_,h,k => by
  rw [Unfs] at h
  rw [List.cons_append,List.cons_append,Unfs]
  exact ⟨h.1,unfs_app h.2 k⟩
 | [],_,_ :: _,_,h,_ => by rw [Unfs] at h;exact h.elim
 | _ :: _,_,[],_,h,_ => by rw [Unfs] at h;exact h.elim
theorem unfs_split {S : Gr α} : ∀ {us : List α} {ss : List Tree} (n : Nat),Unfs S us ss → Unfs S (us.take n) (ss.take n) ∧ Unfs S (us.drop n) (ss.drop n)
 | us,ss,0,h => by simp only [List.take_zero,List.drop_zero];exact ⟨by rw [Unfs];trivial,h⟩
 | [],[],n + 1,_ => by simp only [List.take_nil,List.drop_nil];exact ⟨by rw [Unfs];trivial,by rw [Unfs];trivial⟩
 | u :: us,s :: ss,n + 1,h => by
  rw [Unfs] at h
  have:=unfs_split n h.2
  simp only [List.take_succ_cons,List.drop_succ_cons]
  rw [Unfs]
  exact ⟨⟨h.1,this.1⟩,this.2⟩
 | [],_ :: _,_ + 1,h => by rw [Unfs] at h;exact h.elim
 | _ :: _,[],_ + 1,h => by rw [Unfs] at h;exact h.elim
theorem labss_app {S : Gr α} : ∀ {us us' : List α} {ss ss' : List Tree},us.length = ss.length → labss S (us ++ us') (ss ++ ss') = labss S us ss ++ labss S us' ss'
 | [],_,[],_,_ => by simp [labss]
 | u :: us,_,s :: ss,_,h => by
  rw [List.cons_append,List.cons_append,labss,labss,labss_app (by simpa using h),List.append_assoc]
 | [],_,_ :: _,_,h => by simp at h
 | _ :: _,_,[],_,h => by simp at h
theorem unf_agree {S S' : Gr α} (t : Tree) : ∀ u : α,(∀ z ∈ labs S u t,S'.kids z = S.kids z ∧ S'.pay z = S.pay z) → (Unf S u t → Unf S' u t) ∧ labs S' u t = labs S u t:=by
 induction t using Tree.ind with
 | _ t ih =>
 intro u h
 have key : ∀ (us : List α) (ss : List Tree),(∀ s ∈ ss,s ∈ t.subs) → (∀ z ∈ labss S us ss,S'.kids z = S.kids z ∧ S'.pay z = S.pay z) → (Unfs S us ss → Unfs S' us ss) ∧ labss S' us ss = labss S us ss:=by
  intro us
  induction us with
  | nil =>
   intro ss _ _
   cases ss with
   | nil => exact ⟨fun _ => by rw [Unfs];trivial,by simp [labss]⟩
   | cons s ss => exact ⟨fun h => by rw [Unfs] at h;exact h.elim,by simp [labss]⟩
  | cons v us ihu =>
   intro ss hss hz
   cases ss with
   | nil => exact ⟨fun h => by rw [Unfs] at h;exact h.elim,by simp [labss]⟩
   | cons s ss =>
    rw [labss] at hz
    have h1:=ih s (hss s (by simp)) v fun z hm => hz z (List.mem_append_left _ hm)
    have h2:=ihu ss (fun x hx => hss x (by simp [hx])) fun z hm => hz z (List.mem_append_right _ hm)
    refine ⟨fun h => ?_,?_⟩
    ·rw [Unfs] at h ⊢
     exact ⟨h1.1 h.1,h2.1 h.2⟩
    ·rw [labss,labss,h1.2,h2.2]
 rw [labs_eq] at h
 have hu:=h u (by simp)
 have hk:=key (S.kids u) t.subs (fun _ h => h) fun z hz => h z (List.mem_cons_of_mem _ hz)
 refine ⟨fun hh => ?_,?_⟩
 ·rw [unf_eq] at hh ⊢
  rw [hu.1,hu.2]
  exact ⟨hh.1,hk.1 hh.2⟩
 ·rw [labs_eq,labs_eq,hu.1,hk.2]
theorem unf_fun {S : Gr α} (t : Tree) : ∀ (u : α) (t' : Tree),Unf S u t → Unf S u t' → t = t':=by
 induction t using Tree.ind with
 | _ t ih =>
 intro u t' h h'
 rw [unf_eq] at h h'
 have key : ∀ (us : List α) (ss ss' : List Tree),(∀ s ∈ ss,s ∈ t.subs) → Unfs S us ss → Unfs S us ss' → ss = ss':=by
  intro us
  induction us with
  | nil =>
   intro ss ss' _ h1 h2
   have e1:=unfs_len h1
   have e2:=unfs_len h2
   rw [List.length_eq_zero_iff.1 e1.symm,List.length_eq_zero_iff.1 e2.symm]
  | cons v us ihu =>
   intro ss ss' hss h1 h2
   cases ss with
   | nil => rw [Unfs] at h1;exact h1.elim
   | cons s ss =>
    cases ss' with
    | nil => rw [Unfs] at h2;exact h2.elim
    | cons s' ss' =>
     rw [Unfs] at h1 h2
     rw [ih s (hss s (by simp)) v s' h1.1 h2.1,ihu ss ss' (fun x hx => hss x (by simp [hx])) h1.2 h2.2]
 exact tree_eq (h.1.symm.trans h'.1) (key _ _ _ (fun _ h => h) h.2 h'.2)
def kidS (S : Gr α) (u : α) (i : Int) : Option α:=bif decide (i < 0) then none else (S.kids u)[i.toNat]?
def res (S : Gr α) : α → List Int → Option α
 | u,[] => some u
 | u,i :: p => match kidS S u i with
  | none => none
  | some v => res S v p
theorem kid_sub {S : Gr α} {u : α} {t : Tree} (h : Unf S u t) (i : Int) : (kidS S u i = none ∧ subT t i = none) ∨ ∃ v s,kidS S u i = some v ∧ subT t i = some s ∧ Unf S v s:=by
 rw [unf_eq] at h
 unfold kidS subT
 cases decide (i < 0) with
 | true => exact .inl ⟨rfl,rfl⟩
 | false =>
  simp only [cond_false]
  cases hs : t.subs[i.toNat]? with
  | none =>
   refine .inl ⟨?_,rfl⟩
   rw [List.getElem?_eq_none_iff] at hs ⊢
   rw [unfs_len h.2]
   exact hs
  | some s =>
   obtain ⟨v,h1,h2⟩:=unfs_get h.2 _ _ hs
   exact .inr ⟨v,s,h1,rfl,h2⟩
theorem res_at {S : Gr α} : ∀ (p : List Int) {u : α} {t : Tree},Unf S u t → (res S u p = none ∧ atT t p = none) ∨ ∃ v s,res S u p = some v ∧ atT t p = some s ∧ Unf S v s
 | [],u,t,h => .inr ⟨u,t,rfl,rfl,h⟩
 | i :: p,u,t,h => by
  rw [res,atT]
  rcases kid_sub h i with ⟨h1,h2⟩ | ⟨v,s,h1,h2,h3⟩
  ·rw [h1,h2]
   exact .inl ⟨rfl,rfl⟩
  ·rw [h1,h2]
   exact res_at p h3
theorem res_snoc {S : Gr α} (k : Int) : ∀ (p : List Int) (u : α),res S u (p ++ [k]) = (res S u p).bind fun v => kidS S v k
 | [],u => by
  show (match kidS S u k with
   | none => none
   | some v => some v) = kidS S u k
  cases kidS S u k <;> rfl
 | i :: p,u => by
  rw [List.cons_append,res,res]
  cases kidS S u i with
  | none => rfl
  | some v => exact res_snoc k p v
theorem res_app {S : Gr α} (q : List Int) : ∀ (p : List Int) (u : α),res S u (p ++ q) = (res S u p).bind fun v => res S v q
 | [],u => rfl
 | i :: p,u => by
  rw [List.cons_append,res,res]
  cases kidS S u i with
  | none => rfl
  | some v => exact res_app q p v
end
end Bow
/- SP41: a change at a node, seen by names. -/
namespace Bow
open Go
section
variable {α : Type}
theorem unfs_agree {S S' : Gr α} : ∀ (us : List α) (ss : List Tree),(∀ z ∈ labss S us ss,S'.kids z = S.kids z ∧ S'.pay z = S.pay z) → (Unfs S us ss → Unfs S' us ss) ∧ labss S' us ss = labss S us ss
 | [],[],_ => ⟨fun _ => by rw [Unfs];trivial,by simp [labss]⟩
 | [],_ :: _,_ => ⟨fun h => by rw [Unfs] at h;exact h.elim,by simp [labss]⟩
 | _ :: _,[],_ => ⟨fun h => by rw [Unfs] at h;exact h.elim,by simp [labss]⟩
 | u :: us,s :: ss,h => by
  rw [labss] at h
  have h1:=unf_agree s u fun z hz => h z (List.mem_append_left _ hz)
  have h2:=unfs_agree us ss fun z hz => h z (List.mem_append_right _ hz)
  refine ⟨fun k => ?_,?_⟩
  ·rw [Unfs] at k ⊢
   exact ⟨h1.1 k.1,h2.1 k.2⟩
  ·rw [labss,labss,h1.2,h2.2]
theorem split_get {β : Type} {l : List β} {i : Nat} {x : β} (h : l[i]? = some x) : l = l.take i ++ x :: l.drop (i + 1):=by
 have hi:=(List.getElem?_eq_some_iff.1 h).1
 have hx:=(List.getElem?_eq_some_iff.1 h).2
 rw [← hx,List.getElem_cons_drop,List.take_append_drop]
theorem set_split {β : Type} {l : List β} {i : Nat} {x : β} (h : i < l.length) : l.set i x = l.take i ++ x :: l.drop (i + 1):=List.set_eq_take_append_cons_drop.trans (if_pos h)
theorem kid_split {S : Gr α} {u : α} {t : Tree} (h : Unf S u t) {i : Int} {w : α} {s : Tree} (hk : kidS S u i = some w) (hs : subT t i = some s) :
  0 ≤ i ∧ S.kids u = (S.kids u).take i.toNat ++ w :: (S.kids u).drop (i.toNat + 1) ∧ t.subs = t.subs.take i.toNat ++ s :: t.subs.drop (i.toNat + 1) ∧ Unf S w s ∧ Unfs S ((S.kids u).take i.toNat) (t.subs.take i.toNat) ∧ Unfs S ((S.kids u).drop (i.toNat + 1)) (t.subs.drop (i.toNat + 1)) ∧
   labs S u t = u :: (labss S ((S.kids u).take i.toNat) (t.subs.take i.toNat) ++ (labs S w s ++ labss S ((S.kids u).drop (i.toNat + 1)) (t.subs.drop (i.toNat + 1)))):=by
 obtain ⟨h0,hs',_⟩:=subT_some hs
 have hk' : (S.kids u)[i.toNat]? = some w:=by
  unfold kidS at hk
  rwa [decide_eq_false (by omega)] at hk
 have hh:=unf_eq.1 h
 have e1:=split_get hk'
 have e2:=split_get hs'
 have k1:=unfs_split i.toNat hh.2
 have k2:=unfs_split (i.toNat + 1) hh.2
 have hw : Unf S w s:=by
  obtain ⟨w',hw1,hw2⟩:=unfs_get hh.2 _ _ hs'
  rw [hk'] at hw1
  injection hw1 with hw1
  subst hw1
  exact hw2
 refine ⟨h0,e1,e2,hw,k1.1,k2.2,?_⟩
 rw [labs_eq]
 have : labss S (S.kids u) t.subs = labss S ((S.kids u).take i.toNat ++ w :: (S.kids u).drop (i.toNat + 1)) (t.subs.take i.toNat ++ s :: t.subs.drop (i.toNat + 1)):=by rw [← e1,← e2]
 rw [this,labss_app (unfs_len k1.1),labss]
theorem res_mem {S : Gr α} : ∀ (p : List Int) {u v : α} {t y : Tree},Unf S u t → res S u p = some v → atT t p = some y → ∀ z ∈ labs S v y,z ∈ labs S u t
 | [],u,v,t,y,_,h1,h2,z,hz => by
  rw [res] at h1
  rw [atT] at h2
  injection h1 with h1
  injection h2 with h2
  subst h1 h2
  exact hz
 | i :: p,u,v,t,y,h,h1,h2,z,hz => by
  rw [res] at h1
  rw [atT] at h2
  rcases kid_sub h i with ⟨k1,k2⟩ | ⟨w,s,k1,k2,k3⟩
  ·rw [k1] at h1;cases h1
  ·rw [k1] at h1
   rw [k2] at h2
   have:=res_mem p k3 h1 h2 z hz
   rw [(kid_split h k1 k2).2.2.2.2.2.2]
   exact List.mem_cons_of_mem _ (List.mem_append_right _ (List.mem_append_left _ this))
theorem res_self {S : Gr α} {p : List Int} {u v : α} {t : Tree} (h : Unf S u t) (h1 : res S u p = some v) : v ∈ labs S u t:=by
 rcases res_at p h with ⟨k1,_⟩ | ⟨v',s,k1,k2,k3⟩
 ·rw [k1] at h1;cases h1
 ·rw [k1] at h1
  injection h1 with h1
  subst h1
  exact res_mem p h k1 k2 _ (by rw [labs_eq];simp)
theorem res_inj {S : Gr α} : ∀ (p q : List Int) {u v : α} {t : Tree},Unf S u t → (labs S u t).Nodup → res S u p = some v → res S u q = some v → p = q
 | [],[],_,_,_,_,_,_,_ => rfl
 | [],j :: q,u,v,t,h,hn,h1,h2 => by
  rw [res] at h1
  rw [res] at h2
  injection h1 with h1
  subst h1
  rcases kid_sub h j with ⟨k1,_⟩ | ⟨w,s,k1,k2,k3⟩
  ·rw [k1] at h2;cases h2
  ·rw [k1] at h2
   have hm:=res_self k3 h2
   rw [(kid_split h k1 k2).2.2.2.2.2.2] at hn
   exact absurd (List.mem_append_right _ (List.mem_append_left _ hm)) (List.nodup_cons.1 hn).1
 | i :: p,[],u,v,t,h,hn,h1,h2 => by
  rw [res] at h1
  rw [res] at h2
  injection h2 with h2
  subst h2
  rcases kid_sub h i with ⟨k1,_⟩ | ⟨w,s,k1,k2,k3⟩
  ·rw [k1] at h1;cases h1
  ·rw [k1] at h1
   have hm:=res_self k3 h1
   rw [(kid_split h k1 k2).2.2.2.2.2.2] at hn
   exact absurd (List.mem_append_right _ (List.mem_append_left _ hm)) (List.nodup_cons.1 hn).1
 | i :: p,j :: q,u,v,t,h,hn,h1,h2 => by
  rw [res] at h1
  rw [res] at h2
  rcases kid_sub h i with ⟨k1,_⟩ | ⟨w,s,k1,k2,k3⟩
  ·rw [k1] at h1;cases h1
  rcases kid_sub h j with ⟨l1,_⟩ | ⟨w',s',l1,l2,l3⟩
  ·rw [l1] at h2;cases h2
  rw [k1] at h1
  rw [l1] at h2
  have e:=kid_split h k1 k2
  have e':=kid_split h l1 l2
  have m1:=res_self k3 h1
  have m2:=res_self l3 h2
  by_cases hij : i = j
  ·subst hij
   rw [k1] at l1
   injection l1 with l1
   subst l1
   rw [k2] at l2
   injection l2 with l2
   subst l2
   rw [e.2.2.2.2.2.2] at hn
   have hn':=(List.nodup_append.1 (List.nodup_append.1 (List.nodup_cons.1 hn).2).2.1).1
   rw [res_inj p q k3 hn' h1 h2]
  ·exfalso
   have hne : i.toNat ≠ j.toNat:=by have:=e.1;have:=e'.1;omega
   have hn1:=hn
   rw [e.2.2.2.2.2.2] at hn1
   have hA:=List.nodup_append.1 (List.nodup_cons.1 hn1).2
   have hB:=List.nodup_append.1 hA.2.1
   have hj' : (S.kids u)[j.toNat]? = some w':=by
    have:=l1
    unfold kidS at this
    rwa [decide_eq_false (by have:=e'.1;omega)] at this
   have hs':=(subT_some l2).2.1
   rcases Nat.lt_or_gt_of_ne hne with hlt | hgt
   ·
    have hin : v ∈ labss S ((S.kids u).drop (i.toNat + 1)) (t.subs.drop (i.toNat + 1)):=by
     have g1 : ((S.kids u).drop (i.toNat + 1))[j.toNat - (i.toNat + 1)]? = some w':=by rw [List.getElem?_drop];rw [show i.toNat + 1 + (j.toNat - (i.toNat + 1)) = j.toNat by omega];exact hj'
     have g2 : (t.subs.drop (i.toNat + 1))[j.toNat - (i.toNat + 1)]? = some s':=by rw [List.getElem?_drop];rw [show i.toNat + 1 + (j.toNat - (i.toNat + 1)) = j.toNat by omega];exact hs'
     have f1:=split_get g1
     have f2:=split_get g2
     have hl:=unfs_len (unfs_split (j.toNat - (i.toNat + 1)) e.2.2.2.2.2.1).1
     rw [f1,f2,labss_app hl,labss]
     exact List.mem_append_right _ (List.mem_append_left _ m2)
    exact hB.2.2 v m1 v hin rfl
   ·have hin : v ∈ labss S ((S.kids u).take i.toNat) (t.subs.take i.toNat):=by
     have g1 : ((S.kids u).take i.toNat)[j.toNat]? = some w':=by rw [List.getElem?_take,if_pos hgt];exact hj'
     have g2 : (t.subs.take i.toNat)[j.toNat]? = some s':=by rw [List.getElem?_take,if_pos hgt];exact hs'
     have f1:=split_get g1
     have f2:=split_get g2
     have hl:=unfs_len (unfs_split j.toNat e.2.2.2.2.1).1
     rw [f1,f2,labss_app hl,labss]
     exact List.mem_append_right _ (List.mem_append_left _ m2)
    exact hA.2.2 v hin v (List.mem_append_left _ m1) rfl
theorem change_unf [DecidableEq α] {S S' : Gr α} {F : Tree → Tree} {v : α} {y : Tree} (hF : Unf S' v (F y)) : ∀ (p : List Int) (u : α) (t : Tree),Unf S u t → (labs S u t).Nodup → res S u p = some v → atT t p = some y → (∀ z ∈ labs S u t,z ≠ v → S'.kids z = S.kids z ∧ S'.pay z = S.pay z) →
  Unf S' u (changeT F t p) ∧ ∀ z,(labs S' u (changeT F t p)).count z + (labs S v y).count z = (labs S u t).count z + (labs S' v (F y)).count z
 | [],u,t,h,_,h1,h2,_ => by
  rw [res] at h1
  rw [atT] at h2
  injection h1 with h1
  injection h2 with h2
  subst h1 h2
  rw [changeT]
  exact ⟨hF,fun z => by omega⟩
 | i :: p,u,t,h,hn,h1,h2,ha => by
  rw [res] at h1
  rw [atT] at h2
  rcases kid_sub h i with ⟨k1,_⟩ | ⟨w,s,k1,k2,k3⟩
  ·rw [k1] at h1;cases h1
  rw [k1] at h1
  rw [k2] at h2
  obtain ⟨e0,e1,e2,_,e4,e5,e6⟩:=kid_split h k1 k2
  have hvm:=res_self k3 h1
  rw [e6] at hn ha
  obtain ⟨n1,n2⟩:=List.nodup_cons.1 hn
  obtain ⟨n3,n4,n5⟩:=List.nodup_append.1 n2
  obtain ⟨n6,n7,n8⟩:=List.nodup_append.1 n4
  have hu : u ≠ v:=fun e => n1 (List.mem_append_right _ (List.mem_append_left _ (e ▸ hvm)))
  have hu':=ha u (by simp) hu
  have ih:=change_unf hF p w s k3 n6 h1 h2 fun z hz hzv => ha z (List.mem_cons_of_mem _ (List.mem_append_right _ (List.mem_append_left _ hz))) hzv
  have a1:=unfs_agree (S:=S) (S':=S') ((S.kids u).take i.toNat) (t.subs.take i.toNat) fun z hz => ha z (List.mem_cons_of_mem _ (List.mem_append_left _ hz)) fun e => n5 z hz v (List.mem_append_left _ hvm) e
  have a2:=unfs_agree (S:=S) (S':=S') ((S.kids u).drop (i.toNat + 1)) (t.subs.drop (i.toNat + 1)) fun z hz => ha z (List.mem_cons_of_mem _ (List.mem_append_right _ (List.mem_append_right _ hz))) fun e => n8 v hvm z hz e.symm
  have hch : changeT F t (i :: p) = t.withSubs (t.subs.set i.toNat (changeT F s p)):=by rw [changeT,k2]
  have hlt : i.toNat < t.subs.length:=(List.getElem?_eq_some_iff.1 (subT_some k2).2.1).1
  have hsub : (changeT F t (i :: p)).subs = t.subs.take i.toNat ++ changeT F s p :: t.subs.drop (i.toNat + 1):=by rw [hch,withSubs_subs,set_split hlt]
  have hpay : (changeT F t (i :: p)).pay = t.pay:=by rw [hch];cases t;rfl
  have hl:=unfs_len e4
  refine ⟨?_,fun z => ?_⟩
  ·rw [unf_eq,hpay,hsub,hu'.1,hu'.2,e1]
   refine ⟨(unf_eq.1 h).1,unfs_app (a1.1 e4) ?_⟩
   rw [Unfs]
   exact ⟨ih.1,a2.1 e5⟩
  ·have hz:=ih.2 z
   have hlab : labs S' u (changeT F t (i :: p)) = u :: (labss S ((S.kids u).take i.toNat) (t.subs.take i.toNat) ++ (labs S' w (changeT F s p) ++ labss S ((S.kids u).drop (i.toNat + 1)) (t.subs.drop (i.toNat + 1)))):=by
    rw [labs_eq,hsub,hu'.1]
    conv => lhs;rw [e1]
    rw [labss_app hl,labss,a1.2,a2.2]
   rw [hlab,e6]
   simp only [List.count_cons,List.count_append]
   omega
end
end Bow
/- SP42: nodes taken out, put in, changed, seen by names. -/
namespace Bow
open Go
section
variable {α : Type}
theorem mem_labss {S : Gr α} {z : α} : ∀ {us : List α} {ss : List Tree},z ∈ labss S us ss → ∃ (i : Nat) (w : α) (s : Tree),us[i]? = some w ∧ ss[i]? = some s ∧ z ∈ labs S w s
 | [],[],h => by simp [labss] at h
 | [],_ :: _,h => by simp [labss] at h
 | _ :: _,[],h => by simp [labss] at h
 | u :: us,s :: ss,h => by
  rw [labss,List.mem_append] at h
  rcases h with h | h
  ·exact ⟨0,u,s,rfl,rfl,h⟩
  ·obtain ⟨i,w,s',h1,h2,h3⟩:=mem_labss h
   exact ⟨i + 1,w,s',by simpa using h1,by simpa using h2,h3⟩
theorem kidS_nat {S : Gr α} {u : α} (i : Nat) : kidS S u (i : Int) = (S.kids u)[i]?:=by
 unfold kidS
 rw [decide_eq_false (by omega)]
 rfl
theorem labs_res {S : Gr α} {z : α} (t : Tree) : ∀ u : α,Unf S u t → z ∈ labs S u t → ∃ p,res S u p = some z:=by
 induction t using Tree.ind with
 | _ t ih =>
 intro u h hz
 rw [labs_eq] at hz
 rcases List.mem_cons.1 hz with rfl | hz
 ·exact ⟨[],rfl⟩
 ·obtain ⟨i,w,s,h1,h2,h3⟩:=mem_labss hz
  obtain ⟨w',g1,g2⟩:=unfs_get (unf_eq.1 h).2 i s h2
  rw [h1] at g1
  injection g1 with g1
  subst g1
  obtain ⟨p,hp⟩:=ih s (List.mem_of_getElem? h2) w g2 h3
  exact ⟨(i : Int) :: p,by rw [res,kidS_nat,h1];exact hp⟩
theorem parent_one {S : Gr α} {r u v z : α} {t : Tree} {i j : Nat} (h : Unf S r t) (hn : (labs S r t).Nodup) (hz : z ∈ labs S r t) (hv : v ∈ labs S r t) (h1 : (S.kids z)[i]? = some u) (h2 : (S.kids v)[j]? = some u) : z = v ∧ i = j:=by
 obtain ⟨p,hp⟩:=labs_res t r h hz
 obtain ⟨q,hq⟩:=labs_res t r h hv
 have e1 : res S r (p ++ [(i : Int)]) = some u:=by rw [res_snoc,hp];exact (kidS_nat i).trans h1
 have e2 : res S r (q ++ [(j : Int)]) = some u:=by rw [res_snoc,hq];exact (kidS_nat j).trans h2
 have e:=List.append_inj' (res_inj _ _ h hn e1 e2) rfl
 have hij : (i : Int) = (j : Int):=by simpa using e.2
 have hpq:=e.1
 subst hpq
 rw [hp] at hq
 injection hq with hq
 exact ⟨hq,by omega⟩
theorem root_none {S : Gr α} {r z : α} {t : Tree} (h : Unf S r t) (hn : (labs S r t).Nodup) (hz : z ∈ labs S r t) : r ∉ S.kids z:=fun hm => by
 obtain ⟨i,hi⟩:=List.getElem?_of_mem hm
 obtain ⟨p,hp⟩:=labs_res t r h hz
 have e1 : res S r (p ++ [(i : Int)]) = some r:=by rw [res_snoc,hp];exact (kidS_nat i).trans hi
 have:=res_inj _ [] h hn e1 rfl
 simp at this
section
variable [DecidableEq α]
theorem res_count {S : Gr α} (z : α) : ∀ (p : List Int) {u v : α} {t y : Tree},Unf S u t → res S u p = some v → atT t p = some y → (labs S v y).count z ≤ (labs S u t).count z
 | [],u,v,t,y,_,h1,h2 => by
  rw [res] at h1
  rw [atT] at h2
  injection h1 with h1
  injection h2 with h2
  subst h1 h2
  exact Nat.le_refl _
 | i :: p,u,v,t,y,h,h1,h2 => by
  rw [res] at h1
  rw [atT] at h2
  rcases kid_sub h i with ⟨k1,_⟩ | ⟨w,s,k1,k2,k3⟩
  ·rw [k1] at h1;cases h1
  ·rw [k1] at h1
   rw [k2] at h2
   have:=res_count z p k3 h1 h2
   rw [(kid_split h k1 k2).2.2.2.2.2.2,List.count_cons,List.count_append,List.count_append]
   omega
theorem sub_nodup {S : Gr α} {p : List Int} {u v : α} {t y : Tree} (h : Unf S u t) (hn : (labs S u t).Nodup) (h1 : res S u p = some v) (h2 : atT t p = some y) : (labs S v y).Nodup:=by
 rw [List.nodup_iff_count] at hn ⊢
 exact fun z => Nat.le_trans (res_count z p h h1 h2) (hn z)
def rm (u : α) (l : List α) : List α:=l.filter fun x => decide (x ≠ u)
theorem rm_none {u : α} {l : List α} (h : u ∉ l) : rm u l = l:=by
 unfold rm
 rw [List.filter_eq_self]
 intro x hx
 exact decide_eq_true fun e => h (e ▸ hx)
theorem rm_app (u : α) (a b : List α) : rm u (a ++ b) = rm u a ++ rm u b:=List.filter_append ..
theorem rm_cons (u : α) (l : List α) : rm u (u :: l) = rm u l:=by
 unfold rm
 rw [List.filter_cons,if_neg (by simp)]
theorem rm_cons_ne {u x : α} (h : x ≠ u) (l : List α) : rm u (x :: l) = x :: rm u l:=by
 unfold rm
 rw [List.filter_cons,if_pos (by simpa using h)]
theorem rm_comm (u w : α) (l : List α) : rm u (rm w l) = rm w (rm u l):=by
 unfold rm
 rw [List.filter_filter,List.filter_filter]
 congr 1
 funext x
 exact Bool.and_comm _ _
def delS (S : Gr α) (u : α) : Gr α:=⟨fun z => rm u (S.kids z),S.pay⟩
theorem del_unf {S : Gr α} {r v u : α} {t y s : Tree} {q : List Int} {k : Int} (h : Unf S r t) (hn : (labs S r t).Nodup) (hv : res S r q = some v) (hy : atT t q = some y) (hk : kidS S v k = some u) (hs : subT y k = some s) :
  Unf (delS S u) r (changeT (delT k) t q) ∧ (∀ z,(labs (delS S u) r (changeT (delT k) t q)).count z + (labs S u s).count z = (labs S r t).count z):=by
 have hvy : Unf S v y:=by
  rcases res_at q h with ⟨k1,_⟩ | ⟨v',y',k1,k2,k3⟩
  ·rw [hv] at k1;cases k1
  ·rw [hv] at k1
   rw [hy] at k2
   injection k1 with k1
   injection k2 with k2
   subst k1 k2
   exact k3
 have hvm:=res_self h hv
 obtain ⟨e0,e1,e2,e3,e4,e5,e6⟩:=kid_split hvy hk hs
 have hku : (S.kids v)[k.toNat]? = some u:=by
  unfold kidS at hk
  rwa [decide_eq_false (by omega)] at hk
 have hsub:=sub_nodup h hn hv hy
 have agree : ∀ z ∈ labs S r t,z ≠ v → (delS S u).kids z = S.kids z ∧ (delS S u).pay z = S.pay z:=fun z hz hzv => by
  refine ⟨rm_none fun hm => ?_,rfl⟩
  obtain ⟨i,hi⟩:=List.getElem?_of_mem hm
  exact hzv (parent_one h hn hz hvm hi hku).1
 have nA : u ∉ (S.kids v).take k.toNat:=fun hm => by
  obtain ⟨i,hi⟩:=List.getElem?_of_mem hm
  have hi':=hi
  rw [List.getElem?_take] at hi'
  split at hi'
  ·have:=(parent_one h hn hvm hvm hi' hku).2
   omega
  ·cases hi'
 have nB : u ∉ (S.kids v).drop (k.toNat + 1):=fun hm => by
  obtain ⟨i,hi⟩:=List.getElem?_of_mem hm
  rw [List.getElem?_drop] at hi
  have:=(parent_one h hn hvm hvm hi hku).2
  omega
 have hkids : (delS S u).kids v = (S.kids v).take k.toNat ++ (S.kids v).drop (k.toNat + 1):=by
  show rm u (S.kids v) = _
  conv => lhs;rw [e1]
  rw [rm_app,rm_cons,rm_none nA,rm_none nB]
 rw [e6] at hsub
 obtain ⟨n1,n2⟩:=List.nodup_cons.1 hsub
 have inl : ∀ z,z ∈ labs S v y → z ∈ labs S r t:=fun z hz => res_mem q h hv hy z hz
 have a1:=unfs_agree (S:=S) (S':=delS S u) ((S.kids v).take k.toNat) (y.subs.take k.toNat) fun z hz => agree z (inl z (by rw [e6];exact List.mem_cons_of_mem _ (List.mem_append_left _ hz))) fun e => n1 (List.mem_append_left _ (e ▸ hz))
 have a2:=unfs_agree (S:=S) (S':=delS S u) ((S.kids v).drop (k.toNat + 1)) (y.subs.drop (k.toNat + 1)) fun z hz => agree z (inl z (by rw [e6];exact List.mem_cons_of_mem _ (List.mem_append_right _ (List.mem_append_right _ hz)))) fun e => n1 (List.mem_append_right _ (List.mem_append_right _ (e ▸ hz)))
 have hsubs : (delT k y).subs = y.subs.take k.toNat ++ y.subs.drop (k.toNat + 1):=by unfold delT;rw [withSubs_subs]
 have hpay : (delT k y).pay = y.pay:=by unfold delT;cases y;rfl
 have hl:=unfs_len e4
 have hF : Unf (delS S u) v (delT k y):=by
  rw [unf_eq,hkids,hsubs,hpay]
  exact ⟨(unf_eq.1 hvy).1,unfs_app (a1.1 e4) (a2.1 e5)⟩
 have c:=change_unf (S':=delS S u) (F:=delT k) hF q r t h hn hv hy agree
 refine ⟨c.1,fun z => ?_⟩
 have hz:=c.2 z
 have hlab : labs (delS S u) v (delT k y) = v :: (labss S ((S.kids v).take k.toNat) (y.subs.take k.toNat) ++ labss S ((S.kids v).drop (k.toNat + 1)) (y.subs.drop (k.toNat + 1))):=by
  rw [labs_eq,hkids,hsubs,labss_app hl,a1.2,a2.2]
 rw [hlab,e6] at hz
 simp only [List.count_cons,List.count_append] at hz ⊢
 omega
theorem ins_unf {S S' : Gr α} {r v x : α} {t y X : Tree} {p : List Int} {g : Int} (h : Unf S r t) (hn : (labs S r t).Nodup) (hv : res S r p = some v) (hy : atT t p = some y) (hk : S'.kids v = (S.kids v).take g.toNat ++ x :: (S.kids v).drop g.toNat) (hp : S'.pay v = S.pay v)
  (ha : ∀ z ∈ labs S r t,z ≠ v → S'.kids z = S.kids z ∧ S'.pay z = S.pay z) (hx : Unf S' x X) :
  Unf S' r (changeT (insT g X) t p) ∧ (∀ z,(labs S' r (changeT (insT g X) t p)).count z = (labs S r t).count z + (labs S' x X).count z):=by
 have hvy : Unf S v y:=by
  rcases res_at p h with ⟨k1,_⟩ | ⟨v',y',k1,k2,k3⟩
  ·rw [hv] at k1;cases k1
  ·rw [hv] at k1
   rw [hy] at k2
   injection k1 with k1
   injection k2 with k2
   subst k1 k2
   exact k3
 have hsub:=sub_nodup h hn hv hy
 have hh:=unf_eq.1 hvy
 have k1:=unfs_split g.toNat hh.2
 rw [labs_eq] at hsub
 obtain ⟨n1,_⟩:=List.nodup_cons.1 hsub
 have hl:=unfs_len k1.1
 have hlab0 : labss S (S.kids v) y.subs = labss S ((S.kids v).take g.toNat) (y.subs.take g.toNat) ++ labss S ((S.kids v).drop g.toNat) (y.subs.drop g.toNat):=by
  conv => lhs;rw [← List.take_append_drop g.toNat (S.kids v),← List.take_append_drop g.toNat y.subs]
  exact labss_app hl
 have inl : ∀ z,z ∈ labss S (S.kids v) y.subs → z ∈ labs S r t:=fun z hz => res_mem p h hv hy z (by rw [labs_eq];exact List.mem_cons_of_mem _ hz)
 have a1:=unfs_agree (S:=S) (S':=S') ((S.kids v).take g.toNat) (y.subs.take g.toNat) fun z hz => ha z (inl z (by rw [hlab0];exact List.mem_append_left _ hz)) fun e => n1 (by rw [hlab0];exact List.mem_append_left _ (e ▸ hz))
 have a2:=unfs_agree (S:=S) (S':=S') ((S.kids v).drop g.toNat) (y.subs.drop g.toNat) fun z hz => ha z (inl z (by rw [hlab0];exact List.mem_append_right _ hz)) fun e => n1 (by rw [hlab0];exact List.mem_append_right _ (e ▸ hz))
 have hsubs : (insT g X y).subs = y.subs.take g.toNat ++ X :: y.subs.drop g.toNat:=by unfold insT;rw [withSubs_subs]
 have hpay : (insT g X y).pay = y.pay:=by unfold insT;cases y;rfl
 have hF : Unf S' v (insT g X y):=by
  rw [unf_eq,hk,hsubs,hpay,hp]
  refine ⟨hh.1,unfs_app (a1.1 k1.1) ?_⟩
  rw [Unfs]
  exact ⟨hx,a2.1 k1.2⟩
 have c:=change_unf (S':=S') (F:=insT g X) hF p r t h hn hv hy ha
 refine ⟨c.1,fun z => ?_⟩
 have hz:=c.2 z
 have hlab : labs S' v (insT g X y) = v :: (labss S ((S.kids v).take g.toNat) (y.subs.take g.toNat) ++ (labs S' x X ++ labss S ((S.kids v).drop g.toNat) (y.subs.drop g.toNat))):=by
  rw [labs_eq,hk,hsubs,labss_app hl,labss,a1.2,a2.2]
 have hlab1 : labs S v y = v :: (labss S ((S.kids v).take g.toNat) (y.subs.take g.toNat) ++ labss S ((S.kids v).drop g.toNat) (y.subs.drop g.toNat)):=by rw [labs_eq,hlab0]
 rw [hlab,hlab1] at hz
 simp only [List.count_cons,List.count_append] at hz ⊢
 omega
theorem pay_unf {S S' : Gr α} {r v : α} {t y : Tree} {p : List Int} {F : Tree → Tree} (h : Unf S r t) (hn : (labs S r t).Nodup) (hv : res S r p = some v) (hy : atT t p = some y) (hk : ∀ z ∈ labs S r t,S'.kids z = S.kids z) (hp : ∀ z ∈ labs S r t,z ≠ v → S'.pay z = S.pay z)
  (hF : (F y).subs = y.subs) (hF2 : S'.pay v = (F y).pay) : Unf S' r (changeT F t p) ∧ (∀ z,(labs S' r (changeT F t p)).count z = (labs S r t).count z):=by
 have hvy : Unf S v y:=by
  rcases res_at p h with ⟨k1,_⟩ | ⟨v',y',k1,k2,k3⟩
  ·rw [hv] at k1;cases k1
  ·rw [hv] at k1
   rw [hy] at k2
   injection k1 with k1
   injection k2 with k2
   subst k1 k2
   exact k3
 have hvm:=res_self h hv
 have hsub:=sub_nodup h hn hv hy
 rw [labs_eq] at hsub
 obtain ⟨n1,_⟩:=List.nodup_cons.1 hsub
 have a:=unfs_agree (S:=S) (S':=S') (S.kids v) y.subs fun z hz => by
  have hzm : z ∈ labs S r t:=res_mem p h hv hy z (by rw [labs_eq];exact List.mem_cons_of_mem _ hz)
  exact ⟨hk z hzm,hp z hzm fun e => n1 (e ▸ hz)⟩
 have hU : Unf S' v (F y):=by
  rw [unf_eq,hF2,hk v hvm,hF]
  exact ⟨rfl,a.1 (unf_eq.1 hvy).2⟩
 have c:=change_unf (S':=S') (F:=F) hU p r t h hn hv hy fun z hz hzv => ⟨hk z hz,hp z hz hzv⟩
 refine ⟨c.1,fun z => ?_⟩
 have hz:=c.2 z
 have e : labs S' v (F y) = labs S v y:=by rw [labs_eq,labs_eq,hk v hvm,hF,a.2]
 rw [e] at hz
 omega
end
end
end Bow
/- SP43: what an operation does to the lists of children, by names; where a child stands then. -/
namespace Bow
open Go
theorem take_pre {β : Type} {l : List β} {i g : Nat} (h : i ≤ g) : l.take g = l.take i ++ (l.take g).drop i:=by
 conv => lhs;rw [← List.take_append_drop i (l.take g)]
 rw [List.take_take,Nat.min_eq_left h]
theorem drop_pre {β : Type} {l : List β} {i g : Nat} (h : i ≤ g) : l.drop i = (l.take g).drop i ++ l.drop g:=by
 conv => lhs;rw [← List.take_append_drop g l]
 by_cases hg : g ≤ l.length
 ·rw [List.drop_append_of_le_length (by rw [List.length_take];omega)]
 ·rw [List.drop_eq_nil_of_le (show l.length ≤ g by omega),List.append_nil,List.append_nil]
theorem get_mid {β : Type} {a b : List β} {w : β} {n : Nat} (h : a.length = n) : (a ++ w :: b)[n]? = some w:=by
 subst h
 rw [List.getElem?_append_right (Nat.le_refl _),Nat.sub_self]
 rfl
section
variable {α : Type} [DecidableEq α]
def rmo : Option α → List α → List α
 | none,l => l
 | some u,l => rm u l
theorem rm_mem {u x : α} {l : List α} : x ∈ rm u l ↔ x ∈ l ∧ x ≠ u:=by
 unfold rm
 rw [List.mem_filter]
 simp
theorem rmo_mem {o : Option α} {x : α} {l : List α} (h : x ∈ rmo o l) : x ∈ l:=by
 cases o with
 | none => exact h
 | some u => exact (rm_mem.1 h).1
theorem rmo_app (o : Option α) (a b : List α) : rmo o (a ++ b) = rmo o a ++ rmo o b:=by
 cases o with
 | none => rfl
 | some u => exact rm_app u a b
theorem rmo_cons {o : Option α} {x : α} (h : o ≠ some x) (l : List α) : rmo o (x :: l) = x :: rmo o l:=by
 cases o with
 | none => rfl
 | some u => exact rm_cons_ne (fun e => h (congrArg some e.symm)) l
theorem rmo_self (u : α) (l : List α) : rmo (some u) (u :: l) = rmo (some u) l:=rm_cons u l
theorem rmo_comm (o o' : Option α) (l : List α) : rmo o (rmo o' l) = rmo o' (rmo o l):=by
 cases o <;> cases o' <;> first | rfl | exact rm_comm _ _ _
theorem rmo_twice (o : Option α) (l : List α) : rmo o (rmo o l) = rmo o l:=by
 cases o with
 | none => rfl
 | some u => exact rm_none fun h => (rm_mem.1 h).2 rfl
def putL (o : Option α) (g : Nat) (x : α) (l : List α) : List α:=rmo o (l.take g) ++ x :: rmo o (l.drop g)
theorem len_out {l : List α} {u : α} {j : Nat} (hn : l.Nodup) (hj : l[j]? = some u) {g : Nat} (hg : g ≤ l.length) : (rm u (l.take g)).length = if j < g then g - 1 else g:=by
 have e:=split_get hj
 have hjl:=(List.getElem?_eq_some_iff.1 hj).1
 have hn':=hn
 rw [e] at hn'
 obtain ⟨n1,n2,n3⟩:=List.nodup_append.1 hn'
 have hA : u ∉ l.take j:=fun h => n3 u h u (by simp) rfl
 have hB : u ∉ l.drop (j + 1):=(List.nodup_cons.1 n2).1
 split
 ·rename_i h
  have e2 : l.take g = l.take j ++ u :: (l.drop (j + 1)).take (g - (j + 1)):=by
   conv => lhs;rw [e]
   rw [List.take_append,List.take_of_length_le (by rw [List.length_take];omega),List.length_take,Nat.min_eq_left (by omega),show g - j = (g - (j + 1)) + 1 by omega,List.take_succ_cons]
  rw [e2,rm_app,rm_cons,rm_none hA,rm_none fun h => hB (List.mem_of_mem_take h),List.length_append,List.length_take,List.length_take,List.length_drop]
  omega
 ·rename_i h
  rw [rm_none fun hm => hA (by
   rw [take_pre (l:=l) (show g ≤ j by omega)]
   exact List.mem_append_left _ hm),List.length_take,Nat.min_eq_left hg]
theorem len_none {l : List α} {u : α} (h : u ∉ l) {g : Nat} (hg : g ≤ l.length) : (rm u (l.take g)).length = g:=by
 rw [rm_none fun hm => h (List.mem_of_mem_take hm),List.length_take,Nat.min_eq_left hg]
theorem get_out {o : Option α} {l : List α} {k : Nat} {w : α} (hk : l[k]? = some w) (hw : o ≠ some w) : (rmo o l)[(rmo o (l.take k)).length]? = some w:=by
 have e:=split_get hk
 have e2 : rmo o l = rmo o (l.take k) ++ w :: rmo o (l.drop (k + 1)):=by
  conv => lhs;rw [e]
  rw [rmo_app,rmo_cons hw]
 rw [e2]
 exact get_mid rfl
theorem get_ins {o : Option α} {l : List α} {k g : Nat} {w x : α} (hk : l[k]? = some w) (hw : o ≠ some w) : (putL o g x l)[(rmo o (l.take k)).length + (if g ≤ k then 1 else 0)]? = some w:=by
 have e:=split_get hk
 have hkl:=(List.getElem?_eq_some_iff.1 hk).1
 unfold putL
 split
 ·rename_i h
  have e1 : l.drop g = (l.take k).drop g ++ w :: l.drop (k + 1):=by
   rw [drop_pre h,List.drop_eq_getElem_cons hkl]
   have:=(List.getElem?_eq_some_iff.1 hk).2
   rw [this]
  have e3 : rmo o (l.take k) = rmo o (l.take g) ++ rmo o ((l.take k).drop g):=by
   conv => lhs;rw [take_pre h]
   rw [rmo_app]
  rw [e1,rmo_app,rmo_cons hw,e3]
  rw [show rmo o (l.take g) ++ x :: (rmo o ((l.take k).drop g) ++ w :: rmo o (l.drop (k + 1))) = (rmo o (l.take g) ++ x :: rmo o ((l.take k).drop g)) ++ w :: rmo o (l.drop (k + 1)) by simp]
  exact get_mid (by simp;omega)
 ·rename_i h
  have h : k + 1 ≤ g:=by omega
  have e1 : l.take g = l.take k ++ w :: (l.take g).drop (k + 1):=by
   have hkl2 : k < (l.take g).length:=by rw [List.length_take];omega
   have e4:=List.drop_eq_getElem_cons hkl2
   rw [List.getElem_take,(List.getElem?_eq_some_iff.1 hk).2] at e4
   rw [← e4]
   exact take_pre (by omega)
  rw [e1,rmo_app,rmo_cons hw,List.append_assoc,List.cons_append]
  exact get_mid rfl
theorem get_new {o : Option α} {l : List α} {g : Nat} {x : α} : (putL o g x l)[(rmo o (l.take g)).length]? = some x:=get_mid rfl
end
end Bow
/- SP44: two changes of the lists of children, one behind the other, and the other way round. -/
namespace Bow
open Go
theorem gr_ext {α : Type} {S S' : Gr α} (h : ∀ z,S.kids z = S'.kids z) (k : ∀ z,S.pay z = S'.pay z) : S = S':=by
 cases S
 cases S'
 congr
 ·exact funext h
 ·exact funext k
section
variable {α : Type} [DecidableEq α]
theorem take_mid {β : Type} {a b : List β} {n : Nat} (h : a.length = n) : (a ++ b).take n = a ∧ (a ++ b).drop n = b:=by
 subst h
 exact ⟨List.take_left,List.drop_left⟩
theorem cut_out (o : Option α) (g : Nat) (l : List α) : (rmo o l).take (rmo o (l.take g)).length = rmo o (l.take g) ∧ (rmo o l).drop (rmo o (l.take g)).length = rmo o (l.drop g):=by
 have e : rmo o l = rmo o (l.take g) ++ rmo o (l.drop g):=by rw [← rmo_app,List.take_append_drop]
 have:=take_mid (a:=rmo o (l.take g)) (b:=rmo o (l.drop g)) rfl
 rw [← e] at this
 exact this
theorem cut_left {o : Option α} {b g : Nat} {x : α} {l : List α} (h : b ≤ g) : (putL o g x l).take (rmo o (l.take b)).length = rmo o (l.take b) ∧ (putL o g x l).drop (rmo o (l.take b)).length = rmo o ((l.take g).drop b) ++ x :: rmo o (l.drop g):=by
 have e : putL o g x l = rmo o (l.take b) ++ (rmo o ((l.take g).drop b) ++ x :: rmo o (l.drop g)):=by
  unfold putL
  conv => lhs;rw [take_pre h]
  rw [rmo_app,List.append_assoc]
 rw [e]
 exact take_mid rfl
theorem cut_right {o : Option α} {b g : Nat} {x : α} {l : List α} (h : g ≤ b) : (putL o g x l).take ((rmo o (l.take b)).length + 1) = rmo o (l.take g) ++ x :: rmo o ((l.take b).drop g) ∧ (putL o g x l).drop ((rmo o (l.take b)).length + 1) = rmo o (l.drop b):=by
 have e : putL o g x l = (rmo o (l.take g) ++ x :: rmo o ((l.take b).drop g)) ++ rmo o (l.drop b):=by
  unfold putL
  rw [drop_pre (l:=l) h,rmo_app,List.append_assoc,List.cons_append]
 have e2 : rmo o (l.take b) = rmo o (l.take g) ++ rmo o ((l.take b).drop g):=by
  conv => lhs;rw [take_pre h]
  rw [rmo_app]
 rw [e]
 exact take_mid (by rw [e2];simp;omega)
def after (g ga : Nat) (first : Bool) : Nat:=if ga < g ∨ (ga = g ∧ first = false) then 1 else 0
theorem put_out {o o' : Option α} {g : Nat} {x : α} {l : List α} (h : o' ≠ some x) : rmo o' (putL o g x l) = putL o (rmo o' (l.take g)).length x (rmo o' l):=by
 have c:=cut_out o' g l
 unfold putL
 rw [c.1,c.2,rmo_app,rmo_cons h,rmo_comm o' o,rmo_comm o' o]
theorem put_left {o o' : Option α} {b g : Nat} {x y : α} {l : List α} (h : b ≤ g) (hx : o' ≠ some x) (hy : o ≠ some y) :
  putL o' (rmo o (l.take b)).length y (putL o g x l) = putL o ((rmo o' (l.take g)).length + 1) x (putL o' b y l):=by
 have c1:=cut_left (o:=o) (x:=x) (l:=l) h
 have c2:=cut_right (o:=o') (x:=y) (l:=l) h
 conv => lhs;unfold putL
 conv => rhs;unfold putL
 rw [show rmo o (l.take g) ++ x :: rmo o (l.drop g) = putL o g x l from rfl,show rmo o' (l.take b) ++ y :: rmo o' (l.drop b) = putL o' b y l from rfl]
 rw [c1.1,c1.2,c2.1,c2.2,rmo_app,rmo_app,rmo_cons hx,rmo_cons hy,rmo_comm o',rmo_comm o',rmo_comm o']
 simp
theorem put_put {o o' : Option α} {b g : Nat} {x y : α} {l : List α} (prior : Bool) (hx : o' ≠ some x) (hy : o ≠ some y) :
  putL o' ((rmo o (l.take b)).length + after b g prior) y (putL o g x l) = putL o ((rmo o' (l.take g)).length + after g b (!prior)) x (putL o' b y l):=by
 unfold after
 rcases Nat.lt_trichotomy b g with h | h | h
 ·rw [if_neg (by omega),if_pos (by omega)]
  exact put_left (Nat.le_of_lt h) hx hy
 ·subst h
  cases prior
  ·rw [if_pos (by simp),if_neg (by simp)]
   exact (put_left (Nat.le_refl _) hy hx).symm
  ·rw [if_neg (by simp),if_pos (by simp)]
   exact put_left (Nat.le_refl _) hx hy
 ·rw [if_pos (by omega),if_neg (by omega)]
  exact (put_left (Nat.le_of_lt h) hy hx).symm
theorem put_again {u : α} {b g : Nat} {l : List α} (first : Bool) : putL (some u) ((rmo (some u) (l.take b)).length + after b g first) u (putL (some u) g u l) = putL (some u) b u l:=by
 have key : ∀ n,((putL (some u) g u l).take n = rmo (some u) (l.take b) ∧ (putL (some u) g u l).drop n = rmo (some u) ((l.take g).drop b) ++ u :: rmo (some u) (l.drop g) ∧ b ≤ g) ∨ ((putL (some u) g u l).take n = rmo (some u) (l.take g) ++ u :: rmo (some u) ((l.take b).drop g) ∧ (putL (some u) g u l).drop n = rmo (some u) (l.drop b) ∧ g ≤ b) → putL (some u) n u (putL (some u) g u l) = putL (some u) b u l:=by
  intro n h
  conv => lhs;unfold putL
  rw [show rmo (some u) (l.take g) ++ u :: rmo (some u) (l.drop g) = putL (some u) g u l from rfl]
  rcases h with ⟨h1,h2,h3⟩ | ⟨h1,h2,h3⟩
  ·rw [h1,h2,rmo_app,rmo_self,rmo_twice,rmo_twice,rmo_twice,← rmo_app,← drop_pre h3]
   rfl
  ·rw [h1,h2,rmo_app,rmo_self,rmo_twice,rmo_twice,rmo_twice,← rmo_app,← take_pre h3]
   rfl
 unfold after
 rcases Nat.lt_trichotomy b g with h | h | h
 ·rw [if_neg (by omega)]
  have c:=cut_left (o:=some u) (x:=u) (l:=l) (Nat.le_of_lt h)
  exact key _ (.inl ⟨c.1,c.2,Nat.le_of_lt h⟩)
 ·subst h
  cases first
  ·rw [if_pos (by simp)]
   have c:=cut_right (o:=some u) (x:=u) (l:=l) (Nat.le_refl b)
   exact key _ (.inr ⟨c.1,c.2,Nat.le_refl _⟩)
  ·rw [if_neg (by simp)]
   have c:=cut_left (o:=some u) (x:=u) (l:=l) (Nat.le_refl b)
   exact key _ (.inl ⟨c.1,c.2,Nat.le_refl _⟩)
 ·rw [if_pos (by omega)]
  have c:=cut_right (o:=some u) (x:=u) (l:=l) (Nat.le_of_lt h)
  exact key _ (.inr ⟨c.1,c.2,Nat.le_of_lt h⟩)
structure Eff (α : Type) where
 out : Option α
 into : Option (α × Nat × α)
def Eff.kids (e : Eff α) (z : α) (l : List α) : List α :=
 match e.into with
 | some (v,g,x) => if z = v then putL e.out g x l else rmo e.out l
 | none => rmo e.out l
def Eff.on (e : Eff α) (S : Gr α) : Gr α:=⟨fun z => e.kids z (S.kids z),S.pay⟩
def Eff.gap (e : Eff α) (S : Gr α) (z : α) (g : Nat) (first : Bool) : Nat :=
 (rmo e.out ((S.kids z).take g)).length + match e.into with
  | some (v,ga,_) => if z = v then after g ga first else 0
  | none => 0
def Eff.behind (b a : Eff α) (S : Gr α) (first : Bool) : Eff α:=⟨b.out,match b.into with
 | some (v,g,x) => some (v,a.gap S v g first,x)
 | none => none⟩
theorem eff_square (S : Gr α) (a b : Eff α) (prior : Bool) (h1 : ∀ v g x,b.into = some (v,g,x) → a.out ≠ some x) (h2 : ∀ v g x,a.into = some (v,g,x) → b.out ≠ some x) :
  (b.behind a S prior).on (a.on S) = (a.behind b S (!prior)).on (b.on S):=by
 refine gr_ext (fun z => ?_) fun _ => rfl
 obtain ⟨oa,ia⟩:=a
 obtain ⟨ob,ib⟩:=b
 simp only [Eff.on,Eff.behind,Eff.kids,Eff.gap]
 cases ia with
 | none =>
  cases ib with
  | none => exact rmo_comm _ _ _
  | some p =>
   obtain ⟨v,g,x⟩:=p
   have h:=h1 v g x rfl
   by_cases hz : z = v
   ·subst hz
    simp only [if_pos]
    exact (put_out h).symm
   ·simp only [if_neg hz]
    exact rmo_comm _ _ _
 | some q =>
  obtain ⟨w,ga,y⟩:=q
  have k:=h2 w ga y rfl
  cases ib with
  | none =>
   by_cases hz : z = w
   ·subst hz
    simp only [if_pos]
    exact put_out k
   ·simp only [if_neg hz]
    exact rmo_comm _ _ _
  | some p =>
   obtain ⟨v,g,x⟩:=p
   have h:=h1 v g x rfl
   by_cases hw : z = w <;> by_cases hv : z = v
   ·subst hw
    subst hv
    simp only [if_pos]
    exact put_put prior k h
   ·subst hw
    simp only [if_pos,if_neg hv]
    exact put_out k
   ·subst hv
    simp only [if_pos,if_neg hw]
    exact (put_out h).symm
   ·simp only [if_neg hw,if_neg hv]
    exact rmo_comm _ _ _
end
end Bow
/- SP45: where nodes and gaps are behind an operation: the same names. -/
namespace Bow
open Go
section
variable {α : Type} [DecidableEq α]
inductive Act (S : Gr α) (r x0 : α) (o : OpT) : Eff α → Prop
 | ins (v : α) (hk : o.kind = 1) (hv : res S r o.path = some v) (h0 : 0 ≤ o.at_) (hg : o.at_.toNat ≤ (S.kids v).length) : Act S r x0 o ⟨none,some (v,o.at_.toNat,x0)⟩
 | del (u : α) (hk : o.kind = 2) (hne : o.path ≠ []) (hu : res S r o.path = some u) : Act S r x0 o ⟨some u,none⟩
 | mov (u v : α) (hk : o.kind = 3) (hne : o.path ≠ []) (hw : within o.path o.to = false) (hu : res S r o.path = some u) (hv : res S r o.to = some v) (h0 : 0 ≤ o.at_) (hg : o.at_.toNat ≤ (S.kids v).length) : Act S r x0 o ⟨some u,some (v,o.at_.toNat,u)⟩
omit [DecidableEq α] in
theorem kidS_some {S : Gr α} {z w : α} {k : Int} (h : kidS S z k = some w) : 0 ≤ k ∧ (S.kids z)[k.toNat]? = some w:=by
 unfold kidS at h
 by_cases hk : k < 0
 ·rw [decide_eq_true hk] at h
  cases h
 ·rw [decide_eq_false hk] at h
  exact ⟨by omega,h⟩
omit [DecidableEq α] in
theorem res_last {S : Gr α} {r u : α} {p : List Int} (hne : p ≠ []) (h : res S r p = some u) : ∃ f,res S r p.dropLast = some f ∧ 0 ≤ lastP p ∧ (S.kids f)[(lastP p).toNat]? = some u:=by
 rw [← snoc_last hne,res_snoc] at h
 cases hf : res S r p.dropLast with
 | none => rw [hf] at h;cases h
 | some f =>
  rw [hf] at h
  exact ⟨f,rfl,kidS_some h⟩
theorem len_frm {S : Gr α} {r u z : α} {t : Tree} {path q : List Int} {g : Nat} (h : Unf S r t) (hn : (labs S r t).Nodup) (hne : path ≠ []) (hu : res S r path = some u) (hq : res S r q = some z) (hg : g ≤ (S.kids z).length) :
  ((rm u ((S.kids z).take g)).length : Int) = bif decide (q = path.dropLast) && decide (lastP path < (g : Int)) then (g : Int) - 1 else g:=by
 obtain ⟨f,hf,hl,hj⟩:=res_last hne hu
 by_cases e : q = path.dropLast
 ·subst e
  rw [hf] at hq
  injection hq with hq
  subst hq
  have hkn : (S.kids f).Nodup:=by
   rw [List.nodup_iff_pairwise_ne,List.pairwise_iff_getElem]
   intro i j hi hjl hij he
   have hx:=List.getElem?_eq_getElem hjl
   have hy : (S.kids f)[i]? = some (S.kids f)[j]:=by rw [← he,List.getElem?_eq_getElem hi]
   have:=(parent_one h hn (res_self h hf) (res_self h hf) hy hx).2
   omega
  rw [len_out hkn hj hg,decide_eq_true rfl,Bool.true_and]
  by_cases hlt : (lastP path).toNat < g
  ·rw [if_pos hlt,decide_eq_true (by omega)]
   simp only [cond_true]
   omega
  ·rw [if_neg hlt,decide_eq_false (by omega)]
   rfl
 ·have hni : u ∉ S.kids z:=fun hm => by
   obtain ⟨i,hi⟩:=List.getElem?_of_mem hm
   have:=(parent_one h hn (res_self h hq) (res_self h hf) hi hj).1
   subst this
   exact e (res_inj _ _ h hn hq hf)
  rw [len_none hni hg,decide_eq_false e]
  rfl
theorem kid_step {S : Gr α} {r x0 z w : α} {t : Tree} {o : OpT} {e : Eff α} {q : List Int} {k : Int} (h : Unf S r t) (hn : (labs S r t).Nodup) (A : Act S r x0 o e) (hq : res S r q = some z) (hk : kidS S z k = some w) (hw : e.out ≠ some w) :
  ∃ k',childR o q k = some k' ∧ kidS (e.on S) z k' = some w:=by
 obtain ⟨k0,hK⟩:=kidS_some hk
 have hkl:=(List.getElem?_eq_some_iff.1 hK).1
 unfold childR
 cases A with
 | ins v hk1 hv h0 hg =>
  rw [decide_eq_true hk1,cond_true]
  refine ⟨_,rfl,?_⟩
  by_cases e : q = o.path
  ·subst e
   rw [hv] at hq
   injection hq with hq
   subst hq
   have hi:=get_ins (o:=none) (g:=o.at_.toNat) (x:=x0) hK (by simp)
   have hks : (Eff.on ⟨none,some (v,o.at_.toNat,x0)⟩ S).kids v = putL none o.at_.toNat x0 (S.kids v):=if_pos rfl
   rw [decide_eq_true rfl,Bool.true_and]
   have hlen : (rmo none ((S.kids v).take k.toNat)).length = k.toNat:=by show ((S.kids v).take k.toNat).length = _;rw [List.length_take];omega
   rw [hlen,← hks] at hi
   by_cases e2 : o.at_ ≤ k
   ·rw [decide_eq_true e2,cond_true]
    rw [if_pos (by omega)] at hi
    rw [show k + 1 = ((k.toNat + 1 : Nat) : Int) by omega,kidS_nat]
    exact hi
   ·rw [decide_eq_false e2,cond_false]
    rw [if_neg (by omega)] at hi
    rw [show k = ((k.toNat : Nat) : Int) by omega,kidS_nat]
    exact hi
  ·have hz : z ≠ v:=fun c => by
    subst c
    exact e (res_inj _ _ h hn hq hv)
   rw [decide_eq_false e,Bool.false_and,cond_false]
   have hks : (Eff.on ⟨none,some (v,o.at_.toNat,x0)⟩ S).kids z = S.kids z:=if_neg hz
   rw [show k = ((k.toNat : Nat) : Int) by omega,kidS_nat,hks]
   exact hK
 | del u hk1 hne hu =>
  obtain ⟨f,hf,hl,hj⟩:=res_last hne hu
  have hnk : ¬ (q = o.path.dropLast ∧ k = lastP o.path):=fun ⟨c1,c2⟩ => by
   subst c1
   subst c2
   rw [hf] at hq
   injection hq with hq
   subst hq
   rw [hj] at hK
   injection hK with hK
   exact hw (congrArg some hK)
  have hlen:=len_frm (g:=k.toNat) h hn hne hu hq (by omega)
  have hg:=get_out (o:=some u) hK hw
  rw [decide_eq_false (show ¬ o.kind = 1 by omega),cond_false,show (decide (q = o.path.dropLast) && decide (k = lastP o.path)) = false by rw [← Bool.decide_and];exact decide_eq_false hnk,cond_false,decide_eq_false (show ¬ o.kind = 3 by omega),Bool.false_and,cond_false]
  refine ⟨_,rfl,?_⟩
  rw [show ((k.toNat : Nat) : Int) = k by omega] at hlen
  rw [← hlen,Int.add_zero,kidS_nat]
  exact hg
 | mov u v hk1 hne hww hu hv h0 hgl =>
  obtain ⟨f,hf,hl,hj⟩:=res_last hne hu
  have hnk : ¬ (q = o.path.dropLast ∧ k = lastP o.path):=fun ⟨c1,c2⟩ => by
   subst c1
   subst c2
   rw [hf] at hq
   injection hq with hq
   subst hq
   rw [hj] at hK
   injection hK with hK
   exact hw (congrArg some hK)
  have hlen:=len_frm (g:=k.toNat) h hn hne hu hq (by omega)
  rw [decide_eq_false (show ¬ o.kind = 1 by omega),cond_false,show (decide (q = o.path.dropLast) && decide (k = lastP o.path)) = false by rw [← Bool.decide_and];exact decide_eq_false hnk,cond_false,decide_eq_true hk1,Bool.true_and]
  refine ⟨_,rfl,?_⟩
  rw [show ((k.toNat : Nat) : Int) = k by omega] at hlen
  rw [← hlen]
  by_cases e : q = o.to
  ·subst e
   rw [hv] at hq
   injection hq with hq
   subst hq
   have hi:=get_ins (o:=some u) (g:=o.at_.toNat) (x:=u) hK hw
   have hks : (Eff.on ⟨some u,some (v,o.at_.toNat,u)⟩ S).kids v = putL (some u) o.at_.toNat u (S.kids v):=if_pos rfl
   rw [decide_eq_true rfl,Bool.true_and]
   rw [← hks] at hi
   by_cases e2 : o.at_ ≤ k
   ·rw [decide_eq_true e2,cond_true]
    rw [if_pos (by omega)] at hi
    exact (kidS_nat (S:=Eff.on ⟨some u,some (v,o.at_.toNat,u)⟩ S) _).trans hi
   ·rw [decide_eq_false e2,cond_false,Int.add_zero]
    rw [if_neg (by omega)] at hi
    exact (kidS_nat _).trans hi
  ·have hz : z ≠ v:=fun c => by
    subst c
    exact e (res_inj _ _ h hn hq hv)
   rw [decide_eq_false e,Bool.false_and,cond_false,Int.add_zero]
   have hks : (Eff.on ⟨some u,some (v,o.at_.toNat,u)⟩ S).kids z = rmo (some u) (S.kids z):=if_neg hz
   have hg:=get_out (o:=some u) hK hw
   rw [kidS_nat,hks]
   exact hg
end
end Bow
/- SP46: nodes' paths and gaps behind an operation lead to the same names. -/
namespace Bow
open Go
section
variable {α : Type} [DecidableEq α]
omit [DecidableEq α] in
theorem within_split {p q : List Int} (h : within p q = true) : ∃ s,q = p ++ s:=by
 unfold within at h
 have:=of_decide_eq_true h
 exact ⟨q.drop p.length,by conv => lhs;rw [← List.take_append_drop p.length q,← this]⟩
omit [DecidableEq α] in
theorem within_app (p s : List Int) : within p (p ++ s) = true:=by
 unfold within
 simp
theorem node_step {S : Gr α} {r x0 z w : α} {t : Tree} {o : OpT} {e : Eff α} {q q' : List Int} {k : Int} (h : Unf S r t) (hn : (labs S r t).Nodup) (A : Act S r x0 o e) (hm : movesO o = true) (hq : res S r q = some z) (hk : kidS S z k = some w) (hne : o.kind = 1 ∨ o.path ≠ q ++ [k])
  (h1 : nodeP o q = some q') (h2 : res (e.on S) r q' = some z) : ∃ p',nodeP o (q ++ [k]) = some p' ∧ res (e.on S) r p' = some w:=by
 have hqk : res S r (q ++ [k]) = some w:=by rw [res_snoc,hq];exact hk
 have hw : e.out ≠ some w:=by
  cases A with
  | ins v hk1 => exact fun c => by cases c
  | del u hk1 hne' hu =>
   intro c
   injection c with c
   subst c
   rcases hne with c | c
   ·omega
   ·exact c (res_inj _ _ h hn hu hqk)
  | mov u v hk1 hne' hww hu =>
   intro c
   injection c with c
   subst c
   rcases hne with c | c
   ·omega
   ·exact c (res_inj _ _ h hn hu hqk)
 obtain ⟨k',c1,c2⟩:=kid_step h hn A hq hk hw
 refine ⟨q' ++ [k'],?_,?_⟩
 ·rw [node_snoc hm q k (fun ⟨g1,g2⟩ => by
   rcases hne with c | c
   ·omega
   ·exact c g2),h1,c1]
  rfl
 ·rw [res_snoc,h2]
  exact c2
theorem node_out {S : Gr α} {r x0 : α} {t : Tree} {o : OpT} {e : Eff α} (h : Unf S r t) (hn : (labs S r t).Nodup) (A : Act S r x0 o e) (hm : movesO o = true) :
  ∀ (n : Nat) (p : List Int) (z : α),p.length = n → res S r p = some z → (o.kind = 1 ∨ within o.path p = false) → ∃ p',nodeP o p = some p' ∧ res (e.on S) r p' = some z
 | 0,p,z,hl,hp,_ => by
  rw [List.length_eq_zero_iff] at hl
  subst hl
  exact ⟨[],node_root,hp⟩
 | n + 1,p,z,hl,hp,hw => by
  have hne : p ≠ []:=fun c => by rw [c] at hl;cases hl
  have e1:=snoc_last hne
  have hp':=hp
  rw [← e1,res_snoc] at hp'
  cases hq : res S r p.dropLast with
  | none => rw [hq] at hp';cases hp'
  | some y =>
   rw [hq] at hp'
   have hw2 : o.kind = 1 ∨ within o.path p.dropLast = false:=by
    rcases hw with c | c
    ·exact .inl c
    ·rw [← e1,within_snoc,Bool.or_eq_false_iff] at c
     exact .inr c.1
   obtain ⟨q',c1,c2⟩:=node_out h hn A hm n p.dropLast y (by simp [hl]) hq hw2
   have hne2 : o.kind = 1 ∨ o.path ≠ p.dropLast ++ [lastP p]:=by
    rcases hw with c | c
    ·exact .inl c
    ·refine .inr fun g => ?_
     rw [e1] at g
     rw [g] at c
     have:=within_app p []
     rw [List.append_nil] at this
     rw [this] at c
     cases c
   have:=node_step h hn A hm hq hp' hne2 c1 c2
   rw [e1] at this
   exact this
theorem land_len2 {S : Gr α} {r u v : α} {t : Tree} {o : OpT} (h : Unf S r t) (hn : (labs S r t).Nodup) (hne : o.path ≠ []) (hu : res S r o.path = some u) (hv : res S r o.to = some v) (h0 : 0 ≤ o.at_) (hg : o.at_.toNat ≤ (S.kids v).length) :
  (bif decide (o.path.dropLast = o.to) && decide (lastP o.path < o.at_) then o.at_ - 1 else o.at_) = ((rm u ((S.kids v).take o.at_.toNat)).length : Int):=by
 rw [len_frm h hn hne hu hv hg,show ((o.at_.toNat : Nat) : Int) = o.at_ by omega,show decide (o.to = o.path.dropLast) = decide (o.path.dropLast = o.to) from decide_eq_decide.2 ⟨Eq.symm,Eq.symm⟩]
theorem node_res {S : Gr α} {r x0 z : α} {t : Tree} {o : OpT} {e : Eff α} {p : List Int} (h : Unf S r t) (hn : (labs S r t).Nodup) (A : Act S r x0 o e) (hm : movesO o = true) (hp : res S r p = some z) (hd : ¬ (o.kind = 2 ∧ within o.path p = true)) :
  ∃ p',nodeP o p = some p' ∧ res (e.on S) r p' = some z:=by
 by_cases hw : o.kind = 1 ∨ within o.path p = false
 ·exact node_out h hn A hm _ p z rfl hp hw
 ·have hw' : within o.path p = true:=by
   cases hc : within o.path p with
   | true => rfl
   | false => exact absurd (.inr hc) hw
  obtain ⟨s,hs⟩:=within_split hw'
  subst hs
  cases A with
  | ins v hk1 => exact absurd (.inl hk1) hw
  | del u hk1 => exact absurd ⟨hk1,hw'⟩ hd
  | mov u v hk1 hne hww hu hv h0 hg =>
   have A : Act S r x0 o ⟨some u,some (v,o.at_.toNat,u)⟩:=.mov u v hk1 hne hww hu hv h0 hg
   have base : ∃ p',nodeP o o.path = some p' ∧ res (Eff.on ⟨some u,some (v,o.at_.toNat,u)⟩ S) r p' = some u:=by
    obtain ⟨q',c1,c2⟩:=node_out h hn A hm _ o.to v rfl hv (.inr hww)
    refine ⟨_,node_moved hm hk1,?_⟩
    rw [c1,Option.getD_some,res_snoc,c2,land_len2 h hn hne hu hv h0 hg]
    show kidS _ v _ = some u
    rw [kidS_nat]
    have hks : (Eff.on ⟨some u,some (v,o.at_.toNat,u)⟩ S).kids v = putL (some u) o.at_.toNat u (S.kids v):=if_pos rfl
    rw [hks]
    exact get_new
   have key : ∀ (n : Nat) (s : List Int) (y : α),s.length = n → res S r (o.path ++ s) = some y → ∃ p',nodeP o (o.path ++ s) = some p' ∧ res (Eff.on ⟨some u,some (v,o.at_.toNat,u)⟩ S) r p' = some y:=by
    intro n
    induction n with
    | zero =>
     intro s y hl hy
     rw [List.length_eq_zero_iff] at hl
     subst hl
     rw [List.append_nil] at hy ⊢
     rw [hu] at hy
     injection hy with hy
     subst hy
     exact base
    | succ n ih =>
     intro s y hl hy
     have hne2 : s ≠ []:=fun c => by rw [c] at hl;cases hl
     have e1:=snoc_last hne2
     rw [← e1,← List.append_assoc] at hy ⊢
     have hy':=hy
     rw [res_snoc] at hy'
     cases hq : res S r (o.path ++ s.dropLast) with
     | none => rw [hq] at hy';cases hy'
     | some m =>
      rw [hq] at hy'
      obtain ⟨q',c1,c2⟩:=ih s.dropLast m (by simp [hl]) hq
      refine node_step h hn A hm hq hy' (.inr fun g => ?_) c1 c2
      have:=congrArg List.length g
      simp only [List.length_append,List.length_cons,List.length_nil] at this
      omega
   exact key _ s z rfl hp
theorem gap_res {S : Gr α} {r x0 z : α} {t : Tree} {o : OpT} {e : Eff α} {p p' : List Int} {g : Int} (first : Bool) (h : Unf S r t) (hn : (labs S r t).Nodup) (A : Act S r x0 o e) (hm : movesO o = true) (hp : res S r p = some z) (hN : nodeP o p = some p') (h0 : 0 ≤ g) (hg : g.toNat ≤ (S.kids z).length) :
  gapP o p g first = (p',(e.gap S z g.toNat first : Int),true):=by
 unfold gapP
 rw [hN]
 simp only [hm,Bool.not_true,cond_false,Prod.mk.injEq,true_and,and_true]
 unfold Eff.gap
 have hgi : ((g.toNat : Nat) : Int) = g:=by omega
 have put : ∀ (v : α) (to : List Int),res S r to = some v → o.at_.toNat = o.at_ → ((bif (decide (p = to) && (decide (o.at_ < g) || (decide (g = o.at_) && !first))) then 1 else 0 : Int)) = ((if z = v then after g.toNat o.at_.toNat first else 0 : Nat) : Int):=by
  intro v to hv ha
  by_cases c : p = to
  ·subst c
   rw [hp] at hv
   injection hv with hv
   rw [if_pos hv,decide_eq_true rfl,Bool.true_and]
   unfold after
   by_cases c1 : o.at_ < g
   ·rw [decide_eq_true c1,if_pos (by omega)]
    rfl
   ·rw [decide_eq_false c1,Bool.false_or]
    by_cases c2 : g = o.at_
    ·rw [decide_eq_true c2,Bool.true_and]
     cases first
     ·rw [if_pos (by simp;omega)]
      rfl
     ·rw [if_neg (by simp;omega)]
      rfl
    ·rw [decide_eq_false c2,if_neg (by omega)]
     rfl
  ·have hz : z ≠ v:=fun k => c (by
    subst k
    exact res_inj _ _ h hn hp hv)
   rw [if_neg hz,decide_eq_false c]
   rfl
 cases A with
 | ins v hk1 hv ha hga =>
  have e1 : (chgO o).takes = false:=by unfold chgO;simp [hk1]
  have e2 : (chgO o).puts = true:=by unfold chgO;simp [hk1]
  have e3 : (chgO o).to = o.path:=by unfold chgO;simp [hk1]
  have e4 : (chgO o).gap = o.at_:=rfl
  rw [e1,e2,e3,e4,Bool.false_and,cond_false,Bool.true_and,put v o.path hv (by omega)]
  simp only [rmo,List.length_take,Nat.min_eq_left hg,Int.natCast_add,hgi]
 | del u hk1 hne hu =>
  have e1 : (chgO o).takes = true:=by unfold chgO;simp [hk1]
  have e2 : (chgO o).puts = false:=by unfold chgO;simp [hk1]
  have e3 : (chgO o).frm = o.path.dropLast:=by unfold chgO;simp [hk1]
  have e4 : (chgO o).at_ = lastP o.path:=by unfold chgO;simp [hk1]
  have hl:=len_frm h hn hne hu hp hg
  rw [hgi] at hl
  rw [e1,e2,e3,e4,Bool.false_and,cond_false,Bool.true_and,Int.add_zero,Bool.and_comm]
  exact hl.symm
 | mov u v hk1 hne hww hu hv ha hga =>
  have e1 : (chgO o).takes = true:=by unfold chgO;simp [hk1]
  have e2 : (chgO o).puts = true:=by unfold chgO;simp [hk1]
  have e3 : (chgO o).frm = o.path.dropLast:=by unfold chgO;simp [hk1]
  have e4 : (chgO o).at_ = lastP o.path:=by unfold chgO;simp [hk1]
  have e5 : (chgO o).to = o.to:=by unfold chgO;simp [hk1]
  have e6 : (chgO o).gap = o.at_:=rfl
  have hl:=len_frm h hn hne hu hp hg
  rw [hgi] at hl
  rw [e1,e2,e3,e4,e5,e6,Bool.true_and,Bool.true_and,put v o.to hv (by omega),Int.natCast_add]
  congr 1
  rw [Bool.and_comm]
  exact hl.symm
end
end Bow
/- SP47: what becomes of a tree, by names. -/
namespace Bow
open Go
theorem nums_id {c : Chg} (ht : c.takes = true) (hp : c.puts = false) : ∀ (p pre : List Int),(∀ s,pre ++ s ≠ c.frm) → c.nums pre p = p
 | [],pre,_ => rfl
 | k :: p,pre,h => by
  rw [Chg.nums,nums_id ht hp p (pre ++ [k]) fun s e => h (k :: s) (by simpa using e)]
  have h0 : pre ≠ c.frm:=fun e => h [] (by simpa using e)
  unfold Chg.number
  rw [ht,hp,decide_eq_false h0]
  simp
theorem nums_land {c : Chg} (ht : c.takes = true) (hp : c.puts = false) (at_ : Int) : ∀ (q to pre : List Int),c.frm = pre ++ q → c.nums pre to = (landT q c.at_ to at_).1
 | [],[],pre,_ => by
  unfold landT
  by_cases e : c.at_ < at_ <;> simp [Chg.nums,e]
 | [],k :: p,pre,h => by
  rw [List.append_nil] at h
  rw [Chg.nums,nums_id ht hp p (pre ++ [k]) fun s e => by
   rw [h] at e
   have:=congrArg List.length e
   simp at this]
  unfold Chg.number landT
  rw [ht,hp,h,within_nil]
  by_cases e : c.at_ < k <;> simp [e]
 | j :: q,[],pre,h => by
  rw [landT_top]
  rfl
 | j :: q,k :: p,pre,h => by
  rw [Chg.nums]
  have h0 : pre ≠ c.frm:=fun e => by
   rw [h] at e
   have:=congrArg List.length e
   simp at this
  have hnum : c.number pre k = k:=by
   unfold Chg.number
   rw [ht,hp,decide_eq_false h0]
   simp
  rw [hnum]
  by_cases e : j = k
  ·subst e
   rw [landT_cons,nums_land ht hp at_ q p (pre ++ [j]) (by simpa using h)]
  ·rw [landT_other e,nums_id ht hp p (pre ++ [k]) fun s e2 => by
    rw [h,List.append_assoc,List.append_cancel_left_eq] at e2
    simp only [List.cons_append,List.cons.injEq] at e2
    exact e e2.1.symm]
theorem drop_moves {o : OpT} (hf : formedB o = true) (hne : o.path ≠ []) : movesO (dropO o.path) = true:=by
 have h:=formed_path hf
 unfold movesO formedB dropO noOp
 simp [h]
 exact List.length_pos_iff.2 hne
theorem land_node {o : OpT} (hf : formedB o = true) (hne : o.path ≠ []) (hw : within o.path o.to = false) : nodeP (dropO o.path) o.to = some (landT o.path.dropLast (lastP o.path) o.to o.at_).1:=by
 unfold nodeP
 rw [drop_moves hf hne]
 have ht : (chgO (dropO o.path)).takes = true:=rfl
 have hp : (chgO (dropO o.path)).puts = false:=rfl
 have hw' : within (dropO o.path).path o.to = false:=hw
 rw [ht,hw']
 simp only [Bool.not_true,cond_false,Bool.and_false]
 exact congrArg some (nums_land (c:=chgO (dropO o.path)) rfl rfl o.at_ _ _ [] rfl)
theorem land_gap {q to : List Int} {i at_ : Int} : (landT q i to at_).2 = bif decide (q = to) && decide (i < at_) then at_ - 1 else at_:=by
 unfold landT
 cases (decide (q = to) && decide (i < at_)) <;> cases (within q to && (decide (q.length < to.length) && decide (i < to.getD q.length 0))) <;> rfl
section
variable {α : Type} [DecidableEq α]
theorem not_kid {S : Gr α} {r u z : α} {t : Tree} (h : Unf S r t) (hn : (labs S r t).Nodup) {p : List Int} {s : Tree} (hu : res S r p = some u) (hs : atT t p = some s) (hz : z ∈ labs S u s) : u ∉ S.kids z:=by
 rcases res_at p h with ⟨k1,_⟩ | ⟨v',y',k1,k2,k3⟩
 ·rw [hu] at k1;cases k1
 ·rw [hu] at k1
  rw [hs] at k2
  injection k1 with k1
  injection k2 with k2
  subst k1 k2
  exact root_none k3 (sub_nodup h hn hu hs) hz
omit [DecidableEq α] in
theorem at_res {S : Gr α} {r u : α} {t : Tree} {p : List Int} (h : Unf S r t) (hu : res S r p = some u) : ∃ s,atT t p = some s ∧ Unf S u s:=by
 rcases res_at p h with ⟨k1,_⟩ | ⟨v',y',k1,k2,k3⟩
 ·rw [hu] at k1;cases k1
 ·rw [hu] at k1
  injection k1 with k1
  subst k1
  exact ⟨y',k2,k3⟩
omit [DecidableEq α] in
theorem res_of_at {S : Gr α} {r : α} {t s : Tree} {p : List Int} (h : Unf S r t) (hs : atT t p = some s) : ∃ u,res S r p = some u ∧ Unf S u s:=by
 rcases res_at p h with ⟨_,k1⟩ | ⟨v',y',k1,k2,k3⟩
 ·rw [hs] at k1;cases k1
 ·rw [hs] at k2
  injection k2 with k2
  subst k2
  exact ⟨v',k1,k3⟩
theorem at_snoc (k : Int) : ∀ (p : List Int) (t : Tree),atT t (p ++ [k]) = (atT t p).bind fun y => subT y k
 | [],t => by
  show (match subT t k with
   | none => none
   | some v => some v) = subT t k
  cases subT t k <;> rfl
 | i :: p,t => by
  rw [List.cons_append,atT,atT]
  cases subT t i with
  | none => rfl
  | some v => exact at_snoc k p v
omit [DecidableEq α] in
theorem out_parts {S : Gr α} {r u : α} {t : Tree} {p : List Int} (h : Unf S r t) (hne : p ≠ []) (hu : res S r p = some u) :
  ∃ f y s,res S r p.dropLast = some f ∧ atT t p.dropLast = some y ∧ kidS S f (lastP p) = some u ∧ subT y (lastP p) = some s ∧ atT t p = some s ∧ Unf S u s:=by
 obtain ⟨s,hs,hus⟩:=at_res h hu
 have e:=snoc_last hne
 have hu':=hu
 have hs':=hs
 rw [← e,res_snoc] at hu'
 rw [← e,at_snoc] at hs'
 cases hf : res S r p.dropLast with
 | none => rw [hf] at hu';cases hu'
 | some f =>
  cases hy : atT t p.dropLast with
  | none => rw [hy] at hs';cases hs'
  | some y =>
   rw [hf] at hu'
   rw [hy] at hs'
   exact ⟨f,y,s,rfl,rfl,hu',hs',hs,hus⟩
structure Became (S' S : Gr α) (r : α) (t' t : Tree) (o : OpT) (x0 : α) : Prop where
 unf : Unf S' r t'
 nodup : (labs S' r t').Nodup
 old : ∀ z ∈ labs S' r t',z ∈ labs S r t ∨ (o.kind = 1 ∧ z = x0)
 gone : ∀ u s,o.kind = 2 → res S r o.path = some u → atT t o.path = some s → ∀ z ∈ labs S' r t',z ∉ labs S u s
theorem act_unf {S : Gr α} {r x0 : α} {t : Tree} {o : OpT} {e : Eff α} (h : Unf S r t) (hn : (labs S r t).Nodup) (A : Act S r x0 o e) (hf : formedB o = true) (hx : o.kind = 1 → Unf S x0 (freshT o) ∧ x0 ∉ labs S r t) :
  Became (e.on S) S r (applyT t o) t o x0:=by
 unfold applyT
 cases A with
 | ins v hk hv h0 hg =>
  rw [decide_eq_true hk,cond_true]
  obtain ⟨hx,hx0⟩:=hx hk
  obtain ⟨y,hy,_⟩:=at_res h hv
  have hxk : S.kids x0 = []:=List.length_eq_zero_iff.1 (unfs_len (unf_eq.1 hx).2)
  have hxv : x0 ≠ v:=fun c => hx0 (c ▸ res_self h hv)
  have hkx : (Eff.on ⟨none,some (v,o.at_.toNat,x0)⟩ S).kids x0 = []:=by
   have : (Eff.on ⟨none,some (v,o.at_.toNat,x0)⟩ S).kids x0 = rmo none (S.kids x0):=if_neg hxv
   rw [this,hxk]
   rfl
  have hX : Unf (Eff.on ⟨none,some (v,o.at_.toNat,x0)⟩ S) x0 (freshT o):=by
   rw [unf_eq,hkx]
   rw [unf_eq,hxk] at hx
   refine ⟨hx.1,?_⟩
   show Unfs _ [] []
   rw [Unfs]
   trivial
  have c:=ins_unf (S':=Eff.on ⟨none,some (v,o.at_.toNat,x0)⟩ S) (g:=o.at_) h hn hv hy (if_pos rfl) rfl (fun z _ hz => ⟨if_neg hz,rfl⟩) hX
  have hl : labs (Eff.on ⟨none,some (v,o.at_.toNat,x0)⟩ S) x0 (freshT o) = [x0]:=by
   rw [labs_eq,hkx]
   rfl
  rw [hl] at c
  refine ⟨c.1,?_,fun z hz => ?_,fun u s hk2 => by omega⟩
  ·rw [List.nodup_iff_count]
   intro z
   rw [c.2 z]
   have h1:=(List.nodup_iff_count.1 hn) z
   by_cases e : z = x0
   ·subst e
    rw [List.count_eq_zero.2 hx0]
    simp
   ·rw [List.count_eq_zero.2 (show z ∉ [x0] by simpa using e)]
    exact h1
  ·by_cases e : z = x0
   ·exact .inr ⟨hk,e⟩
   ·refine .inl ?_
    have h2:=c.2 z
    rw [List.count_eq_zero.2 (show z ∉ [x0] by simpa using e)] at h2
    rw [← List.count_pos_iff] at hz ⊢
    omega
 | del u hk hne hu =>
  rw [decide_eq_false (show ¬ o.kind = 1 by omega),cond_false,decide_eq_true hk,cond_true]
  obtain ⟨f,y,s,p1,p2,p3,p4,p5,p6⟩:=out_parts h hne hu
  have c:=del_unf h hn p1 p2 p3 p4
  refine ⟨c.1,?_,fun z hz => .inl ?_,fun u' s' _ hu' hs' z hz hzs => ?_⟩
  ·rw [List.nodup_iff_count]
   intro z
   have h1:=(List.nodup_iff_count.1 hn) z
   have h2:=c.2 z
   have : (labs (Eff.on ⟨some u,none⟩ S) r (withoutT t o.path)).count z = (labs (delS S u) r (changeT (delT (lastP o.path)) t o.path.dropLast)).count z:=rfl
   omega
  ·have h2:=c.2 z
   have hz : z ∈ labs (delS S u) r (changeT (delT (lastP o.path)) t o.path.dropLast):=hz
   rw [← List.count_pos_iff] at hz ⊢
   omega
  ·rw [hu] at hu'
   rw [p5] at hs'
   injection hu' with hu'
   injection hs' with hs'
   subst hu' hs'
   have h1:=(List.nodup_iff_count.1 hn) z
   have h2:=c.2 z
   have hz : z ∈ labs (delS S u) r (changeT (delT (lastP o.path)) t o.path.dropLast):=hz
   rw [← List.count_pos_iff] at hz hzs
   omega
 | mov u v hk hne hw hu hv h0 hg =>
  rw [decide_eq_false (show ¬ o.kind = 1 by omega),cond_false,decide_eq_false (show ¬ o.kind = 2 by omega),cond_false,decide_eq_true hk,cond_true]
  obtain ⟨f,y,s,p1,p2,p3,p4,p5,p6⟩:=out_parts h hne hu
  rw [p5]
  show Became _ _ _ (moveT s t o) _ _ _
  have c:=del_unf h hn p1 p2 p3 p4
  have hD : Act S r x0 (dropO o.path) ⟨some u,none⟩:=.del u rfl hne hu
  obtain ⟨p',q1,q2⟩:=node_res h hn hD (drop_moves hf hne) hv (fun ⟨_,g⟩ => by
   have g : within o.path o.to = true:=g
   rw [hw] at g
   cases g)
  rw [land_node hf hne hw] at q1
  injection q1 with q1
  subst q1
  have q2 : res (delS S u) r (landT o.path.dropLast (lastP o.path) o.to o.at_).1 = some v:=q2
  have hn1 : (labs (delS S u) r (changeT (delT (lastP o.path)) t o.path.dropLast)).Nodup:=by
   rw [List.nodup_iff_count]
   intro z
   have h1:=(List.nodup_iff_count.1 hn) z
   have h2:=c.2 z
   omega
  obtain ⟨y2,hy2,_⟩:=at_res c.1 q2
  have hgap : (landT o.path.dropLast (lastP o.path) o.to o.at_).2 = ((rm u ((S.kids v).take o.at_.toNat)).length : Int):=by
   rw [land_gap,land_len2 h hn hne hu hv h0 hg]
  have hks : (Eff.on ⟨some u,some (v,o.at_.toNat,u)⟩ S).kids v = putL (some u) o.at_.toNat u (S.kids v):=if_pos rfl
  have hcut:=cut_out (some u) o.at_.toNat (S.kids v)
  have hX : Unf (Eff.on ⟨some u,some (v,o.at_.toNat,u)⟩ S) u s ∧ labs (Eff.on ⟨some u,some (v,o.at_.toNat,u)⟩ S) u s = labs S u s:=by
   have ha:=unf_agree (S:=S) (S':=Eff.on ⟨some u,some (v,o.at_.toNat,u)⟩ S) s u fun z hz => by
    refine ⟨?_,rfl⟩
    have hzv : z ≠ v:=fun c => by
     subst c
     obtain ⟨p2',hp2⟩:=labs_res s u p6 hz
     have hr : res S r (o.path ++ p2') = some z:=by rw [res_app,hu];exact hp2
     have:=res_inj _ _ h hn hr hv
     rw [← this,within_app] at hw
     cases hw
    have : (Eff.on ⟨some u,some (v,o.at_.toNat,u)⟩ S).kids z = rmo (some u) (S.kids z):=if_neg hzv
    rw [this]
    exact rm_none (not_kid h hn hu p5 hz)
   exact ⟨ha.1 p6,ha.2⟩
  have c2:=ins_unf (S':=Eff.on ⟨some u,some (v,o.at_.toNat,u)⟩ S) (g:=(landT o.path.dropLast (lastP o.path) o.to o.at_).2) c.1 hn1 q2 hy2
   (by
    rw [hks,hgap]
    show putL (some u) o.at_.toNat u (S.kids v) = (rm u (S.kids v)).take (rm u ((S.kids v).take o.at_.toNat)).length ++ u :: (rm u (S.kids v)).drop (rm u ((S.kids v).take o.at_.toNat)).length
    have h1 : (rm u (S.kids v)).take (rm u ((S.kids v).take o.at_.toNat)).length = _:=hcut.1
    have h2 : (rm u (S.kids v)).drop (rm u ((S.kids v).take o.at_.toNat)).length = _:=hcut.2
    rw [h1,h2]
    rfl) rfl (fun z _ hz => ⟨if_neg hz,rfl⟩) hX.1
  rw [hX.2] at c2
  have hcnt : ∀ z,(labs (Eff.on ⟨some u,some (v,o.at_.toNat,u)⟩ S) r (moveT s t o)).count z = (labs S r t).count z:=fun z => by
   have h1:=c.2 z
   have h2:=c2.2 z
   have : (labs (Eff.on ⟨some u,some (v,o.at_.toNat,u)⟩ S) r (moveT s t o)).count z = (labs (Eff.on ⟨some u,some (v,o.at_.toNat,u)⟩ S) r (changeT (insT (landT o.path.dropLast (lastP o.path) o.to o.at_).2 s) (changeT (delT (lastP o.path)) t o.path.dropLast) (landT o.path.dropLast (lastP o.path) o.to o.at_).1)).count z:=rfl
   omega
  refine ⟨c2.1,?_,fun z hz => .inl ?_,fun u s hk2 => by omega⟩
  ·rw [List.nodup_iff_count]
   intro z
   rw [hcnt z]
   exact (List.nodup_iff_count.1 hn) z
  ·rw [← List.count_pos_iff] at hz ⊢
   rw [hcnt z] at hz
   exact hz
end
end Bow
/- SP48: operations that are valid, by names; one behind another one. -/
namespace Bow
open Go
def payF (o : OpT) (p : Pay) : Pay :=
 if o.kind = 4 then { p with attrs:=setA o p.attrs } else if o.kind = 5 then { p with label:=o.label } else { p with text:=(applyE p.text o.pieces).1 }
theorem payF_leaf (o : OpT) (p : Pay) : (payF o p).leaf = p.leaf:=by
 unfold payF
 split
 ·rfl
 ·split <;> rfl
section
variable {α : Type} [DecidableEq α]
def payS (S : Gr α) (v : α) (f : Pay → Pay) : Gr α:=⟨S.kids,fun z => if z = v then f (S.pay z) else S.pay z⟩
inductive Fit (S : Gr α) (r x0 : α) (o : OpT) : Gr α → Prop
 | act (e : Eff α) (A : Act S r x0 o e) (hl : ∀ v g x,e.into = some (v,g,x) → (S.pay v).leaf = false) : Fit S r x0 o (e.on S)
 | pay (v : α) (hk : 4 ≤ o.kind ∧ o.kind ≤ 6) (hv : res S r o.path = some v) (he : o.kind = 6 → (S.pay v).leaf = true ∧ (applyE (S.pay v).text o.pieces).2 = 0) : Fit S r x0 o (payS S v (payF o))
omit [DecidableEq α] in
theorem unf_pay {S : Gr α} {u : α} {t : Tree} (h : Unf S u t) : S.pay u = t.pay:=(unf_eq.1 h).1
omit [DecidableEq α] in
theorem unf_len {S : Gr α} {u : α} {t : Tree} (h : Unf S u t) : (S.kids u).length = t.subs.length:=unfs_len (unf_eq.1 h).2
theorem pay_leaf (t : Tree) : t.pay.leaf = t.leaf:=by cases t;rfl
theorem pay_text (t : Tree) : t.pay.text = t.text:=by cases t;rfl
theorem fit_of {S : Gr α} {r : α} (x0 : α) {t : Tree} {o : OpT} (h : Unf S r t) (hg : GoodO t o) : ∃ S',Fit S r x0 o S':=by
 cases hg with
 | ins y hk hy hl h0 h1 h2 =>
  obtain ⟨v,hv,hvy⟩:=res_of_at h hy
  refine ⟨_,.act _ (.ins v hk hv h0 (by rw [unf_len hvy];omega)) fun v' g x e => ?_⟩
  injection e with e
  rw [← (Prod.mk.inj e).1,unf_pay hvy,pay_leaf,hl]
 | del x hk hne hx =>
  obtain ⟨u,hu,_⟩:=res_of_at h hx
  exact ⟨_,.act _ (.del u hk hne hu) fun v' g x e => by cases e⟩
 | mov x z hk hne hx hw hz hl h0 h1 =>
  obtain ⟨u,hu,_⟩:=res_of_at h hx
  obtain ⟨v,hv,hvy⟩:=res_of_at h hz
  refine ⟨_,.act _ (.mov u v hk hne hw hu hv h0 (by rw [unf_len hvy];omega)) fun v' g x e => ?_⟩
  injection e with e
  rw [← (Prod.mk.inj e).1,unf_pay hvy,pay_leaf,hl]
 | att y hk hy h1 h2 =>
  obtain ⟨v,hv,hvy⟩:=res_of_at h hy
  exact ⟨_,.pay v (by omega) hv fun hk6 => by omega⟩
 | lab y hk hy h2 =>
  obtain ⟨v,hv,hvy⟩:=res_of_at h hy
  exact ⟨_,.pay v (by omega) hv fun hk6 => by omega⟩
 | edt y hk hy hl he =>
  obtain ⟨v,hv,hvy⟩:=res_of_at h hy
  exact ⟨_,.pay v (by omega) hv fun hk6 => by rw [unf_pay hvy,pay_leaf,pay_text];exact ⟨hl,he⟩⟩
theorem into_ok {y : Tree} {n : Int} (hl : y.leaf = false) (h : n ≤ y.subs.length) : intoE y n = 0:=by
 unfold intoE
 rw [hl,decide_eq_false (by omega)]
 rfl
theorem fit_valid {S S' : Gr α} {r x0 : α} {t : Tree} {o : OpT} (h : Unf S r t) (hr : rightT t = true) (hf : formedB o = true) (F : Fit S r x0 o S') : ValidE t o = 0:=by
 unfold ValidE validE
 rw [hr,hf]
 simp only [Bool.not_true,cond_false]
 cases F with
 | act e A hl =>
  cases A with
  | ins v hk hv h0 hg =>
   obtain ⟨y,hy,hvy⟩:=at_res h hv
   have hlf:=hl v _ _ rfl
   rw [unf_pay hvy,pay_leaf] at hlf
   rw [unf_len hvy] at hg
   rw [hy,show (decide (o.kind = 2) || decide (o.kind = 3)) = false by simp [hk],decide_eq_true hk]
   exact into_ok hlf (by omega)
  | del u hk hne hu =>
   obtain ⟨y,hy,_⟩:=at_res h hu
   rw [hy,decide_eq_false hne]
   simp [hk]
  | mov u v hk hne hw hu hv h0 hg =>
   obtain ⟨y,hy,_⟩:=at_res h hu
   obtain ⟨z,hz,hvz⟩:=at_res h hv
   have hlf:=hl v _ _ rfl
   rw [unf_pay hvz,pay_leaf] at hlf
   rw [unf_len hvz] at hg
   rw [hy,hz,decide_eq_false hne,hw]
   simp [hk]
   exact into_ok hlf (by omega)
 | pay v hk hv he =>
  obtain ⟨y,hy,hvy⟩:=at_res h hv
  rw [hy,show (decide (o.kind = 2) || decide (o.kind = 3)) = false by simp;omega,decide_eq_false (show ¬ o.kind = 1 by omega),decide_eq_false (show ¬ o.kind = 3 by omega)]
  simp only [Bool.false_and,cond_false]
  by_cases h6 : o.kind = 6
  ·have:=he h6
   rw [unf_pay hvy,pay_leaf,pay_text] at this
   rw [decide_eq_true h6,this.1,this.2]
   rfl
  ·rw [decide_eq_false h6]
   rfl
theorem fit_unf {S S' : Gr α} {r x0 : α} {t : Tree} {o : OpT} (h : Unf S r t) (hn : (labs S r t).Nodup) (F : Fit S r x0 o S') (hf : formedB o = true) (hx : o.kind = 1 → Unf S x0 (freshT o) ∧ x0 ∉ labs S r t) : Became S' S r (applyT t o) t o x0:=by
 cases F with
 | act e A hl => exact act_unf h hn A hf hx
 | pay v hk hv he =>
  obtain ⟨y,hy,hvy⟩:=at_res h hv
  have fin : ∀ (F : Tree → Tree),(∀ y,(F y).subs = y.subs) → (∀ y,payF o y.pay = (F y).pay) → Became (payS S v (payF o)) S r (changeT F t o.path) t o x0:=by
   intro F hF hF2
   have c:=pay_unf (S':=payS S v (payF o)) (F:=F) h hn hv hy (fun z _ => rfl) (fun z _ hz => if_neg hz) (hF y) (by
    have : (payS S v (payF o)).pay v = payF o (S.pay v):=if_pos rfl
    rw [this,unf_pay hvy]
    exact hF2 y)
   refine ⟨c.1,?_,fun z hz => .inl ?_,fun u s hk2 => by omega⟩
   ·rw [List.nodup_iff_count]
    intro z
    rw [c.2 z]
    exact (List.nodup_iff_count.1 hn) z
   ·rw [← List.count_pos_iff] at hz ⊢
    rw [c.2 z] at hz
    exact hz
  unfold applyT
  rw [decide_eq_false (show ¬ o.kind = 1 by omega),decide_eq_false (show ¬ o.kind = 2 by omega),decide_eq_false (show ¬ o.kind = 3 by omega)]
  simp only [cond_false]
  by_cases h4 : o.kind = 4
  ·rw [decide_eq_true h4]
   refine fin (setAT o) (fun y => by cases y;rfl) fun y => ?_
   unfold payF
   rw [if_pos h4]
   cases y
   rfl
  ·rw [decide_eq_false h4,cond_false]
   by_cases h5 : o.kind = 5
   ·rw [decide_eq_true h5]
    refine fin (relabelT o.label) (fun y => by cases y;rfl) fun y => ?_
    unfold payF
    rw [if_neg h4,if_pos h5]
    cases y
    rfl
   ·rw [decide_eq_false h5,cond_false]
    refine fin (retextT o.pieces) (fun y => by cases y;rfl) fun y => ?_
    unfold payF
    rw [if_neg h4,if_neg h5]
    cases y
    rfl
end
end Bow
/- SP49: an operation behind another one, by names: it does what it did. -/
namespace Bow
open Go
section
variable {α : Type} [DecidableEq α]
theorem kids_mem {e : Eff α} {z m : α} {l : List α} (h : m ∈ e.kids z l) : m ∈ l ∨ ∃ g,e.into = some (z,g,m):=by
 obtain ⟨out,into⟩:=e
 cases into with
 | none => exact .inl (rmo_mem h)
 | some q =>
  obtain ⟨v,g,x⟩:=q
  have h : m ∈ (if z = v then putL out g x l else rmo out l):=h
  by_cases hz : z = v
  ·subst hz
   rw [if_pos rfl] at h
   unfold putL at h
   rw [List.mem_append,List.mem_cons] at h
   rcases h with h | h | h
   ·exact .inl (List.mem_of_mem_take (rmo_mem h))
   ·subst h
    exact .inr ⟨g,rfl⟩
   ·exact .inl (List.mem_of_mem_drop (rmo_mem h))
  ·rw [if_neg hz] at h
   exact .inl (rmo_mem h)
omit [DecidableEq α] in
theorem res_kid {S : Gr α} {u n m : α} {s : List Int} (h : res S u s = some n) (hm : m ∈ S.kids n) : ∃ s',res S u s' = some m:=by
 obtain ⟨i,hi⟩:=List.getElem?_of_mem hm
 exact ⟨s ++ [(i : Int)],by rw [res_snoc,h];exact (kidS_nat i).trans hi⟩
theorem below_after {S : Gr α} {r x0 u : α} {o : OpT} {e : Eff α} (A : Act S r x0 o e) (hx : S.kids x0 = []) (hx0 : ∀ p,res S r p ≠ some x0) : ∀ (n : Nat) (s : List Int) (m : α),s.length = n → res (e.on S) u s = some m →
  m = x0 ∨ (∃ s',res S u s' = some m) ∨ (o.kind = 3 ∧ ∃ w v s1 s2,res S r o.path = some w ∧ res S r o.to = some v ∧ res S u s1 = some v ∧ res S w s2 = some m)
 | 0,s,m,hl,h => by
  rw [List.length_eq_zero_iff] at hl
  subst hl
  rw [res] at h
  exact .inr (.inl ⟨[],h⟩)
 | n + 1,s,m,hl,h => by
  have hne : s ≠ []:=fun c => by rw [c] at hl;cases hl
  rw [← snoc_last hne,res_snoc] at h
  cases hq : res (e.on S) u s.dropLast with
  | none => rw [hq] at h;cases h
  | some y =>
   rw [hq] at h
   have ih:=below_after A hx hx0 n s.dropLast y (by simp [hl]) hq
   have hm : m ∈ e.kids y (S.kids y):=List.mem_of_getElem? (kidS_some (S:=e.on S) h).2
   rcases kids_mem hm with hm | ⟨g,hg⟩
   ·rcases ih with rfl | ⟨s',hs'⟩ | ⟨h3,w,v,s1,s2,c1,c2,c3,c4⟩
    ·rw [hx] at hm
     cases hm
    ·exact .inr (.inl (res_kid hs' hm))
    ·obtain ⟨s3,hs3⟩:=res_kid c4 hm
     exact .inr (.inr ⟨h3,w,v,s1,s3,c1,c2,c3,hs3⟩)
   ·cases A with
    | ins v hk hv h0 hgl =>
     injection hg with hg
     exact .inl (by simpa using (Prod.mk.inj (Prod.mk.inj hg).2).2.symm)
    | del w hk hne' hw => cases hg
    | mov w v hk hne' hw hu hv h0 hgl =>
     injection hg with hg
     have e1 : v = y:=(Prod.mk.inj hg).1
     have e2 : w = m:=(Prod.mk.inj (Prod.mk.inj hg).2).2
     subst e1
     subst e2
     rcases ih with rfl | ⟨s',hs'⟩ | ⟨h3,w',v',s1,s2,c1,c2,c3,c4⟩
     ·exact absurd hv (hx0 _)
     ·exact .inr (.inr ⟨hk,w,v,s',[],hu,hv,hs',rfl⟩)
     ·rw [hv] at c2
      injection c2 with c2
      subst c2
      exact .inr (.inr ⟨hk,w,v,s1,[],hu,hv,c3,rfl⟩)
theorem rmo_split (o : Option α) (g : Nat) (l : List α) : (rmo o l).length = (rmo o (l.take g)).length + (rmo o (l.drop g)).length:=by
 conv => lhs;rw [← List.take_append_drop g l]
 rw [rmo_app,List.length_append]
theorem gap_le {S : Gr α} {e : Eff α} {z : α} {g : Nat} (first : Bool) : e.gap S z g first ≤ ((e.on S).kids z).length:=by
 obtain ⟨out,into⟩:=e
 unfold Eff.gap Eff.on Eff.kids
 have h1:=rmo_split out g (S.kids z)
 cases into with
 | none =>
  simp only
  omega
 | some q =>
  obtain ⟨v,ga,x⟩:=q
  simp only
  by_cases hz : z = v
  ·rw [if_pos hz,if_pos hz]
   have h2:=rmo_split out ga (S.kids z)
   have h3 : after g ga first ≤ 1:=by unfold after;split <;> omega
   unfold putL
   rw [List.length_append,List.length_cons]
   omega
  ·rw [if_neg hz,if_neg hz]
   omega
theorem shift_act {S : Gr α} {r xa xb : α} {t : Tree} {a b : OpT} {ea eb : Eff α} (first : Bool) (h : Unf S r t) (hn : (labs S r t).Nodup) (hm : movesO a = true) (A : Act S r xa a ea) (B : Act S r xb b eb)
  (hx : S.kids xa = []) (hx0 : xa ∉ labs S r t) (hd : ¬ (a.kind = 2 ∧ within a.path b.path = true)) (hd2 : ¬ (a.kind = 2 ∧ b.kind = 3 ∧ within a.path b.to = true))
  (hc : ¬ (a.kind = 3 ∧ b.kind = 3 ∧ within b.path a.to = true ∧ within a.path b.to = true)) : Act (ea.on S) r xb (shiftedO b a first) (eb.behind ea S first):=by
 have hx0' : ∀ p,res S r p ≠ some xa:=fun p e => hx0 (res_self h e)
 cases B with
 | ins v hk hv h0 hg =>
  obtain ⟨p',q1,q2⟩:=node_res h hn A hm hv hd
  have q3:=gap_res first h hn A hm hv q1 h0 hg
  have e1 : shiftedO b a first = { b with at_:=(ea.gap S v b.at_.toNat first : Int),path:=p' }:=by
   unfold shiftedO
   rw [decide_eq_true hk,cond_true,q3,q1]
   rfl
  rw [e1]
  exact .ins v hk q2 (Int.natCast_nonneg _) (gap_le first)
 | del u hk hne hu =>
  obtain ⟨p',q1,q2⟩:=node_res h hn A hm hu hd
  have e1 : shiftedO b a first = { b with path:=p' }:=by
   unfold shiftedO
   rw [decide_eq_false (show ¬ b.kind = 1 by omega),decide_eq_false (show ¬ b.kind = 3 by omega),q1]
   rfl
  rw [e1]
  refine .del u hk (fun c => ?_) q2
  have c : p' = []:=c
  subst c
  rw [res] at q2
  injection q2 with q2
  subst q2
  exact hne (res_inj _ [] h hn hu rfl)
 | mov u v hk hne hw hu hv h0 hg =>
  obtain ⟨p',q1,q2⟩:=node_res h hn A hm hu hd
  obtain ⟨p2,q4,q5⟩:=node_res h hn A hm hv fun g => hd2 ⟨g.1,hk,g.2⟩
  have q3:=gap_res first h hn A hm hv q4 h0 hg
  have e1 : shiftedO b a first = { b with to:=p2,at_:=(ea.gap S v b.at_.toNat first : Int),path:=p' }:=by
   unfold shiftedO
   rw [decide_eq_false (show ¬ b.kind = 1 by omega),decide_eq_true hk,q3,q1]
   rfl
  rw [e1]
  refine .mov u v hk (fun c => ?_) ?_ q2 q5 (Int.natCast_nonneg _) (gap_le first)
  ·have c : p' = []:=c
   subst c
   rw [res] at q2
   injection q2 with q2
   subst q2
   exact hne (res_inj _ [] h hn hu rfl)
  ·show within p' p2 = false
   cases hc2 : within p' p2 with
   | false => rfl
   | true =>
    exfalso
    obtain ⟨s,hs⟩:=within_split hc2
    subst hs
    rw [res_app,q2] at q5
    rcases below_after A hx hx0' _ s v rfl q5 with c | ⟨s',c⟩ | ⟨h3,w,va,s1,s2,c1,c2,c3,c4⟩
    ·subst c
     exact hx0' _ hv
    ·have : res S r (b.path ++ s') = some v:=by rw [res_app,hu];exact c
     have:=res_inj _ _ h hn this hv
     rw [← this,within_app] at hw
     cases hw
    ·refine hc ⟨h3,hk,?_,?_⟩
     ·have : res S r (b.path ++ s1) = some va:=by rw [res_app,hu];exact c3
      rw [← res_inj _ _ h hn this c2,within_app]
     ·have : res S r (a.path ++ s2) = some v:=by rw [res_app,c1];exact c4
      rw [← res_inj _ _ h hn this hv,within_app]
theorem behind_into {S : Gr α} {a b : Eff α} {first : Bool} {v x : α} {g : Nat} (h : (b.behind a S first).into = some (v,g,x)) : ∃ g',b.into = some (v,g',x):=by
 obtain ⟨out,into⟩:=b
 cases into with
 | none => cases h
 | some q =>
  obtain ⟨v',g',x'⟩:=q
  have h : some (v',a.gap S v' g' first,x') = some (v,g,x):=h
  injection h with h
  simp only [Prod.mk.injEq] at h
  obtain ⟨rfl,-,rfl⟩:=h
  exact ⟨g',rfl⟩
theorem shift_fit {S Sa Sb : Gr α} {r xa xb : α} {t : Tree} {a b : OpT} {ea eb : Eff α} (first : Bool) (h : Unf S r t) (hn : (labs S r t).Nodup) (hm : movesO a = true) (A : Act S r xa a ea) (hSa : Sa = ea.on S) (B : Act S r xb b eb) (hl : ∀ v g x,eb.into = some (v,g,x) → (S.pay v).leaf = false)
  (hx : S.kids xa = []) (hx0 : xa ∉ labs S r t) (hd : ¬ (a.kind = 2 ∧ within a.path b.path = true)) (hd2 : ¬ (a.kind = 2 ∧ b.kind = 3 ∧ within a.path b.to = true))
  (hc : ¬ (a.kind = 3 ∧ b.kind = 3 ∧ within b.path a.to = true ∧ within a.path b.to = true)) (hSb : Sb = (eb.behind ea S first).on Sa) : Fit Sa r xb (shiftedO b a first) Sb:=by
 subst hSa
 subst hSb
 refine .act _ (shift_act first h hn hm A B hx hx0 hd hd2 hc) fun v g x e => ?_
 obtain ⟨g',hg'⟩:=behind_into e
 exact hl v g' x hg'
end
end Bow
/- SP50: both ways round, by names: two that take out and put in; a deletion, and what is below it. -/
namespace Bow
open Go
section
variable {α : Type} [DecidableEq α]
structure Sit (S : Gr α) (r xa xb : α) (t : Tree) (a b : OpT) : Prop where
 unf : Unf S r t
 nodup : (labs S r t).Nodup
 ne : xa ≠ xb
 fa : Unf S xa (freshT a)
 fb : Unf S xb (freshT b)
 na : xa ∉ labs S r t
 nb : xb ∉ labs S r t
 va : ValidE t a = 0
 vb : ValidE t b = 0
omit [DecidableEq α] in
theorem Sit.swap {S : Gr α} {r xa xb : α} {t : Tree} {a b : OpT} (h : Sit S r xa xb t a b) : Sit S r xb xa t b a:=⟨h.unf,h.nodup,h.ne.symm,h.fb,h.fa,h.nb,h.na,h.vb,h.va⟩
omit [DecidableEq α] in
theorem fresh_kids {S : Gr α} {x : α} {o : OpT} (h : Unf S x (freshT o)) : S.kids x = []:=List.length_eq_zero_iff.1 (unf_len h)
theorem Sit.became {S Sa : Gr α} {r xa xb : α} {t : Tree} {a b : OpT} (h : Sit S r xa xb t a b) (F : Fit S r xa a Sa) : Became Sa S r (applyT t a) t a xa :=
 fit_unf h.unf h.nodup F (valid_right h.va).2.1 fun _ => ⟨h.fa,h.na⟩
theorem fresh_after {S Sa : Gr α} {r xa xb : α} {t : Tree} {a b : OpT} (h : Sit S r xa xb t a b) (F : Fit S r xa a Sa) : Unf Sa xb (freshT b) ∧ xb ∉ labs Sa r (applyT t a):=by
 have B:=h.became F
 refine ⟨?_,fun hm => ?_⟩
 ·have hk:=fresh_kids h.fb
  have hne : ∀ p,res S r p ≠ some xb:=fun p e => h.nb (res_self h.unf e)
  have hfb:=unf_eq.1 h.fb
  rw [unf_eq]
  have e : Sa.kids xb = [] ∧ Sa.pay xb = S.pay xb:=by
   cases F with
   | act e A hl =>
    refine ⟨?_,rfl⟩
    show e.kids xb (S.kids xb) = []
    rw [hk]
    have : ∀ m,m ∉ e.kids xb []:=fun m hm => by
     rcases kids_mem hm with c | ⟨g,c⟩
     ·cases c
     ·cases A with
      | ins v hk1 hv =>
       injection c with c
       exact hne _ ((Prod.mk.inj c).1 ▸ hv)
      | del u => cases c
      | mov u v hk1 h1 h2 hu hv =>
       injection c with c
       exact hne _ ((Prod.mk.inj c).1 ▸ hv)
    exact List.eq_nil_iff_forall_not_mem.2 this
   | pay v hk1 hv =>
    refine ⟨hk,if_neg fun c => ?_⟩
    exact hne _ (c ▸ hv)
  rw [e.1,e.2]
  rw [hk] at hfb
  refine ⟨hfb.1,?_⟩
  show Unfs Sa [] []
  rw [Unfs]
  trivial
 ·rcases B.old xb hm with c | ⟨_,c⟩
  ·exact h.nb c
  ·exact h.ne c.symm
theorem one_more {S S' : Gr α} {r x0 : α} {t : Tree} {o : OpT} {i : Nat} {l : List OpT} (h : Unf S r t) (hr : rightT t = true) (hf : formedB o = true) (F : Fit S r x0 o S') : allR t (o :: l) i = allR (applyT t o) l (i + 1) ∧ rightT (applyT t o) = true:=by
 have hv:=fit_valid h hr hf F
 refine ⟨?_,right_applyT hv⟩
 rw [allR,decide_eq_true hv]
 rfl
def Comes (t : Tree) (l : List OpT) (T : Tree) : Prop:=∃ i,allR t l 0 = (T,i,0)
def Meet (t : Tree) (a b : OpT) (p q : List OpT) : Prop:=∃ T,Comes (applyT t b) p T ∧ Comes (applyT t a) q T
theorem Meet.swap {t : Tree} {a b : OpT} {p q : List OpT} (h : Meet t a b p q) : Meet t b a q p:=by
 obtain ⟨T,h1,h2⟩:=h
 exact ⟨T,h2,h1⟩
theorem comes_nil (t : Tree) : Comes t [] t:=⟨0,by rw [allR]⟩
theorem Sit.after {S Sa Sab : Gr α} {r xa xb : α} {t : Tree} {a b b' : OpT} (h : Sit S r xa xb t a b) (F : Fit S r xa a Sa) (F' : Fit Sa r xb b' Sab) (hf : formedB b' = true) (he : freshT b' = freshT b) :
  Comes (applyT t a) [b'] (applyT (applyT t a) b') ∧ Became Sab Sa r (applyT (applyT t a) b') (applyT t a) b' xb ∧ rightT (applyT (applyT t a) b') = true:=by
 have B:=h.became F
 have o:=one_more (i:=0) (l:=[]) B.unf (right_applyT h.va) hf F'
 have fr:=fresh_after h F
 refine ⟨⟨1,by rw [o.1,allR]⟩,fit_unf B.unf B.nodup F' hf fun _ => ⟨he ▸ fr.1,fr.2⟩,o.2⟩
omit [DecidableEq α] in
theorem same_tree {S S' : Gr α} {r : α} {t t' : Tree} (h : Unf S r t) (h' : Unf S' r t') (ag : ∀ z ∈ labs S r t,S'.kids z = S.kids z ∧ S'.pay z = S.pay z) : t = t' :=
 unf_fun t r t' ((unf_agree t r ag).1 h) h'
theorem shifted_fresh (b a : OpT) (f : Bool) : freshT (shiftedO b a f) = freshT b:=by
 unfold shiftedO
 cases decide (b.kind = 1) <;> cases decide (b.kind = 3) <;> rfl
omit [DecidableEq α] in
theorem act_moves {S : Gr α} {r x0 : α} {o : OpT} {e : Eff α} (A : Act S r x0 o e) (hf : formedB o = true) : movesO o = true:=by
 unfold movesO
 rw [hf]
 cases A with
 | ins v hk => simp [hk]
 | del u hk hne =>
  have:=List.length_pos_iff.2 hne
  simp [hk,this]
 | mov u v hk hne hw =>
  have:=List.length_pos_iff.2 hne
  simp [hk,this,hw]
theorem meet_act {S : Gr α} {r xa xb : α} {t : Tree} {a b : OpT} {ea eb : Eff α} (prior : Bool) (h : Sit S r xa xb t a b) (A : Act S r xa a ea) (B : Act S r xb b eb)
  (la : ∀ v g x,ea.into = some (v,g,x) → (S.pay v).leaf = false) (lb : ∀ v g x,eb.into = some (v,g,x) → (S.pay v).leaf = false)
  (h1 : ∀ v g x,eb.into = some (v,g,x) → ea.out ≠ some x) (h2 : ∀ v g x,ea.into = some (v,g,x) → eb.out ≠ some x)
  (d1 : ¬ (a.kind = 2 ∧ within a.path b.path = true)) (d2 : ¬ (a.kind = 2 ∧ b.kind = 3 ∧ within a.path b.to = true))
  (d3 : ¬ (b.kind = 2 ∧ within b.path a.path = true)) (d4 : ¬ (b.kind = 2 ∧ a.kind = 3 ∧ within b.path a.to = true))
  (hc : ¬ (a.kind = 3 ∧ b.kind = 3 ∧ within b.path a.to = true ∧ within a.path b.to = true))
  (f1 : formedB (shiftedO b a prior) = true) (f2 : formedB (shiftedO a b (!prior)) = true) : Meet t a b [shiftedO a b (!prior)] [shiftedO b a prior]:=by
 have Fa : Fit S r xa a (ea.on S):=.act ea A la
 have Fb : Fit S r xb b (eb.on S):=.act eb B lb
 have Fab:=shift_fit (Sb:=(eb.behind ea S prior).on (ea.on S)) prior h.unf h.nodup (act_moves A (valid_right h.va).2.1) A rfl B lb (fresh_kids h.fa) h.na d1 d2 hc rfl
 have Fba:=shift_fit (Sb:=(ea.behind eb S (!prior)).on (eb.on S)) (!prior) h.unf h.nodup (act_moves B (valid_right h.vb).2.1) B rfl A la (fresh_kids h.fb) h.nb d3 d4 (fun c => hc ⟨c.2.1,c.1,c.2.2.2,c.2.2.1⟩) rfl
 rw [← eff_square S ea eb prior h1 h2] at Fba
 have c1:=h.after Fa Fab f1 (shifted_fresh ..)
 have c2:=h.swap.after Fb Fba f2 (shifted_fresh ..)
 have e:=same_tree c1.2.1.unf c2.2.1.unf fun z _ => ⟨rfl,rfl⟩
 exact ⟨_,c2.1,e ▸ c1.1⟩
end
end Bow
/- SP51: two attributes set, one behind the other. -/
namespace Bow
open Go
theorem sorted_ext : ∀ {l l' : AttrL} {k k' : Option (List UInt8)},attrsOk k l = true → attrsOk k' l' = true → (∀ x,x ∈ l ↔ x ∈ l') → l = l'
 | [],[],_,_,_,_,_ => rfl
 | [],b :: l',_,_,_,_,h => by
  have:=(h b).2 (by simp)
  cases this
 | a :: l,[],_,_,_,_,h => by
  have:=(h a).1 (by simp)
  cases this
 | a :: l,b :: l',_,_,h1,h2,h => by
  have t1:=attrs_behind (attrsOk_tail h1)
  have t2:=attrs_behind (attrsOk_tail h2)
  have hab : a = b:=by
   rcases List.mem_cons.1 ((h a).1 (by simp)) with e | e
   ·exact e
   ·rcases List.mem_cons.1 ((h b).2 (by simp)) with e' | e'
    ·exact e'.symm
    ·have c:=less_trans (t1 b e') (t2 a e)
     rw [less_irrefl] at c
     cases c
  subst hab
  congr 1
  refine sorted_ext (attrsOk_tail h1) (attrsOk_tail h2) fun x => ⟨fun hx => ?_,fun hx => ?_⟩
  ·rcases List.mem_cons.1 ((h x).1 (by simp [hx])) with e | e
   ·have:=t1 x hx
    rw [e,less_irrefl] at this
    cases this
   ·exact e
  ·rcases List.mem_cons.1 ((h x).2 (by simp [hx])) with e | e
   ·have:=t2 x hx
    rw [e,less_irrefl] at this
    cases this
   ·exact e
theorem refA_mem (o : OpT) (x : List UInt8 × List UInt8) : ∀ (l : AttrL) (done : Bool),x ∈ refA o done l ↔ (x ∈ l ∧ x.1 ≠ o.key) ∨ (done = false ∧ x = (o.key,o.value))
 | [],done => by
  rw [refA]
  cases done <;> simp
 | a :: l,done => by
  rw [refA,List.mem_append,List.mem_append,refA_mem o x l]
  have h1 : x ∈ (bif decide (a.1 = o.key) then [] else [a]) ↔ x = a ∧ x.1 ≠ o.key:=by
   by_cases e : a.1 = o.key
   ·rw [decide_eq_true e]
    simp only [cond_true,List.not_mem_nil,false_iff]
    rintro ⟨rfl,c⟩
    exact c e
   ·rw [decide_eq_false e]
    simp only [cond_false,List.mem_singleton]
    refine ⟨fun c => ⟨c,c ▸ e⟩,fun c => c.1⟩
  have h2 : x ∈ (bif !done && !Op.bytesLess a.1 o.key then [(o.key,o.value)] else []) ↔ (done = false ∧ Op.bytesLess a.1 o.key = false ∧ x = (o.key,o.value)):=by
   cases done <;> cases Op.bytesLess a.1 o.key <;> simp
  have h3 : ((done || !Op.bytesLess a.1 o.key) = false) ↔ (done = false ∧ ¬ Op.bytesLess a.1 o.key = false):=by
   cases done <;> cases Op.bytesLess a.1 o.key <;> simp
  rw [h1,h2,h3,List.mem_cons]
  have taut : ∀ P Q K D E N : Prop,((D ∧ E ∧ N) ∨ (P ∧ ¬ K) ∨ (Q ∧ ¬ K) ∨ ((D ∧ ¬ E) ∧ N)) ↔ ((P ∨ Q) ∧ ¬ K) ∨ (D ∧ N):=by
   intro P Q K D E N
   by_cases P <;> by_cases Q <;> by_cases K <;> by_cases D <;> by_cases E <;> by_cases N <;> simp [*]
  exact taut _ _ _ _ _ _
theorem setA_mem {o : OpT} {l : AttrL} {k0 : Option (List UInt8)} (h : attrsOk k0 l = true) (x : List UInt8 × List UInt8) : x ∈ setA o l ↔ (x ∈ l ∧ x.1 ≠ o.key) ∨ (o.gone = false ∧ x = (o.key,o.value)):=by
 rw [← attr_law o h,refA_mem]
theorem setA_ok {o : OpT} {l : AttrL} (h : attrsOk none l = true) (hk : keyOk o.key = true) (hv : o.gone = true ∨ o.value.length ≤ 256) : attrsOk none (setA o l) = true:=by
 rw [← attr_law o h]
 cases hg : o.gone with
 | true => exact refA_true_ok o h
 | false =>
  rcases hv with c | c
  ·rw [hg] at c;cases c
  ·exact refA_false_ok o hk c h rfl
theorem setA_comm {a b : OpT} {l : AttrL} (h : attrsOk none l = true) (ka : keyOk a.key = true) (va : a.gone = true ∨ a.value.length ≤ 256) (kb : keyOk b.key = true) (vb : b.gone = true ∨ b.value.length ≤ 256) (hne : a.key ≠ b.key) : setA b (setA a l) = setA a (setA b l):=by
 have ha:=setA_ok h ka va
 have hb:=setA_ok h kb vb
 refine sorted_ext (setA_ok ha kb vb) (setA_ok hb ka va) fun x => ?_
 rw [setA_mem ha,setA_mem hb,setA_mem h,setA_mem h]
 constructor
 ·rintro (⟨⟨c1,c2⟩ | ⟨c1,c2⟩,c3⟩ | ⟨c1,c2⟩)
  ·exact .inl ⟨.inl ⟨c1,c3⟩,c2⟩
  ·exact .inr ⟨c1,c2⟩
  ·exact .inl ⟨.inr ⟨c1,c2⟩,by rw [c2];exact hne.symm⟩
 ·rintro (⟨⟨c1,c2⟩ | ⟨c1,c2⟩,c3⟩ | ⟨c1,c2⟩)
  ·exact .inl ⟨.inl ⟨c1,c3⟩,c2⟩
  ·exact .inr ⟨c1,c2⟩
  ·exact .inl ⟨.inr ⟨c1,c2⟩,by rw [c2];exact hne⟩
theorem setA_again {a b : OpT} {l : AttrL} (h : attrsOk none l = true) (ka : keyOk a.key = true) (va : a.gone = true ∨ a.value.length ≤ 256) (vb : b.gone = true ∨ b.value.length ≤ 256) (he : a.key = b.key) : setA b (setA a l) = setA b l:=by
 have ha:=setA_ok h ka va
 refine sorted_ext (setA_ok ha (he ▸ ka) vb) (setA_ok h (he ▸ ka) vb) fun x => ?_
 rw [setA_mem ha,setA_mem h,setA_mem h,he]
 constructor
 ·rintro (⟨⟨c1,c2⟩ | ⟨c1,c2⟩,c3⟩ | c)
  ·exact .inl ⟨c1,c3⟩
  ·exact absurd (by rw [c2]) c3
  ·exact .inr c
 ·rintro (⟨c1,c2⟩ | c)
  ·exact .inl ⟨.inl ⟨c1,c2⟩,c2⟩
  ·exact .inr c
end Bow
/- SP52: both ways round, by names: what stands at nodes is turned; a deletion, and what is below it. -/
namespace Bow
open Go
theorem still_of {o : OpT} (h : 4 ≤ o.kind ∧ o.kind ≤ 6) : movesO o = false:=by
 unfold movesO
 rw [decide_eq_false (show ¬ o.kind = 1 by omega),decide_eq_false (show ¬ o.kind = 2 by omega),decide_eq_false (show ¬ o.kind = 3 by omega)]
 simp
theorem shifted_still {a b : OpT} (f : Bool) (h : movesO a = false) : shiftedO b a f = b:=by
 have hg : ∀ p g,gapP a p g f = (p,g,true):=fun p g => by
  unfold gapP
  rw [node_still p h]
  simp only [h,Bool.not_false,cond_true]
 unfold shiftedO
 rw [hg,hg,node_still _ h]
 cases decide (b.kind = 1) <;> cases decide (b.kind = 3) <;> (cases b;rfl)
theorem shifted_pay {a b : OpT} {p' : List Int} (f : Bool) (hk : 4 ≤ b.kind ∧ b.kind ≤ 6) (h : nodeP a b.path = some p') : shiftedO b a f = { b with path:=p' }:=by
 unfold shiftedO
 rw [decide_eq_false (show ¬ b.kind = 1 by omega),decide_eq_false (show ¬ b.kind = 3 by omega),h]
 rfl
section
variable {α : Type} [DecidableEq α]
theorem res_pay (S : Gr α) (v : α) (f : Pay → Pay) : ∀ (p : List Int) (u : α),res (payS S v f) u p = res S u p
 | [],_ => rfl
 | i :: p,u => by
  rw [res,res]
  have : kidS (payS S v f) u i = kidS S u i:=rfl
  rw [this]
  cases kidS S u i with
  | none => rfl
  | some w => exact res_pay S v f p w
theorem act_pay {S : Gr α} {r x0 v : α} {o : OpT} {e : Eff α} {f : Pay → Pay} (A : Act S r x0 o e) : Act (payS S v f) r x0 o e:=by
 cases A with
 | ins w hk hv h0 hg => exact .ins w hk (by rw [res_pay];exact hv) h0 hg
 | del u hk hne hu => exact .del u hk hne (by rw [res_pay];exact hu)
 | mov u w hk hne hw hu hv h0 hg => exact .mov u w hk hne hw (by rw [res_pay];exact hu) (by rw [res_pay];exact hv) h0 hg
theorem pay_leaf_of (S : Gr α) (v z : α) (o : OpT) : ((payS S v (payF o)).pay z).leaf = (S.pay z).leaf:=by
 show (if z = v then payF o (S.pay z) else S.pay z).leaf = _
 split
 ·exact payF_leaf o _
 ·rfl
theorem meet_mix {S : Gr α} {r xa xb v : α} {t : Tree} {a b : OpT} {ea : Eff α} (prior : Bool) (h : Sit S r xa xb t a b) (A : Act S r xa a ea) (la : ∀ v g x,ea.into = some (v,g,x) → (S.pay v).leaf = false)
  (hk : 4 ≤ b.kind ∧ b.kind ≤ 6) (hv : res S r b.path = some v) (he : b.kind = 6 → (S.pay v).leaf = true ∧ (applyE (S.pay v).text b.pieces).2 = 0) (d1 : ¬ (a.kind = 2 ∧ within a.path b.path = true)) (f1 : formedB (shiftedO b a prior) = true) :
  Meet t a b [shiftedO a b (!prior)] [shiftedO b a prior]:=by
 have Fa : Fit S r xa a (ea.on S):=.act ea A la
 have Fb : Fit S r xb b (payS S v (payF b)):=.pay v hk hv he
 have hfa:=(valid_right h.va).2.1
 obtain ⟨p',q1,q2⟩:=node_res h.unf h.nodup A (act_moves A hfa) hv d1
 have e1:=shifted_pay prior hk q1
 have Fab : Fit (ea.on S) r xb (shiftedO b a prior) (payS (ea.on S) v (payF b)):=by
  rw [e1]
  exact .pay (o:={ b with path:=p' }) v hk q2 he
 have e2 : shiftedO a b (!prior) = a:=shifted_still _ (still_of hk)
 have Fba : Fit (payS S v (payF b)) r xa (shiftedO a b (!prior)) (ea.on (payS S v (payF b))):=by
  rw [e2]
  exact .act ea (act_pay A) fun w g x e => by rw [pay_leaf_of];exact la w g x e
 have c1:=h.after Fa Fab f1 (shifted_fresh ..)
 have c2:=h.swap.after Fb Fba (by rw [e2];exact hfa) (shifted_fresh ..)
 have e:=same_tree c1.2.1.unf c2.2.1.unf fun z _ => ⟨rfl,rfl⟩
 exact ⟨_,c2.1,e ▸ c1.1⟩
theorem pay_next {S : Gr α} {r xb v w : α} {a b : OpT} (ka : 4 ≤ a.kind ∧ a.kind ≤ 6) (kb : 4 ≤ b.kind ∧ b.kind ≤ 6) (hw : res S r b.path = some w) (he : b.kind = 6 → (S.pay w).leaf = true ∧ (applyE (S.pay w).text b.pieces).2 = 0) (hne : b.kind = 6 → a.kind = 6 → w ≠ v) :
  Fit (payS S v (payF a)) r xb b (payS (payS S v (payF a)) w (payF b)):=by
 refine .pay w kb (by rw [res_pay];exact hw) fun h6 => ?_
 rw [pay_leaf_of]
 refine ⟨(he h6).1,?_⟩
 have : ((payS S v (payF a)).pay w).text = (S.pay w).text:=by
  show (if w = v then payF a (S.pay w) else S.pay w).text = _
  split
  ·rename_i hwv
   unfold payF
   split
   ·rfl
   ·split
    ·rfl
    ·exact absurd hwv (hne h6 (by omega))
  ·rfl
 rw [this]
 exact (he h6).2
theorem meet_pay {S : Gr α} {r xa xb v w : α} {t : Tree} {a b : OpT} (prior : Bool) (h : Sit S r xa xb t a b) (ka : 4 ≤ a.kind ∧ a.kind ≤ 6) (kb : 4 ≤ b.kind ∧ b.kind ≤ 6) (hv : res S r a.path = some v) (hw : res S r b.path = some w)
  (ha : a.kind = 6 → (S.pay v).leaf = true ∧ (applyE (S.pay v).text a.pieces).2 = 0) (hb : b.kind = 6 → (S.pay w).leaf = true ∧ (applyE (S.pay w).text b.pieces).2 = 0) (hne : b.kind = 6 → a.kind = 6 → w ≠ v)
  (hc : w = v → payF b (payF a (S.pay v)) = payF a (payF b (S.pay v))) : Meet t a b [shiftedO a b (!prior)] [shiftedO b a prior]:=by
 have Fa : Fit S r xa a (payS S v (payF a)):=.pay v ka hv ha
 have Fb : Fit S r xb b (payS S w (payF b)):=.pay w kb hw hb
 have e1 : shiftedO b a prior = b:=shifted_still _ (still_of ka)
 have e2 : shiftedO a b (!prior) = a:=shifted_still _ (still_of kb)
 rw [e1,e2]
 have c1:=h.after Fa (pay_next ka kb hw hb hne) (valid_right h.vb).2.1 rfl
 have c2:=h.swap.after Fb (pay_next kb ka hv ha fun x y z => hne y x z.symm) (valid_right h.va).2.1 rfl
 have e:=same_tree c1.2.1.unf c2.2.1.unf fun z _ => by
  refine ⟨rfl,?_⟩
  show (if z = v then payF a (if z = w then payF b (S.pay z) else S.pay z) else if z = w then payF b (S.pay z) else S.pay z) = (if z = w then payF b (if z = v then payF a (S.pay z) else S.pay z) else if z = v then payF a (S.pay z) else S.pay z)
  by_cases zv : z = v <;> by_cases zw : z = w
  ·subst zv
   subst zw
   simp only [if_pos]
   exact (hc rfl).symm
  ·simp only [if_pos zv,if_neg zw]
  ·simp only [if_neg zv,if_pos zw]
  ·simp only [if_neg zv,if_neg zw]
 exact ⟨_,c2.1,e ▸ c1.1⟩
theorem meet_won {S : Gr α} {r xa xb v : α} {t : Tree} {a b : OpT} (h : Sit S r xa xb t a b) (ka : 4 ≤ a.kind ∧ a.kind ≤ 6) (kb : 4 ≤ b.kind ∧ b.kind ≤ 5) (hv : res S r a.path = some v) (hw : res S r b.path = some v)
  (ha : a.kind = 6 → (S.pay v).leaf = true ∧ (applyE (S.pay v).text a.pieces).2 = 0) (hc : payF b (payF a (S.pay v)) = payF b (S.pay v)) (prior : Bool) : Meet t a b [] [shiftedO b a prior]:=by
 have Fa : Fit S r xa a (payS S v (payF a)):=.pay v ka hv ha
 have Fb : Fit S r xb b (payS S v (payF b)):=.pay v (by omega) hw fun c => by omega
 have e1 : shiftedO b a prior = b:=shifted_still _ (still_of ka)
 rw [e1]
 have c1:=h.after Fa (pay_next ka (by omega) hw (fun c => by omega) fun c => by omega) (valid_right h.vb).2.1 rfl
 have c2:=h.swap.became Fb
 have e:=same_tree c1.2.1.unf c2.unf fun z _ => by
  refine ⟨rfl,?_⟩
  show (if z = v then payF b (S.pay z) else S.pay z) = (if z = v then payF b (if z = v then payF a (S.pay z) else S.pay z) else if z = v then payF a (S.pay z) else S.pay z)
  by_cases zv : z = v
  ·subst zv
   simp only [if_pos]
   exact hc.symm
  ·simp only [if_neg zv]
 exact ⟨_,comes_nil _,e ▸ c1.1⟩
theorem meet_dom {S Sb : Gr α} {r xa xb u : α} {t s : Tree} {a b a' : OpT} (h : Sit S r xa xb t a b) (hk : a.kind = 2) (hne : a.path ≠ []) (hu : res S r a.path = some u) (hs : atT t a.path = some s) (Fb : Fit S r xb b Sb)
  (Fa' : Fit Sb r xa a' (delS Sb u)) (hf : formedB a' = true) (he : freshT a' = freshT a) (ag : ∀ z ∈ labs S r t,z ∉ labs S u s → rm u (Sb.kids z) = rm u (S.kids z) ∧ Sb.pay z = S.pay z) : Meet t a b [a'] []:=by
 have Fa : Fit S r xa a (Eff.on ⟨some u,none⟩ S):=.act _ (.del u hk hne hu) fun v g x e => by cases e
 have B:=h.became Fa
 have c2:=h.swap.after Fb Fa' hf he
 have e:=same_tree B.unf c2.2.1.unf fun z hz => by
  have hz1 : z ∈ labs S r t:=by
   rcases B.old z hz with c | ⟨c,_⟩
   ·exact c
   ·omega
  exact ag z hz1 (B.gone u s hk hu hs z hz)
 exact ⟨_,e ▸ c2.1,comes_nil _⟩
end
end Bow
/- SP53: both ways round, by names: the same node moved by both; a deletion, and what the other one does below it. -/
namespace Bow
open Go
section
variable {α : Type} [DecidableEq α]
theorem out_put (u : α) (g : Nat) (l : List α) : rmo (some u) (putL (some u) g u l) = rmo (some u) l:=by
 unfold putL
 rw [rmo_app,rmo_self,rmo_twice,rmo_twice,← rmo_app,List.take_append_drop]
theorem put_rm (u : α) (g : Nat) (l : List α) : putL (some u) (rmo (some u) (l.take g)).length u (rmo (some u) l) = putL (some u) g u l:=by
 have c:=cut_out (some u) g l
 unfold putL
 rw [c.1,c.2,rmo_twice,rmo_twice]
theorem eff_again (S : Gr α) (u va vb : α) (ga gb : Nat) (first : Bool) :
  (Eff.behind ⟨some u,some (vb,gb,u)⟩ ⟨some u,some (va,ga,u)⟩ S first).on (Eff.on ⟨some u,some (va,ga,u)⟩ S) = Eff.on ⟨some u,some (vb,gb,u)⟩ S:=by
 refine gr_ext (fun z => ?_) fun _ => rfl
 simp only [Eff.on,Eff.behind,Eff.kids,Eff.gap]
 by_cases ha : z = va <;> by_cases hb : z = vb
 ·subst ha
  subst hb
  simp only [if_pos]
  exact put_again first
 ·simp only [if_pos ha,if_neg hb]
  exact out_put _ _ _
 ·subst hb
  simp only [if_pos,if_neg ha]
  exact put_rm _ _ _
 ·simp only [if_neg ha,if_neg hb]
  exact rmo_twice _ _
theorem meet_again {S : Gr α} {r xa xb : α} {t : Tree} {a b : OpT} {ea eb : Eff α} (prior : Bool) (h : Sit S r xa xb t a b) (A : Act S r xa a ea) (B : Act S r xb b eb) (ka : a.kind = 3) (kb : b.kind = 3) (hp : a.path = b.path)
  (la : ∀ v g x,ea.into = some (v,g,x) → (S.pay v).leaf = false) (lb : ∀ v g x,eb.into = some (v,g,x) → (S.pay v).leaf = false) (f1 : formedB (shiftedO b a prior) = true) : Meet t a b [] [shiftedO b a prior]:=by
 have Fa : Fit S r xa a (ea.on S):=.act ea A la
 have Fb : Fit S r xb b (eb.on S):=.act eb B lb
 have Fab : Fit (ea.on S) r xb (shiftedO b a prior) ((eb.behind ea S prior).on (ea.on S)):=by
  refine shift_fit prior h.unf h.nodup (act_moves A (valid_right h.va).2.1) A rfl B lb (fresh_kids h.fa) h.na (fun c => by omega) (fun c => by omega) (fun c => ?_) rfl
  cases A with
  | ins v hk => omega
  | del u hk => omega
  | mov u v hk hne hw =>
   have:=c.2.2.1
   rw [← hp,hw] at this
   cases this
 have e : (eb.behind ea S prior).on (ea.on S) = eb.on S:=by
  cases A with
  | ins v hk => omega
  | del u hk => omega
  | mov u v hk hne hw hu hv h0 hg =>
   cases B with
   | ins v hk => omega
   | del u hk => omega
   | mov u' v' hk' hne' hw' hu' hv' h0' hg' =>
    rw [← hp,hu] at hu'
    injection hu' with hu'
    subst hu'
    exact eff_again S u v v' _ _ prior
 rw [e] at Fab
 have c1:=h.after Fa Fab f1 (shifted_fresh ..)
 have c2:=h.swap.became Fb
 have e:=same_tree c1.2.1.unf c2.unf fun z _ => ⟨rfl,rfl⟩
 exact ⟨_,comes_nil _,e ▸ c1.1⟩
omit [DecidableEq α] in
theorem below_mem {S : Gr α} {r u v : α} {t s : Tree} {p q : List Int} (h : Unf S r t) (hu : res S r p = some u) (hs : atT t p = some s) (hv : res S r q = some v) (hw : within p q = true) : v ∈ labs S u s:=by
 obtain ⟨q',rfl⟩:=within_split hw
 rw [res_app,hu] at hv
 obtain ⟨s',hs',hus⟩:=at_res h hu
 rw [hs] at hs'
 injection hs' with hs'
 subst hs'
 exact res_self hus hv
omit [DecidableEq α] in
theorem parent_below {S : Gr α} {r u w z : α} {t s : Tree} {p q : List Int} (h : Unf S r t) (hn : (labs S r t).Nodup) (hu : res S r p = some u) (hs : atT t p = some s) (hv : res S r q = some w) (hw : within p q = true) (hne : p ≠ q) (hz : z ∈ labs S r t) (hm : w ∈ S.kids z) : z ∈ labs S u s:=by
 obtain ⟨q',rfl⟩:=within_split hw
 have hq : q' ≠ []:=fun c => hne (by rw [c,List.append_nil])
 rw [← snoc_last hq,← List.append_assoc,res_snoc] at hv
 cases hf : res S r (p ++ q'.dropLast) with
 | none => rw [hf] at hv;cases hv
 | some f =>
  rw [hf] at hv
  obtain ⟨i,hi⟩:=List.getElem?_of_mem hm
  have:=(parent_one h hn hz (res_self h hf) hi (kidS_some (S:=S) hv).2).1
  subst this
  exact below_mem h hu hs hf (within_app _ _)
end
end Bow
/- SP54: both ways round, by names: a deletion, and what the other one does at or below the node. -/
namespace Bow
open Go
section
variable {α : Type} [DecidableEq α]
theorem meet_del_act {S : Gr α} {r xa xb u : α} {t s : Tree} {a b : OpT} {eb : Eff α} (f : Bool) (h : Sit S r xa xb t a b) (hk : a.kind = 2) (hne : a.path ≠ []) (hu : res S r a.path = some u) (hs : atT t a.path = some s) (B : Act S r xb b eb)
  (lb : ∀ v g x,eb.into = some (v,g,x) → (S.pay v).leaf = false) (d3 : ¬ (b.kind = 2 ∧ within b.path a.path = true)) (f2 : formedB (shiftedO a b f) = true)
  (ag : ∀ z ∈ labs S r t,z ∉ labs S u s → rm u (eb.kids z (S.kids z)) = rm u (S.kids z)) : Meet t a b [shiftedO a b f] []:=by
 have Fb : Fit S r xb b (eb.on S):=.act eb B lb
 have A : Act S r xa a ⟨some u,none⟩:=.del u hk hne hu
 have A':=shift_act f h.unf h.nodup (act_moves B (valid_right h.vb).2.1) B A (fresh_kids h.fb) h.nb d3 (fun c => by omega) (fun c => by omega)
 have Fa' : Fit (eb.on S) r xa (shiftedO a b f) (delS (eb.on S) u):=.act _ A' fun v g x e => by cases e
 exact meet_dom h hk hne hu hs Fb Fa' f2 (shifted_fresh ..) fun z hz hzs => ⟨ag z hz hzs,rfl⟩
theorem meet_del_pay {S : Gr α} {r xa xb u v : α} {t s : Tree} {a b : OpT} (f : Bool) (h : Sit S r xa xb t a b) (hk : a.kind = 2) (hne : a.path ≠ []) (hu : res S r a.path = some u) (hs : atT t a.path = some s)
  (kb : 4 ≤ b.kind ∧ b.kind ≤ 6) (hv : res S r b.path = some v) (he : b.kind = 6 → (S.pay v).leaf = true ∧ (applyE (S.pay v).text b.pieces).2 = 0) (hw : within a.path b.path = true) : Meet t a b [shiftedO a b f] []:=by
 have Fb : Fit S r xb b (payS S v (payF b)):=.pay v kb hv he
 have A : Act S r xa a ⟨some u,none⟩:=.del u hk hne hu
 have e2 : shiftedO a b f = a:=shifted_still _ (still_of kb)
 rw [e2]
 have Fa' : Fit (payS S v (payF b)) r xa a (delS (payS S v (payF b)) u):=.act _ (act_pay A) fun v g x e => by cases e
 have hvm:=below_mem h.unf hu hs hv hw
 exact meet_dom h hk hne hu hs Fb Fa' (valid_right h.va).2.1 rfl fun z hz hzs => ⟨rfl,if_neg fun c : z = v => hzs (c ▸ hvm)⟩
theorem meet_del_ins {S : Gr α} {r xa xb u : α} {t s : Tree} {a b : OpT} {eb : Eff α} (f : Bool) (h : Sit S r xa xb t a b) (hk : a.kind = 2) (hne : a.path ≠ []) (hu : res S r a.path = some u) (hs : atT t a.path = some s) (B : Act S r xb b eb) (kb : b.kind = 1)
  (lb : ∀ v g x,eb.into = some (v,g,x) → (S.pay v).leaf = false) (f2 : formedB (shiftedO a b f) = true) (hw : within a.path b.path = true) : Meet t a b [shiftedO a b f] []:=by
 refine meet_del_act f h hk hne hu hs B lb (fun c => by omega) f2 fun z hz hzs => ?_
 cases B with
 | ins v hk1 hv h0 hg =>
  have hvm:=below_mem h.unf hu hs hv hw
  have : (Eff.kids ⟨none,some (v,b.at_.toNat,xb)⟩ z (S.kids z)) = S.kids z:=if_neg fun c : z = v => hzs (c ▸ hvm)
  rw [this]
 | del u hk1 => omega
 | mov u v hk1 => omega
theorem meet_del_del {S : Gr α} {r xa xb u : α} {t s : Tree} {a b : OpT} {eb : Eff α} (f : Bool) (h : Sit S r xa xb t a b) (hk : a.kind = 2) (hne : a.path ≠ []) (hu : res S r a.path = some u) (hs : atT t a.path = some s) (B : Act S r xb b eb) (kb : b.kind = 2)
  (lb : ∀ v g x,eb.into = some (v,g,x) → (S.pay v).leaf = false) (f2 : formedB (shiftedO a b f) = true) (hw : within a.path b.path = true) (hp : a.path ≠ b.path) : Meet t a b [shiftedO a b f] []:=by
 refine meet_del_act f h hk hne hu hs B lb (fun c => hp ?_) f2 fun z hz hzs => ?_
 ·have h1:=within_len hw
  have h2:=within_len c.2
  obtain ⟨q,hq⟩:=within_split hw
  have : q = []:=List.length_eq_zero_iff.1 (by have:=congrArg List.length hq;simp at this;omega)
  rw [this,List.append_nil] at hq
  exact hq.symm
 cases B with
 | ins v hk1 => omega
 | mov u v hk1 => omega
 | del w hk1 hne1 hw1 =>
  have : (Eff.kids ⟨some w,none⟩ z (S.kids z)) = S.kids z:=rm_none fun hm => hzs (parent_below h.unf h.nodup hu hs hw1 hw hp hz hm)
  rw [this]
theorem meet_del_same {S : Gr α} {r xa xb u : α} {t : Tree} {a b : OpT} (h : Sit S r xa xb t a b) (hk : a.kind = 2) (hne : a.path ≠ []) (hu : res S r a.path = some u) (kb : b.kind = 2) (hp : a.path = b.path) : Meet t a b [] []:=by
 have Fa : Fit S r xa a (Eff.on ⟨some u,none⟩ S):=.act _ (.del u hk hne hu) fun v g x e => by cases e
 have Fb : Fit S r xb b (Eff.on ⟨some u,none⟩ S):=.act _ (.del u kb (hp ▸ hne) (hp ▸ hu)) fun v g x e => by cases e
 have e:=same_tree (h.became Fa).unf (h.swap.became Fb).unf fun z _ => ⟨rfl,rfl⟩
 exact ⟨_,comes_nil _,e ▸ comes_nil _⟩
theorem meet_del_mov {S : Gr α} {r xa xb u : α} {t s : Tree} {a b : OpT} {eb : Eff α} (f : Bool) (h : Sit S r xa xb t a b) (hk : a.kind = 2) (hne : a.path ≠ []) (hu : res S r a.path = some u) (hs : atT t a.path = some s) (B : Act S r xb b eb) (kb : b.kind = 3)
  (lb : ∀ v g x,eb.into = some (v,g,x) → (S.pay v).leaf = false) (f2 : formedB (shiftedO a b f) = true) (hw : within a.path b.path = true) (hp : a.path = b.path ∨ within a.path b.to = true) : Meet t a b [shiftedO a b f] []:=by
 refine meet_del_act f h hk hne hu hs B lb (fun c => by omega) f2 fun z hz hzs => ?_
 cases B with
 | ins v hk1 => omega
 | del w hk1 => omega
 | mov w v hk1 hne1 hww hw1 hv h0 hg =>
  by_cases e : a.path = b.path
  ·rw [← e,hu] at hw1
   injection hw1 with hw1
   subst hw1
   show rm u (if z = v then putL (some u) b.at_.toNat u (S.kids z) else rmo (some u) (S.kids z)) = _
   split
   ·exact out_put u _ _
   ·exact rmo_twice (some u) _
  ·have hvm:=below_mem h.unf hu hs hv (hp.resolve_left e)
   have : (Eff.kids ⟨some w,some (v,b.at_.toNat,w)⟩ z (S.kids z)) = rmo (some w) (S.kids z):=if_neg fun c : z = v => hzs (c ▸ hvm)
   rw [this,show rmo (some w) (S.kids z) = S.kids z from rm_none fun hm => hzs (parent_below h.unf h.nodup hu hs hw1 hw e hz hm)]
end
end Bow
/- SP55: both ways round, by names: a move out of what is deleted, and a move into it. -/
namespace Bow
open Go
section
variable {α : Type} [DecidableEq α]
theorem next_unf {S1 S2 : Gr α} {r x : α} {t1 : Tree} {o : OpT} (h : Unf S1 r t1) (hn : (labs S1 r t1).Nodup) (hr : rightT t1 = true) (hf : formedB o = true) (F : Fit S1 r x o S2) (hk : o.kind ≠ 1) :
  (∀ l i,allR t1 (o :: l) i = allR (applyT t1 o) l (i + 1)) ∧ Became S2 S1 r (applyT t1 o) t1 o x ∧ rightT (applyT t1 o) = true :=
 ⟨fun _ _ => (one_more h hr hf F).1,fit_unf h hn F hf fun c => absurd c hk,(one_more (i:=0) (l:=[]) h hr hf F).2⟩
omit [DecidableEq α] in
theorem drop_act {S : Gr α} {r x w : α} {p : List Int} (hw : res S r p = some w) (hne : w ≠ r) : Act S r x (dropO p) ⟨some w,none⟩:=by
 refine .del w rfl (fun c => ?_) hw
 have c : p = []:=c
 subst c
 rw [res] at hw
 injection hw with hw
 exact hne hw.symm
omit [DecidableEq α] in
theorem not_root {S : Gr α} {r u : α} {t : Tree} {p : List Int} (h : Unf S r t) (hn : (labs S r t).Nodup) (hne : p ≠ []) (hu : res S r p = some u) : u ≠ r:=fun c => by
 subst c
 exact hne (res_inj _ [] h hn hu rfl)
theorem meet_del_into {S : Gr α} {r xa xb u : α} {t s : Tree} {a b : OpT} {eb : Eff α} (f : Bool) (h : Sit S r xa xb t a b) (hk : a.kind = 2) (hne : a.path ≠ []) (hu : res S r a.path = some u) (hs : atT t a.path = some s) (B : Act S r xb b eb) (kb : b.kind = 3)
  (lb : ∀ v g x,eb.into = some (v,g,x) → (S.pay v).leaf = false) (hw : within a.path b.path = false) (hp : within a.path b.to = true) (f1 : formedB (dropO ((nodeP a b.path).getD [])) = true) (f2 : formedB (shiftedO a b f) = true) :
  Meet t a b [shiftedO a b f] [dropO ((nodeP a b.path).getD [])]:=by
 have A : Act S r xa a ⟨some u,none⟩:=.del u hk hne hu
 have Fa : Fit S r xa a (Eff.on ⟨some u,none⟩ S):=.act _ A fun v g x e => by cases e
 have Fb : Fit S r xb b (eb.on S):=.act eb B lb
 have Ba:=h.became Fa
 have A':=shift_act f h.unf h.nodup (act_moves B (valid_right h.vb).2.1) B A (fresh_kids h.fb) h.nb (fun c => by omega) (fun c => by omega) (fun c => by omega)
 have Fa' : Fit (eb.on S) r xa (shiftedO a b f) (delS (eb.on S) u):=.act _ A' fun v g x e => by cases e
 have c2:=h.swap.after Fb Fa' f2 (shifted_fresh ..)
 cases B with
 | ins v hk1 => omega
 | del w hk1 => omega
 | mov w v hk1 hne1 hww hw1 hv h0 hg =>
  obtain ⟨p',q1,q2⟩:=node_res h.unf h.nodup A (act_moves A (valid_right h.va).2.1) hw1 fun c => by rw [hw] at c;cases c.2
  rw [q1] at f1 ⊢
  rw [Option.getD_some] at f1 ⊢
  have F' : Fit (Eff.on ⟨some u,none⟩ S) r xb (dropO p') (Eff.on ⟨some w,none⟩ (Eff.on ⟨some u,none⟩ S)):=.act _ (drop_act q2 (not_root h.unf h.nodup hne1 hw1)) fun v g x e => by cases e
  have c1:=next_unf Ba.unf Ba.nodup (right_applyT h.va) f1 F' (show (2 : Int) ≠ 1 by decide)
  have hvm:=below_mem h.unf hu hs hv hp
  have e:=same_tree c1.2.1.unf c2.2.1.unf fun z hz => by
   have hz1 : z ∈ labs (Eff.on ⟨some u,none⟩ S) r (applyT t a):=by
    rcases c1.2.1.old z hz with c | ⟨c,_⟩
    ·exact c
    ·cases c
   have hzv : z ≠ v:=fun c => Ba.gone u s hk hu hs z hz1 (c ▸ hvm)
   refine ⟨?_,rfl⟩
   have e1 : (Eff.on ⟨some w,some (v,b.at_.toNat,w)⟩ S).kids z = rmo (some w) (S.kids z):=if_neg hzv
   show rm u ((Eff.on ⟨some w,some (v,b.at_.toNat,w)⟩ S).kids z) = rm w (rm u (S.kids z))
   rw [e1]
   exact rm_comm u w (S.kids z)
  exact ⟨_,c2.1,e ▸ ⟨1,by rw [c1.1,allR]⟩⟩
theorem meet_del_out {S : Gr α} {r xa xb u : α} {t s : Tree} {a b : OpT} {eb : Eff α} (h : Sit S r xa xb t a b) (hk : a.kind = 2) (hne : a.path ≠ []) (hu : res S r a.path = some u) (hs : atT t a.path = some s) (B : Act S r xb b eb) (kb : b.kind = 3)
  (lb : ∀ v g x,eb.into = some (v,g,x) → (S.pay v).leaf = false) (hw : within a.path b.path = true) (hp : a.path ≠ b.path)
  (f1 : formedB (dropO ((nodeP b b.path).getD [])) = true) (f2 : formedB (dropO ((nodeP (dropO ((nodeP b b.path).getD [])) ((nodeP b a.path).getD [])).getD [])) = true) :
  Meet t a b [dropO ((nodeP b b.path).getD []),dropO ((nodeP (dropO ((nodeP b b.path).getD [])) ((nodeP b a.path).getD [])).getD [])] []:=by
 have A : Act S r xa a ⟨some u,none⟩:=.del u hk hne hu
 have Fa : Fit S r xa a (Eff.on ⟨some u,none⟩ S):=.act _ A fun v g x e => by cases e
 have Fb : Fit S r xb b (eb.on S):=.act eb B lb
 have Ba:=h.became Fa
 have Bb:=h.swap.became Fb
 have hmv:=act_moves B (valid_right h.vb).2.1
 cases B with
 | ins v hk1 => omega
 | del w hk1 => omega
 | mov w v hk1 hne1 hww hw1 hv h0 hg =>
  have B : Act S r xb b ⟨some w,some (v,b.at_.toNat,w)⟩:=.mov w v hk1 hne1 hww hw1 hv h0 hg
  obtain ⟨p1,q1,q2⟩:=node_res h.unf h.nodup B hmv hw1 fun c => by omega
  obtain ⟨p2,q3,q4⟩:=node_res h.unf h.nodup B hmv hu fun c => by omega
  rw [q1,q3] at f2 ⊢
  rw [q1] at f1
  simp only [Option.getD_some] at f1 f2 ⊢
  have nw:=not_root h.unf h.nodup hne1 hw1
  have nu:=not_root h.unf h.nodup hne hu
  have D1 : Act (Eff.on ⟨some w,some (v,b.at_.toNat,w)⟩ S) r xb (dropO p1) ⟨some w,none⟩:=drop_act q2 nw
  have F1 : Fit (Eff.on ⟨some w,some (v,b.at_.toNat,w)⟩ S) r xb (dropO p1) (Eff.on ⟨some w,none⟩ (Eff.on ⟨some w,some (v,b.at_.toNat,w)⟩ S)):=.act _ D1 fun v g x e => by cases e
  have c1:=next_unf Bb.unf Bb.nodup (right_applyT h.vb) f1 F1 (show (2 : Int) ≠ 1 by decide)
  have hm1 : movesO (dropO p1) = true:=act_moves D1 f1
  have hnw : ¬ ((dropO p1).kind = 2 ∧ within (dropO p1).path p2 = true):=fun c => by
   obtain ⟨q,hq⟩:=within_split (show within p1 p2 = true from c.2)
   subst hq
   rw [res_app,q2] at q4
   rcases below_after B (fresh_kids h.fb) (fun p e => h.nb (res_self h.unf e)) _ q u rfl q4 with c | ⟨s',c⟩ | ⟨_,w',v',s1,s2,c1,c2,c3,c4⟩
   ·subst c
    exact h.nb (res_self h.unf hu)
   ·have : res S r (b.path ++ s') = some u:=by rw [res_app,hw1];exact c
    have:=res_inj _ _ h.unf h.nodup this hu
    obtain ⟨k,hk'⟩:=within_split hw
    rw [← this,List.append_assoc] at hk'
    have hk':=List.append_right_eq_self.1 hk'.symm
    have hs0 : s' = []:=(List.append_eq_nil_iff.1 hk').1
    rw [hs0,List.append_nil] at this
    exact hp this.symm
   ·rw [hw1] at c1
    injection c1 with c1
    subst c1
    have h1 : res S r (b.path ++ s2) = some u:=by rw [res_app,hw1];exact c4
    have:=res_inj _ _ h.unf h.nodup h1 hu
    obtain ⟨k,hk'⟩:=within_split hw
    rw [← this,List.append_assoc] at hk'
    have hk':=List.append_right_eq_self.1 hk'.symm
    have hs0 : s2 = []:=(List.append_eq_nil_iff.1 hk').1
    rw [hs0,List.append_nil] at this
    exact hp this.symm
  obtain ⟨p3,q5,q6⟩:=node_res Bb.unf Bb.nodup D1 hm1 q4 hnw
  rw [q5] at f2 ⊢
  simp only [Option.getD_some] at f2 ⊢
  have F2 : Fit (Eff.on ⟨some w,none⟩ (Eff.on ⟨some w,some (v,b.at_.toNat,w)⟩ S)) r xb (dropO p3) (Eff.on ⟨some u,none⟩ (Eff.on ⟨some w,none⟩ (Eff.on ⟨some w,some (v,b.at_.toNat,w)⟩ S))):=.act _ (drop_act q6 nu) fun v g x e => by cases e
  have c2:=next_unf c1.2.1.unf c1.2.1.nodup c1.2.2 f2 F2 (show (2 : Int) ≠ 1 by decide)
  have e:=same_tree Ba.unf c2.2.1.unf fun z hz => by
   have hz1 : z ∈ labs S r t:=by
    rcases Ba.old z hz with c | ⟨c,_⟩
    ·exact c
    ·omega
   have hzs:=Ba.gone u s hk hu hs z hz
   refine ⟨?_,rfl⟩
   have e1 : rmo (some w) (if z = v then putL (some w) b.at_.toNat w (S.kids z) else rmo (some w) (S.kids z)) = S.kids z:=by
    have e2 : rmo (some w) (S.kids z) = S.kids z:=rm_none fun hm => hzs (parent_below h.unf h.nodup hu hs hw1 hw hp hz1 hm)
    split
    ·rw [out_put,e2]
    ·rw [rmo_twice,e2]
   exact congrArg (rm u) e1
  exact ⟨_,e ▸ ⟨2,by rw [c1.1,c2.1,allR]⟩,comes_nil _⟩
end
end Bow
/- SP56: a move undone, by names. -/
namespace Bow
open Go
section
variable {α : Type} [DecidableEq α]
theorem put_back {u : α} {j g : Nat} {l l' : List α} (hn : l.Nodup) (hj : l[j]? = some u) (h1 : rmo (some u) l' = rmo (some u) l) (h2 : (rmo (some u) (l'.take g)).length = j) : putL (some u) g u l' = l:=by
 have hjl:=(List.getElem?_eq_some_iff.1 hj).1
 have e:=split_get hj
 have hn':=hn
 rw [e] at hn'
 obtain ⟨n1,n2,n3⟩:=List.nodup_append.1 hn'
 have hA : u ∉ l.take j:=fun h => n3 u h u (by simp) rfl
 have hB : u ∉ l.drop (j + 1):=(List.nodup_cons.1 n2).1
 have e1 : rmo (some u) l = l.take j ++ l.drop (j + 1):=by
  conv => lhs;rw [e]
  rw [rmo_app,rmo_self]
  show rm u _ ++ rm u _ = _
  rw [rm_none hA,rm_none hB]
 have c:=cut_out (some u) g l'
 rw [h1,e1,h2] at c
 have hl : (l.take j).length = j:=by rw [List.length_take];omega
 have m:=take_mid (a:=l.take j) (b:=l.drop (j + 1)) hl
 rw [m.1,m.2] at c
 unfold putL
 rw [← c.1,← c.2,← e]
omit [DecidableEq α] in
theorem kids_nodup {S : Gr α} {r f : α} {t : Tree} (h : Unf S r t) (hn : (labs S r t).Nodup) (hf : f ∈ labs S r t) : (S.kids f).Nodup:=by
 rw [List.nodup_iff_pairwise_ne,List.pairwise_iff_getElem]
 intro i j hi hjl hij he
 have hx:=List.getElem?_eq_getElem hjl
 have hy : (S.kids f)[i]? = some (S.kids f)[j]:=by rw [← he,List.getElem?_eq_getElem hi]
 have:=(parent_one h hn hf hf hy hx).2
 omega
theorem undo_act {S : Gr α} {r x u f v : α} {t : Tree} {a : OpT} (h : Unf S r t) (hn : (labs S r t).Nodup) (hf : formedB a = true) (hk : a.kind = 3) (hne : a.path ≠ []) (hw : within a.path a.to = false) (hu : res S r a.path = some u) (hv : res S r a.to = some v) (h0 : 0 ≤ a.at_) (hg : a.at_.toNat ≤ (S.kids v).length)
  (hx : S.kids x = []) (hx0 : x ∉ labs S r t) (hff : res S r a.path.dropLast = some f) :
  ∃ g',Act (Eff.on ⟨some u,some (v,a.at_.toNat,u)⟩ S) r x (undoO a) ⟨some u,some (f,g',u)⟩ ∧ ∀ z ∈ labs S r t,(Eff.on ⟨some u,some (f,g',u)⟩ (Eff.on ⟨some u,some (v,a.at_.toNat,u)⟩ S)).kids z = S.kids z:=by
 have A : Act S r x a ⟨some u,some (v,a.at_.toNat,u)⟩:=.mov u v hk hne hw hu hv h0 hg
 have hm:=act_moves A hf
 obtain ⟨f',hf',hl0,hj⟩:=res_last hne hu
 rw [hff] at hf'
 injection hf' with hf'
 subst hf'
 obtain ⟨p1,q1,q2⟩:=node_res h hn A hm hu fun c => by omega
 obtain ⟨p2,q3,q4⟩:=node_res h hn A hm hff fun c => by omega
 have hfm:=res_self h hff
 have hkn:=kids_nodup h hn hfm
 have hland:=land_len2 h hn hne hu hv h0 hg
 have hfrm : (chgO a).frm = a.path.dropLast:=by unfold chgO;simp [hk]
 have hto : (chgO a).to = a.to:=by unfold chgO;simp [hk]
 have hat : (chgO a).at_ = lastP a.path:=by unfold chgO;simp [hk]
 have hgap : (chgO a).gap = a.at_:=rfl
 have hL : (chgO a).land = bif decide (a.path.dropLast = a.to) && decide (lastP a.path < a.at_) then a.at_ - 1 else a.at_:=by
  unfold Chg.land
  rw [hat,hgap,hfrm,hto,Bool.and_comm]
 let g' : Nat:=(lastP a.path).toNat + (if f = v ∧ (rm u ((S.kids v).take a.at_.toNat)).length < (lastP a.path).toNat then 1 else 0)
 have e : undoO a = { noOp 3 with path:=p1,to:=p2,at_:=(g' : Int) }:=by
  unfold undoO
  rw [hm,decide_eq_true hk,q1,hfrm,hto,hat,q3,hL,hland]
  simp only [Bool.and_self,cond_true,Option.getD_some]
  congr 1
  show lastP a.path + _ = (((lastP a.path).toNat + _ : Nat) : Int)
  by_cases c : a.path.dropLast = a.to
  ·have hfv : f = v:=by
    rw [c,hv] at hff
    injection hff with hff
    exact hff.symm
   rw [decide_eq_true c,Bool.true_and]
   by_cases c2 : (rm u ((S.kids v).take a.at_.toNat)).length < (lastP a.path).toNat
   ·rw [decide_eq_true (by omega),if_pos ⟨hfv,c2⟩]
    simp only [cond_true]
    omega
   ·rw [decide_eq_false (by omega),if_neg fun g => c2 g.2]
    simp only [cond_false]
    omega
  ·have hfv : f ≠ v:=fun g => c (by
    subst g
    exact res_inj _ _ h hn hff hv)
   rw [decide_eq_false c,if_neg fun g => hfv g.1]
   simp only [Bool.false_and,cond_false]
   omega
 have hjl:=(List.getElem?_eq_some_iff.1 hj).1
 have hrl : (rm u (S.kids f)).length = (S.kids f).length - 1:=by
  have:=len_out hkn hj (g:=(S.kids f).length) (Nat.le_refl _)
  rw [List.take_length,if_pos hjl] at this
  exact this
 have Ba:=act_unf h hn A hf fun c => by omega
 have hfa:=res_self Ba.unf q4
 have main : ((rmo (some u) (((Eff.on ⟨some u,some (v,a.at_.toNat,u)⟩ S).kids f).take g')).length = (lastP a.path).toNat) ∧ g' ≤ ((Eff.on ⟨some u,some (v,a.at_.toNat,u)⟩ S).kids f).length:=by
  by_cases hfv : f = v
  ·subst hfv
   have hks : (Eff.on ⟨some u,some (f,a.at_.toNat,u)⟩ S).kids f = putL (some u) a.at_.toNat u (S.kids f):=if_pos rfl
   have hn2:=kids_nodup Ba.unf Ba.nodup hfa
   rw [hks] at hn2 ⊢
   have hlen : (putL (some u) a.at_.toNat u (S.kids f)).length = (S.kids f).length:=by
    have h1 : (rm u (S.kids f)).length = _:=rmo_split (some u) a.at_.toNat (S.kids f)
    unfold putL
    rw [List.length_append,List.length_cons]
    omega
   have hg' : g' ≤ (putL (some u) a.at_.toNat u (S.kids f)).length:=by
    rw [hlen]
    show (lastP a.path).toNat + _ ≤ _
    split <;> omega
   refine ⟨?_,hg'⟩
   have:=len_out hn2 (get_new (o:=some u) (g:=a.at_.toNat) (x:=u) (l:=S.kids f)) hg'
   refine Eq.trans this ?_
   show (if (rm u ((S.kids f).take a.at_.toNat)).length < g' then g' - 1 else g') = _
   by_cases c2 : (rm u ((S.kids f).take a.at_.toNat)).length < (lastP a.path).toNat
   ·have e3 : g' = (lastP a.path).toNat + 1:=by
     show (lastP a.path).toNat + _ = _
     rw [if_pos ⟨rfl,c2⟩]
    rw [e3,if_pos (by omega)]
    omega
   ·have e3 : g' = (lastP a.path).toNat:=by
     show (lastP a.path).toNat + _ = _
     rw [if_neg fun g => c2 g.2]
     rfl
    rw [e3,if_neg c2]
  ·have hks : (Eff.on ⟨some u,some (v,a.at_.toNat,u)⟩ S).kids f = rm u (S.kids f):=if_neg hfv
   rw [hks]
   have e3 : g' = (lastP a.path).toNat:=by
    show (lastP a.path).toNat + _ = _
    rw [if_neg fun g => hfv g.1]
    rfl
   have hg' : g' ≤ (rm u (S.kids f)).length:=by omega
   refine ⟨?_,hg'⟩
   refine Eq.trans (len_none (fun hm => (rm_mem.1 hm).2 rfl) hg') e3
 refine ⟨g',?_,fun z hz => ?_⟩
 ·rw [e]
  refine .mov (o:={ noOp 3 with path:=p1,to:=p2,at_:=(g' : Int) }) u f rfl (fun c => ?_) ?_ q2 q4 (Int.natCast_nonneg _) main.2
  ·have c : p1 = []:=c
   subst c
   rw [res] at q2
   injection q2 with q2
   exact not_root h hn hne hu q2.symm
  ·show within p1 p2 = false
   cases hc : within p1 p2 with
   | false => rfl
   | true =>
    exfalso
    obtain ⟨q,hq⟩:=within_split hc
    subst hq
    rw [res_app,q2] at q4
    have hlong : ∀ s',res S u s' ≠ some f:=fun s' c => by
     have : res S r (a.path ++ s') = some f:=by rw [res_app,hu];exact c
     have:=congrArg List.length (res_inj _ _ h hn this hff)
     have h0:=List.length_pos_iff.2 hne
     simp at this
     omega
    rcases below_after A hx (fun p e => hx0 (res_self h e)) _ q f rfl q4 with c | ⟨s',c⟩ | ⟨_,w',v',s1,s2,c1,c2,c3,c4⟩
    ·exact hx0 (c ▸ hfm)
    ·exact hlong s' c
    ·rw [hu] at c1
     injection c1 with c1
     subst c1
     exact hlong s2 c4
 ·have hout : rmo (some u) ((Eff.on ⟨some u,some (v,a.at_.toNat,u)⟩ S).kids z) = rmo (some u) (S.kids z):=by
   show rmo (some u) (if z = v then putL (some u) a.at_.toNat u (S.kids z) else rmo (some u) (S.kids z)) = _
   split
   ·exact out_put _ _ _
   ·exact rmo_twice _ _
  show (if z = f then putL (some u) g' u ((Eff.on ⟨some u,some (v,a.at_.toNat,u)⟩ S).kids z) else rmo (some u) ((Eff.on ⟨some u,some (v,a.at_.toNat,u)⟩ S).kids z)) = _
  split
  ·rename_i hzf
   subst hzf
   exact put_back hkn hj hout main.1
  ·rename_i hzf
   rw [hout]
   refine rm_none fun hm => hzf ?_
   obtain ⟨i,hi⟩:=List.getElem?_of_mem hm
   exact (parent_one h hn hz hfm hi hj).1
end
end Bow
/- SP57: two moves, each of which would bring the other one's node below its own: one is undone. -/
namespace Bow
open Go
section
variable {α : Type} [DecidableEq α]
theorem meet_cycle {S : Gr α} {r xa xb : α} {t : Tree} {a b : OpT} {ea : Eff α} (h : Sit S r xa xb t a b) (A : Act S r xa a ea) (ka : a.kind = 3) (la : ∀ v g x,ea.into = some (v,g,x) → (S.pay v).leaf = false) (f1 : formedB (undoO a) = true) (hl : ∀ f,res S r a.path.dropLast = some f → (S.pay f).leaf = false) :
  Meet t a b [] [undoO a,b]:=by
 have Fa : Fit S r xa a (ea.on S):=.act ea A la
 have Ba:=h.became Fa
 have hfa:=(valid_right h.va).2.1
 cases A with
 | ins v hk => omega
 | del u hk => omega
 | mov u v hk hne hw hu hv h0 hg =>
  obtain ⟨f,hff,_,_⟩:=res_last hne hu
  obtain ⟨g',U,ag⟩:=undo_act h.unf h.nodup hfa hk hne hw hu hv h0 hg (fresh_kids h.fa) h.na hff
  have FU : Fit (Eff.on ⟨some u,some (v,a.at_.toNat,u)⟩ S) r xa (undoO a) (Eff.on ⟨some u,some (f,g',u)⟩ (Eff.on ⟨some u,some (v,a.at_.toNat,u)⟩ S)):=.act _ U fun v' g x e => by
   injection e with e
   rw [← (Prod.mk.inj e).1]
   exact hl f hff
  have hku : (undoO a).kind ≠ 1:=by
   unfold undoO
   cases decide (a.kind = 3) && movesO a
   ·exact show (0 : Int) ≠ 1 by decide
   ·exact show (3 : Int) ≠ 1 by decide
  have c1:=next_unf Ba.unf Ba.nodup (right_applyT h.va) f1 FU hku
  have e:=same_tree h.unf c1.2.1.unf fun z hz => ⟨ag z hz,rfl⟩
  refine ⟨applyT t b,comes_nil _,2,?_⟩
  rw [c1.1,← e,allR,decide_eq_true h.vb,cond_true,allR]
end
end Bow
/- SP62: two edits of one leaf; any two operations, both ways round: the same tree. -/
namespace Bow
open Go
section
variable {α : Type} [DecidableEq α]
theorem payF_edit {o : OpT} (h : o.kind = 6) (p : Pay) : payF o p = { p with text:=(applyE p.text o.pieces).1 }:=by
 unfold payF
 rw [if_neg (by omega),if_neg (by omega)]
theorem meet_edit {S : Gr α} {r xa xb v : α} {t : Tree} {a b : OpT} (prior : Bool) (h : Sit S r xa xb t a b) (ka : a.kind = 6) (kb : b.kind = 6) (hp : a.path = b.path) (hv : res S r a.path = some v)
  (ha : (S.pay v).leaf = true ∧ (applyE (S.pay v).text a.pieces).2 = 0) (hb : (S.pay v).leaf = true ∧ (applyE (S.pay v).text b.pieces).2 = 0) (e1 : (transP a.pieces b.pieces prior).2.2 = 0) (e2 : (transP b.pieces a.pieces (!prior)).2.2 = 0)
  (f1 : formedB (editO a b prior) = true) (f2 : formedB (editO b a (!prior)) = true) : Meet t a b [editO a b prior] [editO b a (!prior)]:=by
 have Fa : Fit S r xa a (payS S v (payF a)):=.pay v (by omega) hv fun _ => ha
 have Fb : Fit S r xb b (payS S v (payF b)):=.pay v (by omega) (hp ▸ hv) fun _ => hb
 have tm:=trans_meet ha.2 hb.2 e1 e2
 have tm2:=trans_meet hb.2 ha.2 e2 (by rw [Bool.not_not];exact e1)
 have pa : (payS S v (payF a)).pay v = payF a (S.pay v):=if_pos rfl
 have pb : (payS S v (payF b)).pay v = payF b (S.pay v):=if_pos rfl
 have Fab : Fit (payS S v (payF a)) r xb (editO b a (!prior)) (payS (payS S v (payF a)) v (payF (editO b a (!prior)))):=by
  refine .pay v (show 4 ≤ b.kind ∧ b.kind ≤ 6 by omega) (by rw [res_pay];exact hp ▸ hv) fun _ => ?_
  rw [pa,payF_leaf,payF_edit ka]
  exact ⟨ha.1,tm2.2⟩
 have Fba : Fit (payS S v (payF b)) r xa (editO a b prior) (payS (payS S v (payF b)) v (payF (editO a b prior))):=by
  refine .pay v (show 4 ≤ a.kind ∧ a.kind ≤ 6 by omega) (by rw [res_pay];exact hv) fun _ => ?_
  rw [pb,payF_leaf,payF_edit kb]
  exact ⟨ha.1,tm.2⟩
 have c1:=h.after Fa Fab f2 rfl
 have c2:=h.swap.after Fb Fba f1 rfl
 have e:=same_tree c1.2.1.unf c2.2.1.unf fun z _ => by
  refine ⟨rfl,?_⟩
  show (if z = v then payF (editO a b prior) (if z = v then payF b (S.pay z) else S.pay z) else if z = v then payF b (S.pay z) else S.pay z) = (if z = v then payF (editO b a (!prior)) (if z = v then payF a (S.pay z) else S.pay z) else if z = v then payF a (S.pay z) else S.pay z)
  by_cases zv : z = v
  ·subst zv
   simp only [if_pos]
   rw [payF_edit ka,payF_edit kb,payF_edit (o:=editO a b prior) ka,payF_edit (o:=editO b a (!prior)) kb]
   show ({ S.pay z with text:=(applyE (applyE (S.pay z).text b.pieces).1 (transP a.pieces b.pieces prior).1).1 } : Pay) = { S.pay z with text:=(applyE (applyE (S.pay z).text a.pieces).1 (transP b.pieces a.pieces (!prior)).1).1 }
   rw [tm.1]
  ·simp only [if_neg zv]
 exact ⟨_,c2.1,e ▸ c1.1⟩
def rowM (b a : OpT) (f : Bool) : List OpT:=bif bothEdit b a then [editO b a f] else rowO b a f
structure OkX (b a : OpT) (f : Bool) : Prop where
 all : ∀ o ∈ rowM b a f,formedB o = true
 edt : bothEdit b a = true → (transP b.pieces a.pieces f).2.2 = 0
theorem OkX.one {b a o : OpT} {f : Bool} (h : OkX b a f) (e : rowM b a f = [o]) : formedB o = true:=h.all o (by rw [e];simp)
theorem OkX.two {b a o o' : OpT} {f : Bool} (h : OkX b a f) (e : rowM b a f = [o,o']) : formedB o = true ∧ formedB o' = true:=⟨h.all o (by rw [e];simp),h.all o' (by rw [e];simp)⟩
omit [DecidableEq α] in
theorem act_kind {S : Gr α} {r x : α} {o : OpT} {e : Eff α} (A : Act S r x o e) : o.kind = 1 ∨ o.kind = 2 ∨ o.kind = 3:=by
 cases A with
 | ins v hk => exact .inl hk
 | del u hk => exact .inr (.inl hk)
 | mov u v hk => exact .inr (.inr hk)
omit [DecidableEq α] in
theorem act_apart {S : Gr α} {r xa xb : α} {t : Tree} {a b : OpT} {ea eb : Eff α} (h : Sit S r xa xb t a b) (A : Act S r xa a ea) (B : Act S r xb b eb) (d1 : ¬ (a.kind = 2 ∧ within a.path b.path = true)) (hp : ¬ (a.kind = 3 ∧ b.kind = 3 ∧ a.path = b.path)) :
  ∀ v g x,eb.into = some (v,g,x) → ea.out ≠ some x:=by
 intro v g x e c
 have hout : (a.kind = 2 ∨ a.kind = 3) ∧ res S r a.path = some x:=by
  cases A with
  | ins v hk => cases c
  | del u hk hne hu =>
   injection c with c
   exact ⟨.inl hk,c ▸ hu⟩
  | mov u v hk hne hw hu =>
   injection c with c
   exact ⟨.inr hk,c ▸ hu⟩
 cases B with
 | del u hk => cases e
 | ins v' hk hv =>
  injection e with e
  have e2:=(Prod.mk.inj (Prod.mk.inj e).2).2
  exact h.nb (e2 ▸ res_self h.unf hout.2)
 | mov u v' hk hne hw hu =>
  injection e with e
  have e2:=(Prod.mk.inj (Prod.mk.inj e).2).2
  subst e2
  have ep:=res_inj _ _ h.unf h.nodup hout.2 hu
  rcases hout.1 with k | k
  ·refine d1 ⟨k,?_⟩
   rw [ep]
   unfold within
   simp
  ·exact hp ⟨k,hk,ep⟩
theorem meet_acts {S : Gr α} {r xa xb : α} {t : Tree} {a b : OpT} {ea eb : Eff α} (prior : Bool) (h : Sit S r xa xb t a b) (A : Act S r xa a ea) (B : Act S r xb b eb)
  (la : ∀ v g x,ea.into = some (v,g,x) → (S.pay v).leaf = false) (lb : ∀ v g x,eb.into = some (v,g,x) → (S.pay v).leaf = false)
  (d1 : ¬ (a.kind = 2 ∧ within a.path b.path = true)) (d2 : ¬ (a.kind = 2 ∧ b.kind = 3 ∧ within a.path b.to = true))
  (d3 : ¬ (b.kind = 2 ∧ within b.path a.path = true)) (d4 : ¬ (b.kind = 2 ∧ a.kind = 3 ∧ within b.path a.to = true))
  (hc : ¬ (a.kind = 3 ∧ b.kind = 3 ∧ within b.path a.to = true ∧ within a.path b.to = true)) (hp : ¬ (a.kind = 3 ∧ b.kind = 3 ∧ a.path = b.path))
  (f1 : formedB (shiftedO a b prior) = true) (f2 : formedB (shiftedO b a (!prior)) = true) : Meet t a b [shiftedO a b prior] [shiftedO b a (!prior)]:=by
 have:=meet_act (!prior) h A B la lb (act_apart h A B d1 hp) (act_apart h.swap B A d3 fun c => hp ⟨c.2.1,c.1,c.2.2.symm⟩) d1 d2 d3 d4 hc f2 (by rw [Bool.not_not];exact f1)
 rw [Bool.not_not] at this
 exact this
theorem meet_mixs {S : Gr α} {r xa xb v : α} {t : Tree} {a b : OpT} {ea : Eff α} (prior : Bool) (h : Sit S r xa xb t a b) (A : Act S r xa a ea) (la : ∀ v g x,ea.into = some (v,g,x) → (S.pay v).leaf = false)
  (hk : 4 ≤ b.kind ∧ b.kind ≤ 6) (hv : res S r b.path = some v) (he : b.kind = 6 → (S.pay v).leaf = true ∧ (applyE (S.pay v).text b.pieces).2 = 0) (d1 : ¬ (a.kind = 2 ∧ within a.path b.path = true)) (f1 : formedB (shiftedO b a (!prior)) = true) :
  Meet t a b [shiftedO a b prior] [shiftedO b a (!prior)]:=by
 have:=meet_mix (!prior) h A la hk hv he d1 f1
 rw [Bool.not_not] at this
 exact this
omit [DecidableEq α] in
theorem parent_open {S : Gr α} {r u : α} {t : Tree} {p : List Int} (h : Unf S r t) (hr : rightT t = true) (hne : p ≠ []) (hu : res S r p = some u) : ∀ f,res S r p.dropLast = some f → (S.pay f).leaf = false:=by
 intro f hf
 obtain ⟨f',hf',_,hk⟩:=res_last hne hu
 rw [hf] at hf'
 injection hf' with hf'
 subst hf'
 obtain ⟨y,hy,hfy⟩:=at_res h hf
 have hlen:=unf_len hfy
 have hy2:=right_at (rightT_parts hr).2 hy
 have hlt:=(List.getElem?_eq_some_iff.1 hk).1
 rw [unf_pay hfy,pay_leaf]
 cases hl : y.leaf with
 | false => rfl
 | true =>
  have:=rightN_leaf (rightA_N hy2) hl
  rw [this] at hlen
  simp at hlen
  rw [hlen] at hlt
  simp at hlt
theorem meet_del {S Sb : Gr α} {r xa xb u : α} {t : Tree} {a b : OpT} (h : Sit S r xa xb t a b) (ka : a.kind = 2) (hne : a.path ≠ []) (hu : res S r a.path = some u) (Fb : Fit S r xb b Sb) (prior : Bool) (k1 : OkX a b prior) (k2 : OkX b a (!prior)) :
  Meet t a b (rowM a b prior) (rowM b a (!prior)):=by
 have A : Act S r xa a ⟨some u,none⟩:=.del u ka hne hu
 have la : ∀ v g x,(⟨some u,none⟩ : Eff α).into = some (v,g,x) → (S.pay v).leaf = false:=fun v g x e => by cases e
 obtain ⟨s,hs,_⟩:=at_res h.unf hu
 have be : bothEdit a b = false:=by unfold bothEdit;simp [ka]
 have be2 : bothEdit b a = false:=by unfold bothEdit;simp [ka]
 have row0 : within a.path b.path = true → rowM b a (!prior) = []:=fun hw => by unfold rowM rowO;simp [be2,ka,hw]
 have rowS : b.kind ≠ 2 → b.kind ≠ 3 → rowM a b prior = [shiftedO a b prior]:=fun h2 h3 => by unfold rowM rowO wonO;simp [be,ka,h2,h3]
 cases Fb with
 | pay v kb hv he =>
  have e1:=rowS (by omega) (by omega)
  by_cases hw : within a.path b.path = true
  ·rw [row0 hw,e1]
   exact meet_del_pay prior h ka hne hu hs kb hv he hw
  ·have e2 : rowM b a (!prior) = [shiftedO b a (!prior)]:=by
    unfold rowM rowO
    simp [be2,ka,hw,show ¬ b.kind = 3 by omega]
   have f2:=k2.one e2
   rw [e1,e2]
   exact meet_mixs prior h A la kb hv he (fun c => hw c.2) f2
 | act e B lb =>
  by_cases hw : within a.path b.path = true
  ·rw [row0 hw]
   rcases act_kind B with kb | kb | kb
   ·have e1:=rowS (by omega) (by omega)
    have f1:=k1.one e1
    rw [e1]
    exact meet_del_ins prior h ka hne hu hs B kb lb f1 hw
   ·by_cases hw2 : within b.path a.path = true
    ·have hp : a.path = b.path:=by
      obtain ⟨q,hq⟩:=within_split hw
      have h1:=within_len hw2
      have : q = []:=List.length_eq_zero_iff.1 (by have:=congrArg List.length hq;simp at this;omega)
      rw [this,List.append_nil] at hq
      exact hq.symm
     have e1 : rowM a b prior = []:=by unfold rowM rowO;simp [be,kb,hw2]
     rw [e1]
     exact meet_del_same h ka hne hu kb hp
    ·have e1 : rowM a b prior = [shiftedO a b prior]:=by unfold rowM rowO;simp [be,kb,hw2,ka]
     have f1:=k1.one e1
     rw [e1]
     refine meet_del_del prior h ka hne hu hs B kb lb f1 hw fun c => hw2 ?_
     rw [c]
     unfold within
     simp
   ·by_cases hp : a.path = b.path ∨ within a.path b.to = true
    ·have e1 : rowM a b prior = [shiftedO a b prior]:=by
      unfold rowM rowO wonO
      rcases hp with hp | hp <;> simp [be,kb,ka,hp]
     have f1:=k1.one e1
     rw [e1]
     exact meet_del_mov prior h ka hne hu hs B kb lb f1 hw hp
    ·have n1 : a.path ≠ b.path:=fun c => hp (.inl c)
     have n2 : within a.path b.to = false:=by
      cases hh : within a.path b.to with
      | false => rfl
      | true => exact absurd (.inr hh) hp
     have e1 : rowM a b prior = [dropO ((nodeP b b.path).getD []),dropO ((nodeP (dropO ((nodeP b b.path).getD [])) ((nodeP b a.path).getD [])).getD [])]:=by
      unfold rowM rowO wonO
      simp [be,kb,ka,n1,n2,hw]
     have f1:=k1.two e1
     rw [e1]
     exact meet_del_out h ka hne hu hs B kb lb hw n1 f1.1 f1.2
  ·have hwf : within a.path b.path = false:=by simpa using hw
   by_cases hi : b.kind = 3 ∧ within a.path b.to = true
   ·have e2 : rowM b a (!prior) = [dropO ((nodeP a b.path).getD [])]:=by
     unfold rowM rowO
     simp [be2,ka,hwf,hi.1,hi.2]
    have e1 : rowM a b prior = [shiftedO a b prior]:=by
     unfold rowM rowO wonO
     simp [be,ka,hi.1,hwf]
    have f1:=k1.one e1
    have f2:=k2.one e2
    rw [e1,e2]
    exact meet_del_into prior h ka hne hu hs B hi.1 lb hwf hi.2 f2 f1
   ·have e2 : rowM b a (!prior) = [shiftedO b a (!prior)]:=by
     unfold rowM rowO
     have : (decide (b.kind = 3) && within a.path b.to) = false:=by
      rw [Bool.and_eq_false_iff]
      by_cases k : b.kind = 3
      ·right
       cases hh : within a.path b.to with
       | false => rfl
       | true => exact absurd ⟨k,hh⟩ hi
      ·left
       simp [k]
     simp [be2,ka,hwf,this]
    have f2:=k2.one e2
    by_cases hb : b.kind = 2 ∧ within b.path a.path = true
    ·have e1 : rowM a b prior = []:=by unfold rowM rowO;simp [be,hb.1,hb.2]
     rw [e1,e2]
     cases B with
     | ins v hk => omega
     | mov u v hk => omega
     | del u' hk hne' hu' =>
      obtain ⟨s',hs',_⟩:=at_res h.unf hu'
      refine (meet_del_del (!prior) h.swap hb.1 hne' hu' hs' A ka la f2 hb.2 fun c => ?_).swap
      rw [c] at hwf
      unfold within at hwf
      simp at hwf
    ·have e1 : rowM a b prior = [shiftedO a b prior]:=by
      unfold rowM rowO wonO
      rcases act_kind B with kb | kb | kb
      ·simp [be,ka,kb]
      ·have : within b.path a.path = false:=by
        cases hh : within b.path a.path with
        | false => rfl
        | true => exact absurd ⟨kb,hh⟩ hb
       simp [be,ka,kb,this]
      ·simp [be,ka,kb,hwf]
     have f1:=k1.one e1
     rw [e1,e2]
     exact meet_acts prior h A B la lb (fun c => hw c.2) (fun c => hi c.2) hb (fun c => by omega) (fun c => by omega) (fun c => by omega) f1 f2
theorem meet_moves {S : Gr α} {r xa xb : α} {t : Tree} {a b : OpT} {ea eb : Eff α} (h : Sit S r xa xb t a b) (A : Act S r xa a ea) (B : Act S r xb b eb)
  (la : ∀ v g x,ea.into = some (v,g,x) → (S.pay v).leaf = false) (lb : ∀ v g x,eb.into = some (v,g,x) → (S.pay v).leaf = false) (na : a.kind ≠ 2) (nb : b.kind ≠ 2) (prior : Bool) (k1 : OkX a b prior) (k2 : OkX b a (!prior)) :
  Meet t a b (rowM a b prior) (rowM b a (!prior)):=by
 have ka:=act_kind A
 have kb:=act_kind B
 have be : bothEdit a b = false:=by unfold bothEdit;simp [show ¬ a.kind = 6 by omega]
 have be2 : bothEdit b a = false:=by unfold bothEdit;simp [show ¬ a.kind = 6 by omega]
 by_cases hp : a.kind = 3 ∧ b.kind = 3 ∧ a.path = b.path
 ·obtain ⟨h1,h2,h3⟩:=hp
  have w1 : wonO a b = true:=by unfold wonO;simp [h1,h2,h3]
  have w2 : wonO b a = true:=by unfold wonO;simp [h1,h2,h3]
  cases prior with
  | true =>
   have e1 : rowM a b true = [shiftedO a b true]:=by unfold rowM rowO;simp [be,h2,w1]
   have e2 : rowM b a (!true) = []:=by unfold rowM rowO;simp [be2,h1,w2]
   have f1:=k1.one e1
   rw [e1,e2]
   exact (meet_again true h.swap B A h2 h1 h3.symm lb la f1).swap
  | false =>
   have e1 : rowM a b false = []:=by unfold rowM rowO;simp [be,h2,w1]
   have e2 : rowM b a (!false) = [shiftedO b a (!false)]:=by unfold rowM rowO;simp [be2,h1,w2]
   have f1:=k2.one e2
   rw [e1,e2]
   exact meet_again (!false) h A B h1 h2 h3 la lb f1
 ·have w1 : wonO a b = false:=by
   unfold wonO
   rcases ka with k | k | k
   ·simp [k]
   ·omega
   ·rcases kb with g | g | g
    ·simp [k,g]
    ·omega
    ·have : ¬ b.path = a.path:=fun c => hp ⟨k,g,c.symm⟩
     simp [this]
  have w2 : wonO b a = false:=by
   unfold wonO
   rcases ka with k | k | k
   ·rcases kb with g | g | g
    ·simp [g]
    ·omega
    ·simp [k,g]
   ·omega
   ·rcases kb with g | g | g
    ·simp [k,g]
    ·omega
    ·have : ¬ a.path = b.path:=fun c => hp ⟨k,g,c⟩
     simp [this]
  by_cases hc : a.kind = 3 ∧ b.kind = 3 ∧ within b.path a.to = true ∧ within a.path b.to = true
  ·obtain ⟨h1,h2,h3,h4⟩:=hc
   cases prior with
   | true =>
    have e1 : rowM a b true = [undoO b,a]:=by unfold rowM rowO;simp [be,h1,h2,h3,h4,w1]
    have e2 : rowM b a (!true) = []:=by unfold rowM rowO;simp [be2,h1,h2,h3,h4,w2]
    have f1:=k1.two e1
    rw [e1,e2]
    have hl : ∀ f,res S r b.path.dropLast = some f → (S.pay f).leaf = false:=by
     cases B with
     | ins v hk => omega
     | del u hk => omega
     | mov u v hk hne hw hu => exact parent_open h.unf (valid_right h.va).1 hne hu
    exact (meet_cycle h.swap B h2 lb f1.1 hl).swap
   | false =>
    have e1 : rowM a b false = []:=by unfold rowM rowO;simp [be,h1,h2,h3,h4,w1]
    have e2 : rowM b a (!false) = [undoO a,b]:=by unfold rowM rowO;simp [be2,h1,h2,h3,h4,w2]
    have f1:=k2.two e2
    rw [e1,e2]
    have hl : ∀ f,res S r a.path.dropLast = some f → (S.pay f).leaf = false:=by
     cases A with
     | ins v hk => omega
     | del u hk => omega
     | mov u v hk hne hw hu => exact parent_open h.unf (valid_right h.va).1 hne hu
    exact meet_cycle h A h1 la f1.1 hl
  ·have sh : ∀ (x y : OpT) (f : Bool),(x.kind = 1 ∨ x.kind = 3) → (y.kind = 1 ∨ y.kind = 3) → bothEdit x y = false → wonO x y = false → ¬ (x.kind = 3 ∧ y.kind = 3 ∧ within x.path y.to = true ∧ within y.path x.to = true) → rowM x y f = [shiftedO x y f]:=by
    intro x y f kx ky hb hw hcc
    unfold rowM rowO
    rcases ky with k | k
    ·simp [hb,k,hw]
    ·rcases kx with g | g
     ·simp [hb,k,g,hw]
     ·have : (within x.path y.to && within y.path x.to) = false:=by
       cases hh : within x.path y.to && within y.path x.to with
       | false => rfl
       | true =>
        rw [Bool.and_eq_true] at hh
        exact absurd ⟨g,k,hh.1,hh.2⟩ hcc
      simp [hb,k,g,hw,this]
   have e1:=sh a b prior (by omega) (by omega) be w1 fun c => hc ⟨c.1,c.2.1,c.2.2.2,c.2.2.1⟩
   have e2:=sh b a (!prior) (by omega) (by omega) be2 w2 fun c => hc ⟨c.2.1,c.1,c.2.2.1,c.2.2.2⟩
   have f1:=k1.one e1
   have f2:=k2.one e2
   rw [e1,e2]
   exact meet_acts prior h A B la lb (fun c => na c.1) (fun c => na c.1) (fun c => nb c.1) (fun c => nb c.1) hc hp f1 f2
end
end Bow
/- SP63: any two operations that are valid on a tree, both ways round, by names: the same tree. -/
namespace Bow
open Go
theorem formed_att {o : OpT} (h : formedB o = true) (hk : o.kind = 4) : keyOk o.key = true ∧ (o.gone = true ∨ o.value.length ≤ 256):=by
 unfold formedB at h
 simp [hk] at h
 refine ⟨h.2.1,?_⟩
 rcases h.2.2 with h | h
 ·exact .inl h
 ·exact .inr (by omega)
theorem payF_comm {a b : OpT} {p : Pay} (hp : attrsOk none p.attrs = true) (fa : formedB a = true) (fb : formedB b = true) (ka : 4 ≤ a.kind ∧ a.kind ≤ 6) (kb : 4 ≤ b.kind ∧ b.kind ≤ 6) (hw : ¬ (a.kind = b.kind ∧ (b.kind = 5 ∨ b.kind = 6 ∨ a.key = b.key))) :
  payF b (payF a p) = payF a (payF b p):=by
 have k1 : a.kind = 4 ∨ a.kind = 5 ∨ a.kind = 6:=by omega
 have k2 : b.kind = 4 ∨ b.kind = 5 ∨ b.kind = 6:=by omega
 rcases k1 with k1 | k1 | k1 <;> rcases k2 with k2 | k2 | k2
 ·have hne : a.key ≠ b.key:=fun c => hw ⟨by omega,.inr (.inr c)⟩
  have f1:=formed_att fa k1
  have f2:=formed_att fb k2
  unfold payF
  simp only [k1,k2,if_pos]
  rw [setA_comm hp f1.1 f1.2 f2.1 f2.2 hne]
 ·unfold payF;simp [k1,k2]
 ·unfold payF;simp [k1,k2]
 ·unfold payF;simp [k1,k2]
 ·exact absurd ⟨by omega,.inl k2⟩ hw
 ·unfold payF;simp [k1,k2]
 ·unfold payF;simp [k1,k2]
 ·unfold payF;simp [k1,k2]
 ·exact absurd ⟨by omega,.inr (.inl k2)⟩ hw
theorem payF_again {a b : OpT} {p : Pay} (hp : attrsOk none p.attrs = true) (fa : formedB a = true) (fb : formedB b = true) (hk : a.kind = b.kind) (hw : b.kind = 5 ∨ (b.kind = 4 ∧ a.key = b.key)) : payF b (payF a p) = payF b p:=by
 rcases hw with k | ⟨k,e⟩
 ·unfold payF
  simp [hk,k]
 ·have f1:=formed_att fa (by omega)
  have f2:=formed_att fb k
  unfold payF
  simp only [hk,k,if_pos]
  rw [setA_again hp f1.1 f1.2 f2.2 e]
section
variable {α : Type} [DecidableEq α]
omit [DecidableEq α] in
theorem attrs_pay {S : Gr α} {r v : α} {t : Tree} {p : List Int} (h : Unf S r t) (hr : rightT t = true) (hv : res S r p = some v) : attrsOk none (S.pay v).attrs = true:=by
 obtain ⟨y,hy,hvy⟩:=at_res h hv
 have:=right_attrs (right_at (rightT_parts hr).2 hy)
 rw [unf_pay hvy]
 cases y
 exact this
theorem meet_pays {S : Gr α} {r xa xb v w : α} {t : Tree} {a b : OpT} (h : Sit S r xa xb t a b) (ka : 4 ≤ a.kind ∧ a.kind ≤ 6) (kb : 4 ≤ b.kind ∧ b.kind ≤ 6) (hv : res S r a.path = some v) (hw : res S r b.path = some w)
  (ha : a.kind = 6 → (S.pay v).leaf = true ∧ (applyE (S.pay v).text a.pieces).2 = 0) (hb : b.kind = 6 → (S.pay w).leaf = true ∧ (applyE (S.pay w).text b.pieces).2 = 0) (prior : Bool) (k1 : OkX a b prior) (k2 : OkX b a (!prior)) :
  Meet t a b (rowM a b prior) (rowM b a (!prior)):=by
 have hat:=attrs_pay h.unf (valid_right h.va).1 hv
 have fa:=(valid_right h.va).2.1
 have fb:=(valid_right h.vb).2.1
 have hsame : a.path = b.path → v = w:=fun e => by
  rw [e,hw] at hv
  injection hv with hv
  exact hv.symm
 by_cases hbe : bothEdit a b = true
 ·have hbe2 : bothEdit b a = true:=by rw [bothEdit_comm];exact hbe
  have e1:=k1.edt hbe
  have e2:=k2.edt hbe2
  have r1 : rowM a b prior = [editO a b prior]:=by unfold rowM;rw [hbe];rfl
  have r2 : rowM b a (!prior) = [editO b a (!prior)]:=by unfold rowM;rw [hbe2];rfl
  have f1:=k1.one r1
  have f2:=k2.one r2
  rw [r1,r2]
  unfold bothEdit at hbe
  simp only [Bool.and_eq_true,decide_eq_true_eq] at hbe
  obtain ⟨k6,k6',hp⟩:=hbe
  have:=hsame hp.symm
  subst this
  exact meet_edit prior h k6' k6 hp.symm hv (ha k6') (hb k6) e1 e2 f1 f2
 ·have hbf : bothEdit a b = false:=by simpa using hbe
  have hbf2 : bothEdit b a = false:=by rw [bothEdit_comm];exact hbf
  have ka2 : ¬ a.kind = 2:=by omega
  have ka3 : ¬ a.kind = 3:=by omega
  have kb2 : ¬ b.kind = 2:=by omega
  have kb3 : ¬ b.kind = 3:=by omega
  by_cases hwon : a.kind = b.kind ∧ a.path = b.path ∧ (b.kind = 5 ∨ (b.kind = 4 ∧ a.key = b.key))
  ·obtain ⟨w0,w1,w2⟩:=hwon
   have won1 : wonO a b = true:=by
    unfold wonO
    rcases w2 with c | ⟨c,d⟩
    ·simp [w0,w1,c]
    ·simp [w0,w1,c,d]
   have won2 : wonO b a = true:=by
    unfold wonO
    rcases w2 with c | ⟨c,d⟩
    ·simp [w0,w1,c]
    ·simp [w0,w1,c,d]
   have:=hsame w1
   subst this
   cases prior with
   | true =>
    have r1 : rowM a b true = [shiftedO a b true]:=by unfold rowM rowO;simp [hbf,kb2,won1]
    have r2 : rowM b a (!true) = []:=by unfold rowM rowO;simp [hbf2,ka2,won2]
    rw [r1,r2]
    refine (meet_won h.swap kb (by omega) hw hv hb (payF_again hat fb fa w0.symm ?_) true).swap
    rcases w2 with c | ⟨c,d⟩
    ·exact .inl (by omega)
    ·exact .inr ⟨by omega,d.symm⟩
   | false =>
    have r1 : rowM a b false = []:=by unfold rowM rowO;simp [hbf,kb2,won1]
    have r2 : rowM b a (!false) = [shiftedO b a (!false)]:=by unfold rowM rowO;simp [hbf2,ka2,won2]
    rw [r1,r2]
    exact meet_won h ka (by omega) hv hw ha (payF_again hat fa fb w0 w2) (!false)
  ·have won1 : wonO a b = false:=by
    cases hh : wonO a b with
    | false => rfl
    | true =>
     unfold wonO at hh
     simp only [Bool.and_eq_true,Bool.or_eq_true,decide_eq_true_eq] at hh
     obtain ⟨⟨c1,c2⟩,c3⟩:=hh
     refine absurd ⟨c1.symm,c2.symm,?_⟩ hwon
     rcases c3 with c | c | ⟨c,d⟩
     ·omega
     ·exact .inl (by omega)
     ·exact .inr ⟨by omega,d.symm⟩
   have won2 : wonO b a = false:=by
    cases hh : wonO b a with
    | false => rfl
    | true =>
     unfold wonO at hh
     simp only [Bool.and_eq_true,Bool.or_eq_true,decide_eq_true_eq] at hh
     obtain ⟨⟨c1,c2⟩,c3⟩:=hh
     refine absurd ⟨c1,c2,?_⟩ hwon
     rcases c3 with c | c | ⟨c,d⟩
     ·omega
     ·exact .inl c
     ·exact .inr ⟨c,d⟩
   have r1 : rowM a b prior = [shiftedO a b prior]:=by unfold rowM rowO;simp [hbf,kb2,kb3,won1]
   have r2 : rowM b a (!prior) = [shiftedO b a (!prior)]:=by unfold rowM rowO;simp [hbf2,ka2,ka3,won2]
   rw [r1,r2]
   have hpath : w = v → a.path = b.path:=fun e => res_inj _ _ h.unf h.nodup hv (e ▸ hw)
   have m:=meet_pay (!prior) h ka kb hv hw ha hb (fun c1 c2 c3 => hbe (by unfold bothEdit;simp [c1,c2,hpath c3])) fun e => by
    refine payF_comm hat fa fb ka kb fun c => ?_
    have hp:=hpath e
    rcases c with ⟨c1,c2 | c2 | c2⟩
    ·exact hwon ⟨c1,hp,.inl c2⟩
    ·exact hbe (by unfold bothEdit;simp [c1,c2,hp])
    ·by_cases k4 : b.kind = 4
     ·exact hwon ⟨c1,hp,.inr ⟨k4,c2⟩⟩
     ·by_cases k5 : b.kind = 5
      ·exact hwon ⟨c1,hp,.inl k5⟩
      ·have k6 : b.kind = 6:=by omega
       exact hbe (by unfold bothEdit;simp [c1,k6,hp])
   rw [Bool.not_not] at m
   exact m
theorem meet_row {S : Gr α} {r xa xb : α} {t : Tree} {a b : OpT} (h : Sit S r xa xb t a b) (prior : Bool) (k1 : OkX a b prior) (k2 : OkX b a (!prior)) : Meet t a b (rowM a b prior) (rowM b a (!prior)):=by
 obtain ⟨Sa,Fa⟩:=fit_of xa h.unf (good_of h.va)
 obtain ⟨Sb,Fb⟩:=fit_of xb h.unf (good_of h.vb)
 have k1' : OkX a b (!(!prior)):=by rw [Bool.not_not];exact k1
 have still : ∀ (x y : OpT) (f : Bool),(4 ≤ y.kind ∧ y.kind ≤ 6) → x.kind = 1 ∨ x.kind = 3 → rowM x y f = [shiftedO x y f] ∧ rowM y x f = [shiftedO y x f]:=by
  intro x y f ky kx
  have n1 : bothEdit x y = false:=by unfold bothEdit;simp [show ¬ x.kind = 6 by omega]
  have n2 : bothEdit y x = false:=by unfold bothEdit;simp [show ¬ x.kind = 6 by omega]
  have n3 : wonO x y = false:=by unfold wonO;simp [show ¬ y.kind = x.kind by omega]
  have n4 : wonO y x = false:=by unfold wonO;simp [show ¬ x.kind = y.kind by omega]
  have y2 : ¬ y.kind = 2:=by omega
  have y3 : ¬ y.kind = 3:=by omega
  have x2 : ¬ x.kind = 2:=by omega
  constructor
  ·unfold rowM rowO
   simp [n1,n3,y2,y3]
  ·unfold rowM rowO
   rcases kx with k | k <;> simp [n2,n4,k,y2,y3]
 have delA : ∀ (Sb : Gr α),Fit S r xb b Sb → ∀ ea,Act S r xa a ea → a.kind = 2 → Meet t a b (rowM a b prior) (rowM b a (!prior)):=by
  intro Sb Fb ea A da
  cases A with
  | ins v hk => omega
  | mov u v hk => omega
  | del u hk hne hu => exact meet_del h da hne hu Fb prior k1 k2
 have delB : ∀ (Sa : Gr α),Fit S r xa a Sa → ∀ eb,Act S r xb b eb → b.kind = 2 → Meet t a b (rowM a b prior) (rowM b a (!prior)):=by
  intro Sa Fa eb B db
  cases B with
  | ins v hk => omega
  | mov u v hk => omega
  | del u hk hne hu =>
   have:=meet_del h.swap db hne hu Fa (!prior) k2 k1'
   rw [Bool.not_not] at this
   exact this.swap
 have Fa0:=Fa
 have Fb0:=Fb
 cases Fa with
 | act ea A la =>
  by_cases da : a.kind = 2
  ·exact delA _ Fb0 _ A da
  ·cases Fb with
   | act eb B lb =>
    by_cases db : b.kind = 2
    ·exact delB _ Fa0 _ B db
    ·exact meet_moves h A B la lb da db prior k1 k2
   | pay v kb hv he =>
    have ka:=act_kind A
    have e1:=(still a b prior kb (by omega)).1
    have e2:=(still a b (!prior) kb (by omega)).2
    have f2:=k2.one e2
    rw [e1,e2]
    exact meet_mixs prior h A la kb hv he (fun c => da c.1) f2
 | pay v ka hv ha =>
  cases Fb with
  | act eb B lb =>
   by_cases db : b.kind = 2
   ·exact delB _ Fa0 _ B db
   ·have kb:=act_kind B
    have e1:=(still b a prior ka (by omega)).2
    have e2:=(still b a (!prior) ka (by omega)).1
    have f1:=k1.one e1
    rw [e1,e2]
    have m:=meet_mixs (!prior) h.swap B lb ka hv ha (fun c => db c.1) (by rw [Bool.not_not];exact f1)
    rw [Bool.not_not] at m
    exact m.swap
  | pay w kb hw hb => exact meet_pays h ka kb hv hw ha hb prior k1 k2
end
end Bow
/- SP64: names for any tree; two operations and two lists, both ways round: the same tree. -/
namespace Bow
open Go
def subN : Tree → List Nat → Option Tree
 | t,[] => some t
 | t,i :: p => match t.subs[i]? with
  | none => none
  | some s => subN s p
theorem subN_snoc (i : Nat) : ∀ (p : List Nat) (t : Tree),subN t (p ++ [i]) = (subN t p).bind fun s => s.subs[i]?
 | [],t => by
  rw [List.nil_append,subN,subN]
  show _ = t.subs[i]?
  cases t.subs[i]? with
  | none => rfl
  | some s => rfl
 | j :: p,t => by
  rw [List.cons_append,subN,subN]
  cases t.subs[j]? with
  | none => rfl
  | some s => exact subN_snoc i p s
abbrev Nm:=List Nat ⊕ Bool
def nmKids (t : Tree) : Nm → List Nm
 | .inl p => match subN t p with
  | none => []
  | some s => (List.range' 0 s.subs.length).map fun i => .inl (p ++ [i])
 | .inr _ => []
def nmPay (t : Tree) (x y : Pay) : Nm → Pay
 | .inl p => match subN t p with
  | none => x
  | some s => s.pay
 | .inr b => bif b then x else y
def nmS (t : Tree) (x y : Pay) : Gr Nm:=⟨nmKids t,nmPay t x y⟩
theorem nm_kids (t : Tree) (x y : Pay) (u : Nm) : (nmS t x y).kids u = nmKids t u:=rfl
theorem nm_pay (t : Tree) (x y : Pay) (u : Nm) : (nmS t x y).pay u = nmPay t x y u:=rfl
theorem nm_unf (t : Tree) (x y : Pay) (s : Tree) : ∀ p : List Nat,subN t p = some s → Unf (nmS t x y) (.inl p) s ∧ (∀ z ∈ labs (nmS t x y) (.inl p) s,∃ q,z = .inl (p ++ q)) ∧ (labs (nmS t x y) (.inl p) s).Nodup:=by
 induction s using Tree.ind with
 | _ s ih =>
 intro p hp
 have key : ∀ (ss : List Tree) (k : Nat),(∀ i s',ss[i]? = some s' → s.subs[k + i]? = some s') →
   Unfs (nmS t x y) ((List.range' k ss.length).map fun i => (.inl (p ++ [i]) : Nm)) ss ∧ (∀ z ∈ labss (nmS t x y) ((List.range' k ss.length).map fun i => (.inl (p ++ [i]) : Nm)) ss,∃ j q,k ≤ j ∧ z = .inl (p ++ j :: q)) ∧ (labss (nmS t x y) ((List.range' k ss.length).map fun i => (.inl (p ++ [i]) : Nm)) ss).Nodup:=by
  intro ss
  induction ss with
  | nil =>
   intro k _
   refine ⟨by simp [Unfs],?_,by simp [labss]⟩
   intro z hz
   simp [labss] at hz
  | cons s' ss ihs =>
   intro k hk
   have h0 : s.subs[k]? = some s':=by simpa using hk 0 s' rfl
   have hm : s' ∈ s.subs:=List.mem_of_getElem? h0
   obtain ⟨a1,a2,a3⟩:=ih s' hm (p ++ [k]) (by rw [subN_snoc,hp];exact h0)
   obtain ⟨b1,b2,b3⟩:=ihs (k + 1) fun i s'' hi => by
    have:=hk (i + 1) s'' (by simpa using hi)
    rwa [show k + (i + 1) = k + 1 + i by omega] at this
   rw [List.length_cons,List.range'_succ,List.map_cons,Unfs,labss]
   refine ⟨⟨a1,b1⟩,fun z hz => ?_,?_⟩
   ·rcases List.mem_append.1 hz with hz | hz
    ·obtain ⟨q,hq⟩:=a2 z hz
     exact ⟨k,q,Nat.le_refl _,by rw [hq,List.append_assoc];rfl⟩
    ·obtain ⟨j,q,hj,hq⟩:=b2 z hz
     exact ⟨j,q,by omega,hq⟩
   ·rw [List.nodup_append]
    refine ⟨a3,b3,fun z hz z' hz' e => ?_⟩
    subst e
    obtain ⟨q,hq⟩:=a2 z hz
    obtain ⟨j,q',hj,hq'⟩:=b2 z hz'
    rw [hq,List.append_assoc] at hq'
    injection hq' with hq'
    have:=List.append_cancel_left hq'
    injection this with this
    omega
 obtain ⟨c1,c2,c3⟩:=key s.subs 0 fun i s' hi => by rwa [Nat.zero_add]
 have ek : (nmS t x y).kids (.inl p) = (List.range' 0 s.subs.length).map fun i => (.inl (p ++ [i]) : Nm):=by
  rw [nm_kids,nmKids,hp]
 have ep : (nmS t x y).pay (.inl p) = s.pay:=by
  rw [nm_pay,nmPay,hp]
 rw [unf_eq,labs_eq,ek,ep]
 refine ⟨⟨rfl,c1⟩,fun z hz => ?_,?_⟩
 ·rcases List.mem_cons.1 hz with rfl | hz
  ·exact ⟨[],by rw [List.append_nil]⟩
  ·obtain ⟨j,q,_,hq⟩:=c2 z hz
   exact ⟨j :: q,hq⟩
 ·rw [List.nodup_cons]
  refine ⟨fun hz => ?_,c3⟩
  obtain ⟨j,q,_,hq⟩:=c2 _ hz
  injection hq with hq
  have:=congrArg List.length hq
  simp at this
theorem fresh_subs (o : OpT) : (freshT o).subs = []:=by
 unfold freshT
 rfl
theorem sit_of {t : Tree} {a b : OpT} (va : ValidE t a = 0) (vb : ValidE t b = 0) : Sit (nmS t (freshT a).pay (freshT b).pay) (.inl []) (.inr true) (.inr false) t a b:=by
 obtain ⟨h1,h2,h3⟩:=nm_unf t (freshT a).pay (freshT b).pay t [] rfl
 have new : ∀ b' : Bool,(.inr b' : Nm) ∉ labs (nmS t (freshT a).pay (freshT b).pay) (.inl []) t:=fun b' hm => by
  obtain ⟨q,hq⟩:=h2 _ hm
  cases hq
 refine ⟨h1,h3,fun c => ?_,?_,?_,new true,new false,va,vb⟩
 ·injection c with c
  cases c
 ·rw [unf_eq,fresh_subs]
  refine ⟨rfl,?_⟩
  show Unfs _ [] []
  rw [Unfs]
  trivial
 ·rw [unf_eq,fresh_subs]
  refine ⟨rfl,?_⟩
  show Unfs _ [] []
  rw [Unfs]
  trivial
theorem meet_two {t : Tree} {a b : OpT} (va : ValidE t a = 0) (vb : ValidE t b = 0) (prior : Bool) (k1 : OkX a b prior) (k2 : OkX b a (!prior)) : Meet t a b (rowM a b prior) (rowM b a (!prior)) :=
 meet_row (sit_of va vb) prior k1 k2
theorem allR_from : ∀ (l : List OpT) (t T : Tree) (i j k : Nat),allR t l i = (T,j,0) → ∃ j',allR t l k = (T,j',0)
 | [],t,T,i,j,k,h => by
  rw [allR] at h ⊢
  injection h with h1 h2
  exact ⟨k,by rw [h1]⟩
 | o :: l,t,T,i,j,k,h => by
  rw [allR] at h ⊢
  by_cases hv : ValidE t o = 0
  ·rw [decide_eq_true hv] at h ⊢
   exact allR_from l _ T _ j (k + 1) h
  ·rw [decide_eq_false hv] at h
   injection h with _ h2
   injection h2 with _ h3
   exact absurd h3 hv
theorem comes_cons {t T : Tree} {o : OpT} {l : List OpT} : Comes t (o :: l) T ↔ ValidE t o = 0 ∧ Comes (applyT t o) l T:=by
 unfold Comes
 constructor
 ·rintro ⟨i,h⟩
  rw [allR] at h
  by_cases hv : ValidE t o = 0
  ·rw [decide_eq_true hv] at h
   exact ⟨hv,allR_from _ _ _ _ _ 0 h⟩
  ·rw [decide_eq_false hv] at h
   injection h with _ h2
   injection h2 with _ h3
   exact absurd h3 hv
 ·rintro ⟨hv,i,h⟩
  rw [allR,decide_eq_true hv]
  exact allR_from _ _ _ _ _ _ h
theorem comes_nil_inv {t T : Tree} (h : Comes t [] T) : T = t:=by
 obtain ⟨i,h⟩:=h
 rw [allR] at h
 injection h with h
 exact h.symm
theorem comes_app {t T : Tree} : ∀ {l m : List OpT},Comes t (l ++ m) T ↔ ∃ X,Comes t l X ∧ Comes X m T:=by
 intro l
 induction l generalizing t with
 | nil =>
  intro m
  exact ⟨fun h => ⟨t,comes_nil t,h⟩,fun ⟨X,h1,h2⟩ => by rw [comes_nil_inv h1] at h2;exact h2⟩
 | cons o l ih =>
  intro m
  rw [List.cons_append,comes_cons,ih]
  constructor
  ·rintro ⟨hv,X,h1,h2⟩
   exact ⟨X,comes_cons.2 ⟨hv,h1⟩,h2⟩
  ·rintro ⟨X,h1,h2⟩
   obtain ⟨hv,h1⟩:=comes_cons.1 h1
   exact ⟨hv,X,h1,h2⟩
theorem comes_bare {t T : Tree} : ∀ {l : List OpT},Comes t l T → Comes t (bareL l) T:=by
 intro l
 induction l generalizing t with
 | nil => exact fun h => h
 | cons o l ih =>
  intro h
  obtain ⟨hv,h⟩:=comes_cons.1 h
  show Comes t (bareO o :: bareL l) T
  exact comes_cons.2 ⟨by rw [bare_valid];exact hv,by rw [bare_apply hv];exact ih h⟩
theorem comes_right {t T : Tree} : ∀ {l : List OpT},rightT t = true → Comes t l T → rightT T = true:=by
 intro l
 induction l generalizing t with
 | nil => exact fun hr h => by rw [comes_nil_inv h];exact hr
 | cons o l ih =>
  intro hr h
  obtain ⟨hv,h⟩:=comes_cons.1 h
  exact ih (right_applyT hv) h
theorem behX_row {b a : OpT} {f : Bool} {l : List OpT} (h : behindX b a f = (l,0)) : OkX b a f ∧ l = bareL (rowM b a f):=by
 have hs:=behX_sound h
 unfold behindX at h
 cases hb : bothEdit b a with
 | true =>
  rw [hb] at h
  unfold behindE at h
  rw [hs.1,hs.2] at h
  simp only [Bool.not_true,Bool.or_self,cond_false,cond_true] at h
  cases hc : decide ((transP b.pieces a.pieces f).2.2 = 0) && formedB (editO b a f) with
  | false => rw [hc] at h;cases h
  | true =>
   rw [hc] at h
   rw [Bool.and_eq_true,decide_eq_true_eq] at hc
   have er : rowM b a f = [editO b a f]:=by unfold rowM;rw [hb];rfl
   refine ⟨⟨fun o ho => ?_,fun _ => hc.1⟩,?_⟩
   ·rw [er,List.mem_singleton] at ho
    rw [ho]
    exact hc.2
   ·rw [er]
    exact (Prod.mk.inj h).1.symm
 | false =>
  rw [hb] at h
  unfold behindO at h
  rw [hs.1,hs.2] at h
  simp only [Bool.not_true,Bool.or_self,cond_false] at h
  have er : rowM b a f = rowO b a f:=by unfold rowM;rw [hb];rfl
  cases hf : (rowO b a f).all formedB with
  | false => rw [hf] at h;cases h
  | true =>
   rw [hf] at h
   refine ⟨⟨fun o ho => ?_,fun c => by rw [hb] at c;cases c⟩,?_⟩
   ·rw [er] at ho
    exact List.all_eq_true.1 hf o ho
   ·rw [er]
    exact (Prod.mk.inj h).1.symm
theorem both_meet {t : Tree} {a b : OpT} {prior : Bool} {x y : List OpT} (va : ValidE t a = 0) (vb : ValidE t b = 0) (h : bothX a b prior = (x,y,0)) : Meet t a b x y:=by
 obtain ⟨h1,h2⟩:=bothX_ok h
 obtain ⟨k1,e1⟩:=behX_row h1
 obtain ⟨k2,e2⟩:=behX_row h2
 obtain ⟨T,c1,c2⟩:=meet_two va vb prior k1 k2
 rw [e1,e2]
 exact ⟨T,comes_bare c1,comes_bare c2⟩
theorem valid_sound {t : Tree} {o : OpT} (h : ValidE t o = 0) : soundO o = true:=by
 have hf:=(valid_right h).2.1
 unfold soundO
 rw [hf]
 cases good_of h with
 | ins y hk => simp [hk]
 | del x hk hne =>
  have:=List.length_pos_iff.2 hne
  simp [hk,this]
 | mov x z hk hne hx hw =>
  have:=List.length_pos_iff.2 hne
  simp [hk,this,hw]
 | att y hk => simp [hk]
 | lab y hk => simp [hk]
 | edt y hk => simp [hk]
theorem behX_err {b a : OpT} {f : Bool} (ha : soundO a = true) (hb : soundO b = true) : (behindX b a f).2 = 0 ∨ (behindX b a f).2 = 3:=by
 unfold behindX behindE behindO
 rw [ha,hb]
 simp only [Bool.not_true,Bool.or_self,cond_false]
 cases bothEdit b a with
 | true =>
  cases decide ((transP b.pieces a.pieces f).2.2 = 0) && formedB (editO b a f) with
  | true => exact .inl rfl
  | false => exact .inr rfl
 | false =>
  cases (rowO b a f).all formedB with
  | true => exact .inl rfl
  | false => exact .inr rfl
theorem both_err {a b : OpT} {f : Bool} (ha : soundO a = true) (hb : soundO b = true) : (bothX a b f).2.2 = 0 ∨ (bothX a b f).2.2 = 3:=by
 have h1:=behX_err (b:=a) (a:=b) (f:=f) hb ha
 have h2:=behX_err (b:=b) (a:=a) (f:=!f) ha hb
 unfold bothX
 rcases h1 with h1 | h1
 ·rw [h1]
  rcases h2 with h2 | h2
  ·rw [h2];exact .inl rfl
  ·rw [h2];exact .inr rfl
 ·rw [h1]
  exact .inr rfl
theorem comes_one {t T : Tree} {o : OpT} (h : Comes t [o] T) : ValidE t o = 0 ∧ T = applyT t o:=by
 obtain ⟨hv,h⟩:=comes_cons.1 h
 exact ⟨hv,comes_nil_inv h⟩
theorem one_comes {t : Tree} {o : OpT} (h : ValidE t o = 0) : Comes t [o] (applyT t o):=comes_cons.2 ⟨h,comes_nil _⟩
theorem bring_meet (prior : Bool) : ∀ (n : Nat) (xs ys : List OpT) (r : List OpT × List OpT × Int) (t X Y : Tree),bringF prior n xs ys = some r → Comes t xs X → Comes t ys Y → r.2.2 = 3 ∨ (r.2.2 = 0 ∧ ∃ T,Comes Y r.1 T ∧ Comes X r.2.1 T)
 | 0,_,_,_,_,_,_,h,_,_ => by cases h
 | n + 1,xs,ys,r,t,X,Y,h,hx,hy => by
  rw [bringF_succ] at h
  unfold bringS at h
  cases hm : muchP xs ys with
  | true =>
   rw [hm] at h
   injection h with h
   subst h
   exact .inl rfl
  | false =>
   rw [hm,cond_false] at h
   match xs,ys,h with
   | [],ys,h =>
    injection h with h
    subst h
    rw [comes_nil_inv hx]
    exact .inr ⟨rfl,Y,comes_nil _,hy⟩
   | a :: xs,[],h =>
    injection h with h
    subst h
    rw [comes_nil_inv hy]
    exact .inr ⟨rfl,X,hx,comes_nil _⟩
   | [a],[b],h =>
    injection h with h
    subst h
    obtain ⟨va,rfl⟩:=comes_one hx
    obtain ⟨vb,rfl⟩:=comes_one hy
    rcases both_err (f:=prior) (valid_sound va) (valid_sound vb) with e | e
    ·refine .inr ⟨e,?_⟩
     obtain ⟨T,c1,c2⟩:=both_meet va vb (show bothX a b prior = ((bothX a b prior).1,(bothX a b prior).2.1,0) by rw [← e])
     exact ⟨T,c1,c2⟩
    ·exact .inl e
   | a :: a' :: xs,b :: ys,h =>
    simp only at h
    obtain ⟨va,hx'⟩:=comes_cons.1 hx
    cases h1 : bringF prior n [a] (b :: ys) with
    | none => rw [h1] at h;cases h
    | some q =>
     obtain ⟨x1,y1,e1⟩:=q
     rw [h1] at h
     simp only at h
     rcases bring_meet prior n _ _ _ t (applyT t a) Y h1 (one_comes va) hy with e | ⟨e,T1,c1,c2⟩
     ·simp only at e
      subst e
      simp only [show (decide ((3 : Int) = 0)) = false from rfl,Bool.not_false,cond_true] at h
      injection h with h
      subst h
      exact .inl rfl
     ·simp only at e c1 c2
      subst e
      simp only [decide_true,Bool.not_true,cond_false] at h
      cases h2 : bringF prior n (a' :: xs) y1 with
      | none => rw [h2] at h;cases h
      | some q =>
       obtain ⟨z,w,e2⟩:=q
       rw [h2] at h
       simp only at h
       rcases bring_meet prior n _ _ _ (applyT t a) X T1 h2 hx' c2 with e | ⟨e,T,d1,d2⟩
       ·simp only at e
        subst e
        simp only [show (decide ((3 : Int) = 0)) = false from rfl,Bool.not_false,cond_true] at h
        injection h with h
        subst h
        exact .inl rfl
       ·simp only at e d1 d2
        subst e
        simp only [decide_true,Bool.not_true,cond_false] at h
        cases hmm : muchP (x1 ++ z) w with
        | true =>
         rw [hmm] at h
         injection h with h
         subst h
         exact .inl rfl
        | false =>
         rw [hmm] at h
         injection h with h
         subst h
         exact .inr ⟨rfl,T,comes_app.2 ⟨T1,c1,d1⟩,d2⟩
   | [a],b :: b' :: ys,h =>
    simp only at h
    obtain ⟨vb,hy'⟩:=comes_cons.1 hy
    cases h1 : bringF prior n [a] [b] with
    | none => rw [h1] at h;cases h
    | some q =>
     obtain ⟨x1,y1,e1⟩:=q
     rw [h1] at h
     simp only at h
     rcases bring_meet prior n _ _ _ t X (applyT t b) h1 hx (one_comes vb) with e | ⟨e,T1,c1,c2⟩
     ·simp only at e
      subst e
      simp only [show (decide ((3 : Int) = 0)) = false from rfl,Bool.not_false,cond_true] at h
      injection h with h
      subst h
      exact .inl rfl
     ·simp only at e c1 c2
      subst e
      simp only [decide_true,Bool.not_true,cond_false] at h
      cases h2 : bringF prior n x1 (b' :: ys) with
      | none => rw [h2] at h;cases h
      | some q =>
       obtain ⟨z,w,e2⟩:=q
       rw [h2] at h
       simp only at h
       rcases bring_meet prior n _ _ _ (applyT t b) T1 Y h2 c1 hy' with e | ⟨e,T,d1,d2⟩
       ·simp only at e
        subst e
        simp only [show (decide ((3 : Int) = 0)) = false from rfl,Bool.not_false,cond_true] at h
        injection h with h
        subst h
        exact .inl rfl
       ·simp only at e d1 d2
        subst e
        simp only [decide_true,Bool.not_true,cond_false] at h
        cases hmm : muchP z (y1 ++ w) with
        | true =>
         rw [hmm] at h
         injection h with h
         subst h
         exact .inl rfl
        | false =>
         rw [hmm] at h
         injection h with h
         subst h
         exact .inr ⟨rfl,T,d1,comes_app.2 ⟨T1,c2,d2⟩⟩
end Bow
/- SP38: what edits behind each other put in; what becomes of operations costs no more than they. -/
namespace Bow
open Go
theorem putsLen_app : ∀ a b : List PieceT,putsLen (a ++ b) = putsLen a + putsLen b
 | [],b => by simp [putsLen]
 | p :: a,b => by
  have:=putsLen_app a b
  simp only [List.cons_append,putsLen,List.foldr_cons] at this ⊢
  omega
theorem putsLen_one (p : PieceT) : putsLen [p] = p.put.length:=by simp [putsLen]
theorem putsLen_two (p : PieceT) (l : List PieceT) : putsLen (p :: l) = p.put.length + putsLen l:=rfl
theorem Mk.last_puts (m : Mk) : putsLen m.last.l = putsLen m.l:=by
 unfold Mk.last
 cases decide (0 < m.keep) || m.l.isEmpty with
 | true => simp only [cond_true];rw [putsLen_app,putsLen_one];rfl
 | false => rfl
theorem modL_puts (s : List UInt8) : ∀ {l : List PieceT},l ≠ [] → putsLen (modL (fun p => { p with put:=p.put ++ s }) l) = putsLen l + s.length
 | [],h => absurd rfl h
 | [p],_ => by rw [modL,putsLen_one,putsLen_one,List.length_append]
 | p :: q :: r,_ => by
  rw [modL,putsLen_two,putsLen_two p,modL_puts s (l:=q :: r) (by simp)]
  omega
theorem modL_drops (n : Int) : ∀ l : List PieceT,putsLen (modL (fun p => { p with drop:=p.drop + n }) l) = putsLen l
 | [] => rfl
 | [p] => by rw [modL,putsLen_one,putsLen_one]
 | p :: q :: r => by rw [modL,putsLen_two,putsLen_two p,modL_drops n (q :: r)]
theorem Mk.put_puts (s : List UInt8) (m : Mk) : putsLen (m.put s).l = putsLen m.l + s.length:=by
 unfold Mk.put
 cases h : s.isEmpty with
 | true =>
  rw [List.isEmpty_iff] at h
  subst h
  rfl
 | false =>
  simp only [cond_false]
  rw [modL_puts s m.last_ne,m.last_puts]
theorem Mk.drop_puts (n : Int) (m : Mk) : putsLen (m.drop n).l = putsLen m.l:=by
 unfold Mk.drop
 cases decide (0 < n) with
 | true => simp only [cond_true];rw [modL_drops,m.last_puts]
 | false => rfl
theorem Mk.piece_puts (m : Mk) (p : PieceT) : putsLen (m.piece p).l = putsLen m.l + p.put.length:=by
 unfold Mk.piece
 rw [Mk.drop_puts,Mk.put_puts]
 rfl
theorem foldl_puts : ∀ (l : List PieceT) (m : Mk),putsLen (l.foldl Mk.piece m).l = putsLen m.l + putsLen l
 | [],m => by simp [putsLen]
 | p :: l,m => by
  rw [List.foldl_cons,foldl_puts l,Mk.piece_puts,putsLen_two]
  omega
theorem norm_puts (l : List PieceT) : putsLen (normP l) = putsLen l:=by
 unfold normP
 rw [foldl_puts]
 simp [Mk.nil,putsLen]
theorem rowPut_puts (l : List PieceT) : (rowPut l).1.length + putsLen (rowPut l).2 = putsLen l:=by
 cases l with
 | nil => rfl
 | cons p r =>
  have e : rowPut (p :: r) = bif decide (0 < p.keep) || p.put.isEmpty then ([],p :: r) else (p.put,{ p with put:=[] } :: r):=rfl
  rw [e]
  cases decide (0 < p.keep) || p.put.isEmpty with
  | true => simp
  | false =>
   show p.put.length + putsLen ({ p with put:=[] } :: r) = putsLen (p :: r)
   rw [putsLen_two,putsLen_two]
   simp
theorem rowRun_puts : ∀ l : List PieceT,putsLen (rowRun l).2 ≤ putsLen l
 | [] => Nat.le_refl _
 | p :: r => by
  have ih:=rowRun_puts r
  rw [rowRun]
  cases decide (0 < p.keep) with
  | true => exact Nat.le_refl _
  | false =>
   simp only [cond_false]
   cases decide (0 < p.drop) with
   | true => exact Nat.le_refl _
   | false => simp only [cond_false];rw [putsLen_two];omega
theorem rowTake_puts (n : Int) (l : List PieceT) : putsLen (rowTake n l) = putsLen l:=by
 cases l with
 | nil => rfl
 | cons p r =>
  have e : rowTake n (p :: r) = bif decide (0 < p.keep) then { p with keep:=p.keep - n } :: r else { p with drop:=p.drop - n } :: r:=rfl
  rw [e]
  cases decide (0 < p.keep) <;> rfl
theorem bothR_puts (a b : List PieceT) : putsLen (bothR a b).2.1 ≤ putsLen a:=by
 have h:=rowRun_puts a
 unfold bothR
 generalize rowRun a = ra at h
 generalize rowRun b = rb
 obtain ⟨⟨n,x,any⟩,a'⟩:=ra
 obtain ⟨⟨m,y,more⟩,b'⟩:=rb
 simp only at h ⊢
 cases !any && !more with
 | true => exact h
 | false => simp only [cond_false];rw [rowTake_puts];exact h
theorem puts_puts (prior : Bool) (s : Tr) : putsLen (s.puts prior).x.l + putsLen (s.puts prior).p = putsLen s.x.l + putsLen s.p:=by
 have h:=rowPut_puts s.p
 unfold Tr.puts
 generalize rowPut s.p = rp at h
 generalize rowPut s.q = rq
 obtain ⟨a,p⟩:=rp
 obtain ⟨b,q⟩:=rq
 simp only at h ⊢
 cases prior with
 | true =>
  simp only [cond_true]
  have:=Mk.put_puts a s.x
  unfold Mk.kept
  simp only
  omega
 | false =>
  simp only [cond_false]
  have:=Mk.put_puts a (s.x.kept b.length)
  have e : putsLen (s.x.kept b.length).l = putsLen s.x.l:=rfl
  omega
theorem does_puts (s : Tr) (n : Int) (x y : Bool) : putsLen (s.does n x y).x.l = putsLen s.x.l ∧ (s.does n x y).p = s.p:=by
 unfold Tr.does
 cases x <;> cases y
 ·exact ⟨rfl,rfl⟩
 ·exact ⟨rfl,rfl⟩
 ·exact ⟨Mk.drop_puts n s.x,rfl⟩
 ·exact ⟨rfl,rfl⟩
theorem go_puts (prior : Bool) : ∀ (f : Nat) (s : Tr),putsLen (Tr.go prior f s).x.l ≤ putsLen s.x.l + putsLen s.p
 | 0,s => by rw [Tr.go];omega
 | f + 1,s => by
  have h:=puts_puts prior s
  rw [Tr.go]
  generalize s.puts prior = z at h
  obtain ⟨p,q,x,y⟩:=z
  have hb:=bothR_puts p q
  simp only at h ⊢
  generalize bothR p q = rb at hb
  obtain ⟨⟨n,d,g,any⟩,p',q'⟩:=rb
  simp only at hb ⊢
  cases any with
  | true =>
   simp only [cond_true]
   have hd:=does_puts ⟨p',q',x,y⟩ n d g
   have ih:=go_puts prior f (Tr.does ⟨p',q',x,y⟩ n d g)
   rw [hd.1,hd.2] at ih
   simp only at ih
   omega
  | false =>
   simp only [cond_false]
   omega
theorem trans_puts (a b : List PieceT) (prior : Bool) : putsLen (transP a b prior).1 ≤ putsLen a:=by
 unfold transP
 cases !rightP a || !rightP b with
 | true => exact Nat.zero_le _
 | false =>
  simp only [cond_false]
  have h:=go_puts prior (extN (normP a) + extN (normP b) + 1) ⟨normP a,normP b,Mk.nil,Mk.nil⟩
  simp only [norm_puts] at h
  generalize Tr.go prior (extN (normP a) + extN (normP b) + 1) ⟨normP a,normP b,Mk.nil,Mk.nil⟩ = s at h
  obtain ⟨p,q,x,y⟩:=s
  simp only at h ⊢
  have h0 : putsLen Mk.nil.l = 0:=rfl
  cases !rightP x.l || !rightP y.l with
  | true => exact Nat.zero_le _
  | false => simp only [cond_false];omega
theorem cost_min (o : OpT) : 2 ≤ costO o:=by unfold costO;omega
theorem cost_noOp (k : Int) : costO (noOp k) = 2:=rfl
theorem bare_cost (o : OpT) : costO (bareO o) ≤ costO o:=by
 rcases kinds o with h | h | h | h | h | h | ⟨h1,h2,h3,h4,h5,h6⟩
 ·rw [bare1 h];unfold costO;simp only [noOp,putsLen,List.length_nil,List.foldr_nil];omega
 ·rw [bare2 h];unfold costO;simp only [noOp,putsLen,List.length_nil,List.foldr_nil];omega
 ·rw [bare3 h];unfold costO;simp only [noOp,putsLen,List.length_nil,List.foldr_nil];omega
 ·rw [bare4 h]
  unfold costO
  cases o.gone
  ·simp only [noOp,putsLen,List.length_nil,List.foldr_nil,cond_false];omega
  ·simp only [noOp,putsLen,List.length_nil,List.foldr_nil,cond_true];omega
 ·rw [bare5 h];unfold costO;simp only [noOp,putsLen,List.length_nil,List.foldr_nil];omega
 ·rw [bare6 h];unfold costO;simp only [noOp,List.length_nil];omega
 ·rw [bare_none h1 h2 h3 h4 h5 h6,cost_noOp]
  exact cost_min o
theorem shifted_cost (b a : OpT) (prior : Bool) : costO (shiftedO b a prior) = costO b:=by
 unfold shiftedO
 cases decide (b.kind = 1) with
 | true => rfl
 | false =>
  cases decide (b.kind = 3) with
  | true => rfl
  | false => rfl
theorem undo_cost (o : OpT) : costO (undoO o) = 2:=by
 unfold undoO
 cases decide (o.kind = 3) && movesO o <;> rfl
theorem row_cost (b a : OpT) (prior : Bool) : ∀ o ∈ rowO b a prior,costO o ≤ costO b:=by
 have hs : ∀ o ∈ [shiftedO b a prior],costO o ≤ costO b:=fun o ho => by
  rw [List.mem_singleton.1 ho,shifted_cost]
  exact Nat.le_refl _
 have hn : ∀ o ∈ ([] : List OpT),costO o ≤ costO b:=fun o ho => by cases ho
 have hd : ∀ p q : List Int,∀ o ∈ [dropO p,dropO q],costO o ≤ costO b:=fun p q o ho => by
  have:=cost_min b
  rcases List.mem_cons.1 ho with rfl | ho
  ·exact this
  ·rw [List.mem_singleton.1 ho];exact this
 have hd1 : ∀ p : List Int,∀ o ∈ [dropO p],costO o ≤ costO b:=fun p o ho => by
  rw [List.mem_singleton.1 ho]
  exact cost_min b
 have hu : ∀ o ∈ [undoO a,b],costO o ≤ costO b:=fun o ho => by
  rcases List.mem_cons.1 ho with rfl | ho
  ·rw [undo_cost];exact cost_min b
  ·rw [List.mem_singleton.1 ho];exact Nat.le_refl _
 unfold rowO
 cases decide (a.kind = 2) with
 | true =>
  cases within a.path b.path with
  | true => exact hn
  | false => cases decide (b.kind = 3) && within a.path b.to <;> first | exact hs | exact hd1 _
 | false =>
  cases wonO b a with
  | true => cases prior <;> first | exact hn | exact hs
  | false =>
   cases decide (a.kind = 3) with
   | false => exact hs
   | true =>
    cases decide (b.kind = 2) with
    | true => cases within b.path a.path && (!decide (b.path = a.path) && !within b.path a.to) <;> first | exact hs | exact hd _ _
    | false => cases decide (b.kind = 3) && (within b.path a.to && within a.path b.to) <;> first | exact hs | (cases prior <;> first | exact hn | exact hu)
theorem behX_cost (b a : OpT) (prior : Bool) : ∀ o ∈ (behindX b a prior).1,costO o ≤ costO b:=by
 unfold behindX
 cases bothEdit b a with
 | true =>
  simp only [cond_true]
  unfold behindE
  cases !soundO a || !soundO b with
  | true => intro o ho;cases ho
  | false =>
   cases decide ((transP b.pieces a.pieces prior).2.2 = 0) && formedB (editO b a prior) with
   | false => intro o ho;cases ho
   | true =>
    intro o ho
    simp only [cond_true,cond_false,List.mem_singleton] at ho
    subst ho
    refine Nat.le_trans (bare_cost _) ?_
    have:=trans_puts b.pieces a.pieces prior
    unfold costO editO
    simp only
    omega
 | false =>
  simp only [cond_false]
  unfold behindO
  cases !soundO a || !soundO b with
  | true => intro o ho;cases ho
  | false =>
   cases (rowO b a prior).all formedB with
   | false => intro o ho;cases ho
   | true =>
    intro o ho
    simp only [cond_true,cond_false,List.mem_map] at ho
    obtain ⟨z,hz,rfl⟩:=ho
    exact Nat.le_trans (bare_cost z) (row_cost b a prior z hz)
theorem bothX_cost (a b : OpT) (prior : Bool) : ∀ o ∈ (bothX a b prior).2.1,costO o ≤ costO b:=by
 unfold bothX
 cases decide ((behindX a b prior).2 = 0) with
 | false => intro o ho;cases ho
 | true =>
  cases decide ((behindX b a (!prior)).2 = 0) with
  | false => intro o ho;cases ho
  | true => exact behX_cost b a (!prior)
end Bow
/- SP65: what two lists come to costs no more an operation than they. -/
namespace Bow
open Go
def AtMost (C : Nat) (l : List OpT) : Prop:=∀ o ∈ l,costO o ≤ C
theorem AtMost.nil {C : Nat} : AtMost C []:=fun o ho => by cases ho
theorem AtMost.cons {C : Nat} {a : OpT} {l : List OpT} (h : AtMost C (a :: l)) : AtMost C [a] ∧ AtMost C l:=⟨fun o ho => h o (by rw [List.mem_singleton.1 ho];simp),fun o ho => h o (by simp [ho])⟩
theorem AtMost.app {C : Nat} {l m : List OpT} (h : AtMost C l) (k : AtMost C m) : AtMost C (l ++ m):=fun o ho => by
 rcases List.mem_append.1 ho with ho | ho
 ·exact h o ho
 ·exact k o ho
theorem bothX_cost1 (a b : OpT) (prior : Bool) : ∀ o ∈ (bothX a b prior).1,costO o ≤ costO a:=by
 unfold bothX
 cases decide ((behindX a b prior).2 = 0) with
 | false => intro o ho;cases ho
 | true =>
  cases decide ((behindX b a (!prior)).2 = 0) with
  | false => intro o ho;cases ho
  | true => exact behX_cost a b prior
theorem bringF_cost (prior : Bool) (C : Nat) : ∀ (n : Nat) (xs ys : List OpT) (r : List OpT × List OpT × Int),bringF prior n xs ys = some r → AtMost C xs → AtMost C ys → AtMost C r.1 ∧ AtMost C r.2.1
 | 0,_,_,_,h,_,_ => by cases h
 | n + 1,xs,ys,r,h,hx,hy => by
  have none3 : ∀ e : Int,AtMost C (([],[],e) : List OpT × List OpT × Int).1 ∧ AtMost C (([],[],e) : List OpT × List OpT × Int).2.1:=fun e => ⟨AtMost.nil,AtMost.nil⟩
  rw [bringF_succ] at h
  unfold bringS at h
  cases hm : muchP xs ys with
  | true =>
   rw [hm] at h
   injection h with h
   subst h
   exact none3 3
  | false =>
   rw [hm,cond_false] at h
   match xs,ys,h with
   | [],ys,h =>
    injection h with h
    subst h
    exact ⟨AtMost.nil,hy⟩
   | a :: xs,[],h =>
    injection h with h
    subst h
    exact ⟨hx,AtMost.nil⟩
   | [a],[b],h =>
    injection h with h
    subst h
    have ha:=hx a (by simp)
    have hb:=hy b (by simp)
    exact ⟨fun o ho => Nat.le_trans (bothX_cost1 a b prior o ho) ha,fun o ho => Nat.le_trans (bothX_cost a b prior o ho) hb⟩
   | a :: a' :: xs,b :: ys,h =>
    simp only at h
    cases h1 : bringF prior n [a] (b :: ys) with
    | none => rw [h1] at h;cases h
    | some q =>
     obtain ⟨x1,y1,e1⟩:=q
     rw [h1] at h
     have i1:=bringF_cost prior C n _ _ _ h1 hx.cons.1 hy
     simp only at h i1
     cases d1 : !decide (e1 = 0) with
     | true =>
      rw [d1] at h
      injection h with h
      subst h
      exact none3 e1
     | false =>
      rw [d1,cond_false] at h
      cases h2 : bringF prior n (a' :: xs) y1 with
      | none => rw [h2] at h;cases h
      | some q =>
       obtain ⟨z,w,e2⟩:=q
       rw [h2] at h
       have i2:=bringF_cost prior C n _ _ _ h2 hx.cons.2 i1.2
       simp only at h i2
       cases d2 : !decide (e2 = 0) with
       | true =>
        rw [d2] at h
        injection h with h
        subst h
        exact none3 e2
       | false =>
        rw [d2,cond_false] at h
        cases hmm : muchP (x1 ++ z) w with
        | true =>
         rw [hmm] at h
         injection h with h
         subst h
         exact none3 3
        | false =>
         rw [hmm] at h
         injection h with h
         subst h
         exact ⟨i1.1.app i2.1,i2.2⟩
   | [a],b :: b' :: ys,h =>
    simp only at h
    cases h1 : bringF prior n [a] [b] with
    | none => rw [h1] at h;cases h
    | some q =>
     obtain ⟨x1,y1,e1⟩:=q
     rw [h1] at h
     have i1:=bringF_cost prior C n _ _ _ h1 hx hy.cons.1
     simp only at h i1
     cases d1 : !decide (e1 = 0) with
     | true =>
      rw [d1] at h
      injection h with h
      subst h
      exact none3 e1
     | false =>
      rw [d1,cond_false] at h
      cases h2 : bringF prior n x1 (b' :: ys) with
      | none => rw [h2] at h;cases h
      | some q =>
       obtain ⟨z,w,e2⟩:=q
       rw [h2] at h
       have i2:=bringF_cost prior C n _ _ _ h2 i1.1 hy.cons.2
       simp only at h i2
       cases d2 : !decide (e2 = 0) with
       | true =>
        rw [d2] at h
        injection h with h
        subst h
        exact none3 e2
       | false =>
        rw [d2,cond_false] at h
        cases hmm : muchP z (y1 ++ w) with
        | true =>
         rw [hmm] at h
         injection h with h
         subst h
         exact none3 3
        | false =>
         rw [hmm] at h
         injection h with h
         subst h
         exact ⟨i2.1,i1.2.app i2.2⟩
theorem AtMost.bare {C : Nat} {l : List OpT} (h : AtMost C l) : AtMost C (bareL l):=fun o ho => by
 unfold bareL at ho
 rw [List.mem_map] at ho
 obtain ⟨z,hz,rfl⟩:=ho
 exact Nat.le_trans (bare_cost z) (h z hz)
theorem listsX_cost {prior : Bool} {C : Nat} {xs ys : List OpT} (hx : AtMost C xs) (hy : AtMost C ys) : AtMost C (listsX prior xs ys).1 ∧ AtMost C (listsX prior xs ys).2.1:=by
 obtain ⟨n,hn⟩:=bringX_spec prior xs ys
 have h:=bringF_cost prior C n xs ys _ hn hx hy
 exact ⟨h.1.bare,h.2.bare⟩
end Bow
/- W98: the law ListsCloses. -/
namespace Bow
open Go Go.Proofs
theorem light_most {l : List OpT} {n m : Nat} (hL : LightL l n m) : AtMost (2 + 4 * m) l:=fun o ho => by
 obtain ⟨h1,h2⟩:=hL.ops o ho
 have:=h1.label
 have:=h1.key
 have:=h1.value
 unfold costO
 omega
end Bow
