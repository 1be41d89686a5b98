/- The library, part 8: W75, SP68, SP69, AE53, AE56, W107, W28, W29, W30, W40, W90, W108, AE57, W109, W110, AE58, W111, W113, W114, W112, W115, W116, TD1, TD2, TD4. -/
import Derived.Test.YtbffliejmnokpaaGreatMf
import Derived.Test.YtbffliejmnokpaaGreatMg
import Derived.Test.YtbffliejmnokpaaGreatMc
import Derived.Test.YtbffliejmnokpaaGreatMd
import Derived.Test.YtbffliejmnokpaaGreatMe
import Derived.Test.YtbffliejmnokpaaGreatRows
import Derived.ChangeShapes
/- W75: a list brought by rows: lists.Through, the document's; the law ListsThrough, walked. -/
namespace Bow
open Go Go.Proofs
def ThrV (r : List OpT × List (List OpT) × Int) : V:=.tup [opsV r.1,listsV r.2.1,.int .i64 r.2.2]
theorem thrZ {r : List OpT × List (List OpT) × Int} {e : Int} (h : r = ([],[],e)) : ∃ y,Wk (.tup [.nilsl,.nilsl,.int .i64 e]) y ∧ y.pureB = true ∧ y = ThrV r:=⟨ThrV ([],[],e),Wk.tup ⟨Wk.nil 11,Wk.nil 1,.refl _,trivial⟩,rfl,by rw [h]⟩
theorem row_at {l : List (List OpT)} {i : Nat} (h : i < l.length) : (l.map opsV)[i]? = some (opsV l[i]):=by simp [h]
theorem listsX_ok {prior : Bool} {xs ys : List OpT} (ox : OkL xs) (oy : OkL ys) : OkL (listsX prior xs ys).1 ∧ OkL (listsX prior xs ys).2.1 ∧ (listsX prior xs ys).1.length + (listsX prior xs ys).2.1.length ≤ xs.length + ys.length:=by
 obtain ⟨o1,o2⟩:=bringX_okL (prior:=prior) ox oy
 have:=bringX_inv prior xs ys
 refine ⟨bareL_okL o1,bareL_okL o2,?_⟩
 show (bareL (bringX prior xs ys).1).length + (bareL (bringX prior xs ys).2.1).length ≤ _
 rw [bareL_len,bareL_len]
 exact this
structure ThrI (prior : Bool) (R : List OpT × List (List OpT) × Int) (rows : List (List OpT)) (i : Nat) (bs : List OpT) (out : List (List OpT)) : Prop where
 le : i ≤ rows.length
 eq : R = thrG prior bs out (rows.drop i)
 ok : OkL bs
 len : bs.length ≤ 1000 + 1000 * i
 ol : out.length = i
set_option pp.maxSteps 300 in
set_option maxHeartbeats 2000000 in
set_option maxRecDepth 100000 in
theorem w_lThrough (bs : List OpT) (rows : List (List OpT)) (prior : Bool) (ob : OkL bs) (orr : ∀ r ∈ rows,OkL r ∧ r.length ≤ 1000) (lb : bs.length ≤ 1000) (lr : rows.length ≤ 100) :
  Pure Tryz.prog 60 [opsV bs,listsV rows,.bool prior] (fun x => x = ThrV (thrG prior (bareL bs) [] rows)):=by
 obtain ⟨R,hR⟩ : ∃ R,thrG prior (bareL bs) [] rows = R:=⟨_,rfl⟩
 rw [hR]
 refine pure_wk (pure_fn 60 Tryz.func60 rfl rfl rfl fun B => ?_)
 show CallThen _ _ _ _ _ _
 refine call_pure (w_lbare bs (by omega) (fun o ho => (ob o ho).1.lt)) rfl ?_
 rintro x rfl
 show Goes _ _ _ _
 refine goes_own 9 1 rfl ?_
 refine goes_iter (ι:=Nat × List OpT × List (List OpT) × Nat) (fun s => ThrI prior R rows s.1 s.2.1 s.2.2.1) (fun s => rows.length - s.1) (fun s => [(19,.int .i64 s.1),(18,.int .i64 rows.length),(17,listsV rows),(0,opsV s.2.1),(2,.bool prior),(9,.osl (.loc 0) s.2.2.2 0 s.2.2.1.length)])
  (fun s => [some (.vec s.2.2.2 1 (s.2.2.1.map opsV))]) (0,bareL bs,[],0) 60 (fun _ => rfl) (fun _ => rfl)
  ⟨⟨Nat.zero_le _,hR.symm,bareL_okL ob,by simp only [bareL_len];omega,rfl⟩,⟨⟨rfl,rfl⟩,⟨?_,rfl⟩,⟨rfl,rfl⟩,⟨rfl,rfl⟩,⟨rfl,rfl⟩,⟨rfl,rfl⟩,trivial⟩,⟨⟨rfl,rfl⟩,trivial⟩⟩ ?_
 ·show V.int _ _ = _
  simp
 rintro ⟨i,cs,out,g⟩ hI next
 simp only at hI
 obtain ⟨k1,k2,k3,k4,k5⟩:=hI
 refine ⟨fun hlt => go 60 ?_,fun hge => go 60 ?_⟩
 ·have hi : i < rows.length:=by have:=lt_of hlt;omega
  obtain ⟨o1,o2⟩:=orr _ (List.getElem_mem hi)
  obtain ⟨q1,q2,q3⟩:=listsX_ok (prior:=prior) k3 o1
  have hcall:=w_listsBoth cs rows[i] prior k3 o1 (by omega)
  rw [thrG_drop hi] at k2
  obtain ⟨⟨x,y,e⟩,hr⟩ : ∃ r,listsX prior cs rows[i] = r:=⟨_,rfl⟩
  rw [hr] at k2 q1 q2 q3 hcall
  simp only at k2 q1 q2 q3
  refine ⟨Int.natCast_nonneg i,_,row_at hi,?_⟩
  show CallThen _ _ _ _ _ _
  refine call_pure hcall rfl ?_
  rintro v rfl
  refine ⟨fun g1 => go 60 ?_,fun g1 => go 60 ?_⟩
  ·have g1:=ne_of' g1
   rw [decide_eq_false g1] at k2
   exact ⟨trivial,rfl,rfl,rfl,thrZ k2⟩
  have g1:=eq_of' g1
  rw [decide_eq_true g1] at k2
  refine ⟨⟨rfl,trivial⟩,rfl,rfl,rfl,by simp,Nat.le_trans (Nat.mul_le_mul_right _ (show _ ≤ 1000001 by simp only [List.length_map,List.length_cons,List.length_nil];omega)) (by decide),?_⟩
  refine ⟨⟨by omega,by omega⟩,?_⟩
  show Goes _ _ _ _
  refine next (i + 1,x,out ++ [y],bump g) _ _ ⟨⟨hi,k2,q1,by simp only;omega,by simp [k5]⟩,by simp only;omega,⟨⟨rfl,rfl⟩,⟨rfl,rfl⟩,⟨rfl,rfl⟩,⟨rfl,rfl⟩,⟨rfl,rfl⟩,⟨?_,rfl⟩,trivial⟩,⟨⟨?_,rfl⟩,trivial⟩⟩
  ·exact congrArg (V.osl (.loc 0) (bump g) 0) (by simp)
  ·exact congrArg (fun z => some (HObj.vec (bump g) 1 z)) (by simp;rfl)
 ·have hi : i = rows.length:=by have:=not_lt_of hge;omega
  subst hi
  rw [List.drop_length,thrG] at k2
  refine ⟨trivial,rfl,rfl,rfl,by simp,rfl,ThrV R,?_,rfl,rfl⟩
  rw [k2]
  exact Wk.refl _
theorem thrG_ok {prior : Bool} : ∀ {rows : List (List OpT)} {bs : List OpT} {out : List (List OpT)},OkL bs → (∀ r ∈ rows,OkL r ∧ r.length ≤ 1000) → (∀ r ∈ out,OkL r ∧ r.length ≤ 1000000) → bs.length + 1000 * rows.length ≤ 900000 →
  OkL (thrG prior bs out rows).1 ∧ (thrG prior bs out rows).1.length ≤ 1000000 ∧ (∀ r ∈ (thrG prior bs out rows).2.1,OkL r ∧ r.length ≤ 1000000) ∧ (thrG prior bs out rows).2.1.length ≤ out.length + rows.length
 | [],bs,out,ob,_,oo,hl => by
  rw [thrG]
  exact ⟨ob,by simp only;omega,oo,by simp⟩
 | r :: rows,bs,out,ob,orr,oo,hl => by
  obtain ⟨o1,o2⟩:=orr r List.mem_cons_self
  obtain ⟨q1,q2,q3⟩:=listsX_ok (prior:=prior) ob o1
  simp only [List.length_cons] at hl
  rw [thrG]
  cases !decide ((listsX prior bs r).2.2 = 0) with
  | true => exact ⟨okL_nil,Nat.zero_le _,(by intro r hr;cases hr),Nat.zero_le _⟩
  | false =>
   have ih:=thrG_ok (prior:=prior) (out:=out ++ [(listsX prior bs r).2.1]) q1 (fun r hr => orr r (List.mem_cons_of_mem _ hr)) (fun z hz => by
    rcases List.mem_append.1 hz with hz | hz
    ·exact oo z hz
    ·rw [List.mem_singleton] at hz
     subst hz
     exact ⟨q2,by omega⟩) (by omega)
   refine ⟨ih.1,ih.2.1,ih.2.2.1,?_⟩
   have:=ih.2.2.2
   simp only [List.length_append,List.length_cons,List.length_nil] at this ⊢
   simp only [cond_false]
   omega
end Bow
/- SP68: a window: its revisions' trees, and the lists between them; a list brought behind them, in plain Lean. -/
namespace Bow
open Go
def Steps : Tree → List (List OpT) → Tree → Prop
 | t,[],T => T = t
 | t,r :: rows,T => ∃ u,Comes t r u ∧ Steps u rows T
theorem thr_out {prior : Bool} : ∀ (rows : List (List OpT)) (bs : List OpT) (out out' : List (List OpT)),(thrG prior bs out rows).1 = (thrG prior bs out' rows).1 ∧ (thrG prior bs out rows).2.2 = (thrG prior bs out' rows).2.2
 | [],bs,out,out' => by rw [thrG,thrG];exact ⟨rfl,rfl⟩
 | r :: rows,bs,out,out' => by
  rw [thrG,thrG]
  cases !decide ((listsX prior bs r).2.2 = 0) with
  | true => exact ⟨rfl,rfl⟩
  | false => exact thr_out rows _ _ _
theorem thr_meet {prior : Bool} : ∀ (rows : List (List OpT)) (bs : List OpT) (out : List (List OpT)) (t T X : Tree),Steps t rows T → Comes t bs X → (thrG prior bs out rows).2.2 = 3 ∨ ((thrG prior bs out rows).2.2 = 0 ∧ ∃ Y,Comes T (thrG prior bs out rows).1 Y)
 | [],bs,out,t,T,X,h,k => by
  rw [Steps] at h
  subst h
  rw [thrG]
  exact .inr ⟨rfl,X,k⟩
 | r :: rows,bs,out,t,T,X,h,k => by
  obtain ⟨u,h1,h2⟩:=h
  rw [thrG]
  obtain ⟨n,hn⟩:=bringX_spec prior bs r
  rcases bring_meet prior n bs r _ t X u hn k h1 with e | ⟨e,Y,c1,c2⟩
  ·have e : (listsX prior bs r).2.2 = 3:=e
   rw [e]
   exact .inl rfl
  ·have e : (listsX prior bs r).2.2 = 0:=e
   rw [e]
   have c1 : Comes u (listsX prior bs r).1 Y:=comes_bare c1
   exact thr_meet rows _ _ u T Y h2 c1
theorem thr_more {prior : Bool} : ∀ (rows : List (List OpT)) (bs : List OpT) (out : List (List OpT)) (r : List OpT),(thrG prior bs out rows).2.2 = 0 →
  (thrG prior bs out (rows ++ [r])).1 = (thrG prior (thrG prior bs out rows).1 [] [r]).1 ∧ (thrG prior bs out (rows ++ [r])).2.2 = (thrG prior (thrG prior bs out rows).1 [] [r]).2.2
 | [],bs,out,r,_ => by
  rw [List.nil_append]
  have e : (thrG prior bs out []).1 = bs:=by rw [thrG]
  rw [e]
  exact thr_out [r] bs out []
 | s :: rows,bs,out,r,h => by
  have hs : decide ((listsX prior bs s).2.2 = 0) = true:=by
   cases hs : decide ((listsX prior bs s).2.2 = 0) with
   | true => rfl
   | false =>
    rw [thrG,hs] at h
    simp only [Bool.not_false,cond_true] at h
    rw [h] at hs
    cases hs
  have e : ∀ z,thrG prior bs out (s :: z) = thrG prior (listsX prior bs s).1 (out ++ [(listsX prior bs s).2.1]) z:=fun z => by
   rw [thrG,hs]
   rfl
  rw [List.cons_append,e,e]
  rw [e] at h
  exact thr_more rows _ _ r h
theorem thr_bare {prior : Bool} : ∀ (rows : List (List OpT)) (bs : List OpT) (out : List (List OpT)),rows ≠ [] → thrG prior (bareL bs) out rows = thrG prior bs out rows
 | [],_,_,h => absurd rfl h
 | r :: rows,bs,out,_ => by rw [thrG,thrG,listsX_bare]
structure Rv where
 tree : Tree
 made : List OpT
def Linked : List Rv → Prop
 | [] => True
 | [_] => True
 | a :: b :: l => Comes a.tree b.made b.tree ∧ Linked (b :: l)
theorem linked_snoc {b : Rv} : ∀ {l : List Rv} {a : Rv},Linked (l ++ [a]) → Comes a.tree b.made b.tree → Linked (l ++ [a] ++ [b])
 | [],_,_,h => ⟨h,trivial⟩
 | [_],_,h,k => ⟨h.1,k,trivial⟩
 | _ :: d :: l,_,h,k => ⟨h.1,linked_snoc (l:=d :: l) h.2 k⟩
theorem linked_at : ∀ {l : List Rv},Linked l → ∀ (i : Nat) (a b : Rv),l[i]? = some a → l[i + 1]? = some b → Comes a.tree b.made b.tree
 | [],_,i,a,b,h,_ => by simp at h
 | [_],_,i,a,b,_,h => by simp at h
 | c :: d :: l,h,0,a,b,h1,h2 => by
  simp at h1 h2
  subst h1 h2
  exact h.1
 | c :: d :: l,h,i + 1,a,b,h1,h2 => linked_at (l:=d :: l) h.2 i a b (by simpa using h1) (by simpa using h2)
def rowsL (l : List Rv) : List (List OpT):=l.map fun r => bareL r.made
theorem linked_steps : ∀ {l : List Rv} {a : Rv},Linked (a :: l) → ∃ z,(a :: l).getLast? = some z ∧ Steps a.tree (rowsL l) z.tree
 | [],a,_ => ⟨a,rfl,rfl⟩
 | b :: l,a,h => by
  obtain ⟨z,h1,h2⟩:=linked_steps h.2
  refine ⟨z,by rw [List.getLast?_cons_cons];exact h1,b.tree,comes_bare h.1,h2⟩
theorem linked_drop : ∀ {l : List Rv} (n : Nat),Linked l → Linked (l.drop n)
 | l,0,h => h
 | [],n + 1,_ => by simp [Linked]
 | [_],n + 1,_ => by simp [Linked]
 | _ :: b :: l,n + 1,h => linked_drop (l:=b :: l) n h.2
theorem brought {l : List Rv} {i : Nat} {a z : Rv} {bs : List OpT} {X : Tree} (h : Linked l) (hi : l[i]? = some a) (hz : l.getLast? = some z) (hc : Comes a.tree bs X) :
  (thrG false (bareL bs) [] (rowsL (l.drop (i + 1)))).2.2 = 3 ∨ ((thrG false (bareL bs) [] (rowsL (l.drop (i + 1)))).2.2 = 0 ∧ ∃ Y,Comes z.tree (thrG false (bareL bs) [] (rowsL (l.drop (i + 1)))).1 Y):=by
 have hlt:=(List.getElem?_eq_some_iff.1 hi).1
 have e : l.drop i = a :: l.drop (i + 1):=by
  rw [List.drop_eq_getElem_cons hlt,(List.getElem?_eq_some_iff.1 hi).2]
 have hd:=linked_drop i h
 rw [e] at hd
 obtain ⟨z',h1,h2⟩:=linked_steps hd
 have ez : z' = z:=by
  have : (l.drop i).getLast? = some z:=by
   rw [List.getLast?_drop,if_neg (by omega)]
   exact hz
  rw [e,h1] at this
  injection this
 subst ez
 exact thr_meet _ _ [] _ _ X h2 (comes_bare hc)
end Bow
/- SP69: a call of a window's script, as it is handed over. -/
namespace Bow
open Go
structure CallT where
 kind : Int
 rev : Int
 l : List OpT
def callV (c : CallT) : V:=.agg [.int .u8 c.kind,.int .i64 c.rev,.sl 11 (c.l.map opV)]
def callsV (l : List CallT) : V:=.sl 3 (l.map callV)
end Bow
/- AE53: named memory, lent to a function that leaves nothing behind: what it hands back lies elsewhere, where the sizes of its slices' elements tell so. -/
namespace Bow
open Go
mutual
def V.apart (ss : List Nat) : V → Bool
 | .int .. | .bool _ | .tt | .ff | .str _ | .nilsl | .nilp | .nilf | .nili | .nilmap | .undef => true
 | .sl sz xs => !ss.contains sz && V.apartL ss xs
 | .agg cs => V.apartL ss cs
 | .tup cs => V.apartL ss cs
 | .iface _ v => v.apart ss
 | _ => false
def V.apartL (ss : List Nat) : List V → Bool
 | [] => true
 | v :: vs => v.apart ss && V.apartL ss vs
end
theorem apartL_get {ss : List Nat} : ∀ {vs : List V},V.apartL ss vs = true → ∀ v ∈ vs,v.apart ss = true
 | [],_,v,h => by cases h
 | x :: vs,hg,v,h => by
  simp only [V.apartL,Bool.and_eq_true] at hg
  rcases List.mem_cons.1 h with rfl | h
  ·exact hg.1
  ·exact apartL_get hg.2 v h
theorem apart_cells {ss : List Nat} {x : V} (h : x.apart ss = true) : ∀ c ∈ x.cells,c.apart ss = true:=by
 cases x with
 | agg cs =>
  simp only [V.apart] at h
  exact apartL_get (vs:=cs) h
 | _ =>
  intro c hc
  simp only [V.cells,List.mem_singleton] at hc
  subst hc
  exact h
def sealO (s : Nat) : HObj → HObj
 | .held t => .held t
 | _ => .held s
def sealH (L : Nat → Nat) (H : Heap) : Heap:=H.mapIdx fun r o => o.map (sealO (L r))
theorem seal_get {L : Nat → Nat} {H : Heap} {r : Nat} : (sealH L H)[r]? = (H[r]?).map fun o => o.map (sealO (L r)):=by simp [sealH]
theorem sealO_is (s : Nat) (o : HObj) : isSeal (sealO s o):=by cases o <;> trivial
theorem sealO_held (s : Nat) (o : HObj) : ∃ t,sealO s o = .held t:=by cases o <;> exact ⟨_,rfl⟩
theorem sealO_open {s : Nat} {o : HObj} (h : ¬ isSeal o) : sealO s o = .held s:=by cases o <;> first | rfl | exact absurd trivial h
theorem seal_of {L : Nat → Nat} {H : Heap} {r : Nat} {o : HObj} (h : (sealH L H)[r]? = some (some o)) : ∃ o',H[r]? = some (some o') ∧ o = sealO (L r) o':=by
 rw [seal_get] at h
 rcases e : H[r]? with - | - | o'
 ·rw [e] at h;cases h
 ·rw [e] at h;cases h
 ·rw [e] at h
  injection h with h
  injection h with h
  exact ⟨o',rfl,h.symm⟩
theorem seal_no {L : Nat → Nat} {β : Nat → Loc} {H : Heap} (b : Nat) : ¬ ownB β (sealH L H) b:=by
 rintro ⟨r,N,⟨o,h,hn⟩,_⟩
 obtain ⟨o',_,rfl⟩:=seal_of h
 exact hn (sealO_is _ _)
theorem seal_free {L : Nat → Nat} {β : Nat → Loc} {H : Heap} {b sz : Nat} (h : freeB β H b sz) : freeB β (sealH L H) b sz:=by
 refine ⟨seal_no b,fun r s N hr hb => ?_⟩
 obtain ⟨o,ho,e⟩:=seal_of hr
 by_cases hs : isSeal o
 ·cases o <;> first | exact hs.elim | skip
  injection e with e
  subst e
  exact h.2 r _ N ho hb
 ·exact (h.1 ⟨r,N,⟨o,ho,hs⟩,hb⟩).elim
theorem HRel.sealed {w : World} {β : Nat → Loc} {H : Heap} (h : HRel w β H) (L : Nat → Nat) : HRel w β (sealH L H):=by
 refine ⟨fun r o ho => ?_,fun r r' b N N' hl hl' hb hb' => ?_⟩
 ·obtain ⟨o',ho',rfl⟩:=seal_of ho
  obtain ⟨t,e⟩:=sealO_held (L r) o'
  rw [e]
  cases e2 : β r with
  | none => trivial
  | nil => trivial
  | blk b N => exact h.lt ⟨o',ho'⟩ e2
 ·obtain ⟨o,ho⟩:=hl
  obtain ⟨o',ho'⟩:=hl'
  obtain ⟨z,hz,_⟩:=seal_of ho
  obtain ⟨z',hz',_⟩:=seal_of ho'
  exact h.inj r r' b N N' ⟨z,hz⟩ ⟨z',hz'⟩ hb hb'
theorem Rep.sealed {w : World} {β : Nat → Loc} {H : Heap} {v : V} {u : Value} (h : Rep w β H v u) (L : Nat → Nat) : v.apart [] = true → Rep w β (sealH L H) v u:=by
 induction h with
 | int k n => exact fun _ => .int k n
 | bool b => exact fun _ => .bool b
 | tt => exact fun _ => .tt
 | ff => exact fun _ => .ff
 | str s h => exact fun _ => .str s h
 | nilsl => exact fun _ => .nilsl
 | nilp => exact fun _ => .nilp
 | nilf => exact fun _ => .nilf
 | nili => exact fun _ => .nili
 | nilmap => exact fun _ => .nilmap
 | undef v => exact fun _ => .undef v
 | sl sz xs a cap vals hcap hmax hsz ha hr ih =>
  intro hp
  simp only [V.apart,Bool.and_eq_true] at hp
  refine .sl sz xs a cap vals hcap hmax hsz (fun hne => ?_) (fun i x j c h1 h2 => ih i x j c h1 h2 (apart_cells (apartL_get hp.2 x (List.mem_of_getElem? h1)) c (List.mem_of_getElem? h2)))
  obtain ⟨ad,e,h1,h2⟩:=ha hne
  exact ⟨ad,e,seal_free h1,h2⟩
 | agg cs vs hl h ih =>
  intro hp
  simp only [V.apart] at hp
  exact .agg cs vs hl fun j c v hj hv => ih j c v hj hv (apartL_get hp c (List.mem_of_getElem? hj))
 | tup cs vs hl h ih =>
  intro hp
  simp only [V.apart] at hp
  exact .tup cs vs hl fun j c v hj hv => ih j c v hj hv (apartL_get hp c (List.mem_of_getElem? hj))
 | iface t x v h ih =>
  intro hp
  simp only [V.apart] at hp
  exact .iface t x v (ih hp)
 | _ => intro hp;simp [V.apart] at hp
theorem Rep.unsealed {w : World} {β β' : Nat → Loc} {H H' : Heap} {L : Nat → Nat} {ss : List Nat} (hL : ∀ r,L r ∈ ss) (hH : ∀ r o,(sealH L H)[r]? = some (some o) → H'[r]? = some (some o) ∧ β' r = β r) {v : V} {u : Value} (h : Rep w β' H' v u) : v.apart ss = true → Rep w β H v u:=by
 induction h with
 | int k n => exact fun _ => .int k n
 | bool b => exact fun _ => .bool b
 | tt => exact fun _ => .tt
 | ff => exact fun _ => .ff
 | str s h => exact fun _ => .str s h
 | nilsl => exact fun _ => .nilsl
 | nilp => exact fun _ => .nilp
 | nilf => exact fun _ => .nilf
 | nili => exact fun _ => .nili
 | nilmap => exact fun _ => .nilmap
 | undef v => exact fun _ => .undef v
 | sl sz xs a cap vals hcap hmax hsz ha hr ih =>
  intro hp
  simp only [V.apart,Bool.and_eq_true,Bool.not_eq_true'] at hp
  refine .sl sz xs a cap vals hcap hmax hsz (fun hne => ?_) (fun i x j c h1 h2 => ih i x j c h1 h2 (apart_cells (apartL_get hp.2 x (List.mem_of_getElem? h1)) c (List.mem_of_getElem? h2)))
  obtain ⟨ad,e,h1,h2⟩:=ha hne
  refine ⟨ad,e,⟨?_,fun r s N hr hb => ?_⟩,h2⟩
  ·rintro ⟨r,N,⟨o,ho,hs⟩,hb⟩
   obtain ⟨k1,k2⟩:=hH r (.held (L r)) (by rw [seal_get,ho];simp [sealO_open hs])
   have:=h1.2 r _ N k1 (k2.trans hb)
   have h3:=hL r
   rw [this] at h3
   have h4:=hp.1
   rw [List.contains_iff_mem.2 h3] at h4
   cases h4
  ·obtain ⟨k1,k2⟩:=hH r (.held s) (by rw [seal_get,hr];rfl)
   exact h1.2 r s N k1 (k2.trans hb)
 | agg cs vs hl h ih =>
  intro hp
  simp only [V.apart] at hp
  exact .agg cs vs hl fun j c v hj hv => ih j c v hj hv (apartL_get hp c (List.mem_of_getElem? hj))
 | tup cs vs hl h ih =>
  intro hp
  simp only [V.apart] at hp
  exact .tup cs vs hl fun j c v hj hv => ih j c v hj hv (apartL_get hp c (List.mem_of_getElem? hj))
 | iface t x v h ih =>
  intro hp
  simp only [V.apart] at hp
  exact .iface t x v (ih hp)
 | _ => intro hp;simp [V.apart] at hp
inductive Lz (B : Base) (L : Nat → Nat) : V → V → Prop
 | wk {x y : V} (h : Wk x y) (hy : y.apart [] = true) : Lz B L x y
 | row (r g sz : Nat) (xs : List V) (h : B r = some (.vec g sz xs)) (hL : L r = sz) (hx : V.apartL [] xs = true) : Lz B L (.osl (.abs r) g 0 xs.length) (.sl sz xs)
 | agg (cs ds : List V) (hl : cs.length = ds.length) (h : ∀ (j : Nat) (c d : V),cs[j]? = some c → ds[j]? = some d → Lz B L c d) : Lz B L (.agg cs) (.agg ds)
 | sl (sz : Nat) (xs ys : List V) (hl : xs.length = ys.length) (hy : ∀ y ∈ ys,okE sz y) (h : ∀ (i : Nat) (x y : V) (j : Nat) (c d : V),xs[i]? = some x → ys[i]? = some y → x.cells[j]? = some c → y.cells[j]? = some d → Lz B L c d) : Lz B L (.sl sz xs) (.sl sz ys)
theorem Lz.rep {B : Base} {L : Nat → Nat} {w : World} {β : Nat → Loc} {H : Heap} (hrel : HRel w β H) (hB : ∀ q o,B q = some o → H[q]? = some (some o)) {x y : V} (h : Lz B L x y) : ∀ {v : Value},Rep w β H x v → Rep w β (sealH L H) y v:=by
 induction h with
 | wk h hy => exact fun {v} hv => (h w β H v hv).sealed L hy
 | row r g sz xs h hL hx =>
  intro v hv
  have hH:=hB r _ h
  have hob:=hrel.obj r _ hH
  have hvec : ∀ sz2 xs2,H[r]? = some (some (.vec g sz2 xs2)) → sz2 = sz ∧ xs2 = xs:=fun sz2 xs2 h2 => by
   rw [hH] at h2
   injection h2 with h2
   injection h2 with h2
   injection h2 with _ e1 e2
   exact ⟨e1.symm,e2.symm⟩
  generalize hn : xs.length = n at hv
  cases hv with
  | oslNil _ _ sz2 xs2 ad hH' hβ =>
   rw [hβ] at hob
   have : xs = []:=hob
   subst this
   exact .sl sz [] ad 0 (fun _ => Go.undef) (Nat.le_refl _) (Nat.zero_le _) (by simp) (fun hne => absurd rfl hne) (fun i x j c hi => by simp at hi)
  | oslBlk _ _ _ _ sz2 xs2 b N ad cap hH' hβ hl hN hcap ha hlen =>
   obtain ⟨rfl,rfl⟩:=hvec _ _ hH'
   rw [hβ] at hob
   obtain ⟨vs,e,_,h1,h2,h3,h4,h5,h6⟩:=hob
   subst hn
   refine .sl sz2 xs2 ad cap (fun j => vs.getD j Go.undef) hl (by omega) h5 (fun hne => ?_) (fun i x j c hi hj => ?_)
   ·have h0 : 0 < xs2.length:=List.length_pos_iff.2 hne
    have:=ha (by omega)
    subst this
    refine ⟨_,rfl,⟨seal_no _,fun q s N' hq hb => ?_⟩,(Array.getElem?_eq_some_iff.1 h1).1,fun j hj => ?_⟩
    ·obtain ⟨o,ho,e⟩:=seal_of hq
     have : q = r:=hrel.inj q r b N' N ⟨o,ho⟩ ⟨_,hH⟩ hb hβ
     subst this
     rw [hH] at ho
     injection ho with ho
     injection ho with ho
     subst ho
     injection e with e
     exact e.trans hL
    ·have hjv : j < vs.size:=by omega
     rw [Nat.zero_mul,at_add,cell_of_row w b j vs e (0,0) h1]
     simp [hjv]
   ·have hlt : i * sz2 + j < vs.size:=by
     have e1:=lt_of_get hi
     have e2:=lt_of_get hj
     have e3:=(h5 x (List.mem_of_getElem? hi)).1
     have : (i + 1) * sz2 ≤ xs2.length * sz2:=Nat.mul_le_mul_right _ e1
     rw [Nat.add_mul] at this
     omega
    exact (h6 i x j c (vs.getD (i * sz2 + j) Go.undef) hi hj (by simp [hlt])).sealed L (apart_cells (apartL_get hx x (List.mem_of_getElem? hi)) c (List.mem_of_getElem? hj))
  | oslStale _ _ _ _ g' sz' xs' _ hH' hg =>
   rw [hH] at hH'
   injection hH' with hH'
   injection hH' with hH'
   injection hH' with e0 _ _
   omega
  | oslDead _ _ _ _ _ hd => rw [hH] at hd;cases hd
 | agg cs ds hl h ih =>
  intro v hv
  cases hv with
  | agg _ vs hl' h' =>
   refine .agg ds vs (hl.symm.trans hl') fun j d u hj hu => ?_
   have hjc : j < cs.length:=by have:=lt_of_get hj;omega
   exact ih j _ d (List.getElem?_eq_getElem hjc) hj (h' j _ u (List.getElem?_eq_getElem hjc) hu)
 | sl sz xs ys hl hy h ih =>
  intro v hv
  generalize hn : xs.length = n at hl
  generalize hq : V.sl sz xs = q at hv
  cases hv with
  | sl sz' xs' a cap vals hcap hmax hsz ha hr =>
   injection hq with e1 e2
   subst e1 e2
   rw [hn,hl]
   refine .sl sz ys a cap vals (by omega) hmax hy (fun hne => ?_) (fun i y j d hi hj => ?_)
   ·obtain ⟨ad,k1,k2,k3,k4⟩:=ha (fun e => hne (by rw [e] at hn;exact List.length_eq_zero_iff.1 (by simp at hn;omega)))
    exact ⟨ad,k1,seal_free k2,k3,fun j hj => k4 j (by rw [hn,hl];exact hj)⟩
   ·have hix : i < xs.length:=by have:=lt_of_get hi;omega
    have hx:=List.getElem?_eq_getElem hix
    have hc1:=(hsz _ (List.mem_of_getElem? hx)).1
    have hc2:=(hy _ (List.mem_of_getElem? hi)).1
    have hjx : j < (xs[i]).cells.length:=by have:=lt_of_get hj;omega
    exact ih i _ y j _ d hx hi (List.getElem?_eq_getElem hjx) hj (hr i _ j _ hx (List.getElem?_eq_getElem hjx))
  | _ => cases hq
end Bow
/- AE56: own memory, lent to a function that leaves nothing behind: rows of elements of one size, and pointers to what holds them. -/
namespace Bow
open Go
inductive Lp (B : Base) (s : Nat) : V → V → Prop
 | lz {x y : V} (h : Lz B (fun _ => s) x y) : Lp B s x y
 | box (r : Nat) (cs ds : List V) (h : B r = some (.box cs)) (hl : cs.length = ds.length) (hd : ∀ (j : Nat) (c d : V),cs[j]? = some c → ds[j]? = some d → Lp B s c d) : Lp B s (.ptr (.abs r) 0) (.iptr ds 0)
theorem Lp.rep {B : Base} {s : Nat} {w : World} {β : Nat → Loc} {H : Heap} (hrel : HRel w β H) (hB : ∀ q o,B q = some o → H[q]? = some (some o)) {x y : V} (h : Lp B s x y) : ∀ {v : Value},Rep w β H x v → Rep w β (sealH (fun _ => s) H) y v:=by
 induction h with
 | lz h => exact fun {v} hv => h.rep hrel hB hv
 | box r cs ds h hl hd ih =>
  intro v hv
  have hH:=hB r _ h
  have hob:=hrel.obj r _ hH
  cases hv with
  | ptrLive _ _ b N cs' hH' hβ =>
   rw [hβ] at hob
   obtain ⟨vs,e,h1,h2,h3,h4⟩:=hob
   have key : Rep w β (sealH (fun _ => s) H) (.iptr ds 0) (.pointer (some ((⟨b,0,none⟩ : Addr).add 0))):=by
    refine .iptr ds 0 ⟨b,0,none⟩ (fun j => vs.getD j Go.undef) (seal_no b) (Array.getElem?_eq_some_iff.1 h1).1 (fun j hj => ?_) (fun j d hj => ?_)
    ·have hjv : j < vs.size:=by omega
     rw [at_add,cell_of_row w b j vs e (0,0) h1]
     simp [hjv]
    ·have hjd:=lt_of_get hj
     have hjc : j < cs.length:=by omega
     have hjv : j < vs.size:=by omega
     exact ih j _ d (List.getElem?_eq_getElem hjc) hj (h4 j _ _ (List.getElem?_eq_getElem hjc) (by simp [hjv]))
   rw [at_add] at key
   exact key
  | ptrDead _ _ _ hd => rw [hH] at hd;cases hd
inductive Lt (T : Heap) (s : Nat) : V → V → Prop
 | wk {x y : V} (hx : x.pureB = true) (h : Wk x y) (hy : y.apart [] = true) : Lt T s x y
 | row (k g : Nat) (xs : List V) (h : T[k]? = some (some (.vec g s xs))) (hx : V.apartL [] xs = true) : Lt T s (.osl (.loc k) g 0 xs.length) (.sl s xs)
 | box (k : Nat) (cs ds : List V) (h : T[k]? = some (some (.box cs))) (hl : cs.length = ds.length) (hd : ∀ (j : Nat) (c d : V),cs[j]? = some c → ds[j]? = some d → Lt T s c d) : Lt T s (.ptr (.loc k) 0) (.iptr ds 0)
theorem loc_conv {m : List Nat} {k r : Nat} (h : m[k]? = some r) : (Ref.loc k).conv m = .abs r:=by
 simp only [Ref.conv]
 rw [h]
theorem Lt.conv {T H : Heap} {m : List Nat} {s : Nat} (hlen : m.length = T.length) (hloc : ∀ (k r : Nat) (o : Option HObj),m[k]? = some r → T[k]? = some o → H[r]? = some (o.map (HObj.conv m))) {x y : V} (h : Lt T s x y) : Lp (fun r => (H[r]?).join) s (x.conv m) y:=by
 induction h with
 | wk hx h hy =>
  rw [pure_conv _ _ hx]
  exact .lz (.wk h hy)
 | row k g xs h hx =>
  have hk:=lt_of_get h
  obtain ⟨r,hr⟩ : ∃ r,m[k]? = some r:=⟨_,List.getElem?_eq_getElem (by omega)⟩
  have e : (V.osl (.loc k) g 0 xs.length).conv m = .osl (.abs r) g 0 xs.length:=by rw [V.conv,loc_conv hr]
  rw [e]
  refine .lz (.row r g s xs ?_ rfl hx)
  show (H[r]?).join = _
  rw [hloc k r _ hr h]
  rfl
 | box k cs ds h hl hd ih =>
  have hk:=lt_of_get h
  obtain ⟨r,hr⟩ : ∃ r,m[k]? = some r:=⟨_,List.getElem?_eq_getElem (by omega)⟩
  have e : (V.ptr (.loc k) 0).conv m = .ptr (.abs r) 0:=by rw [V.conv,loc_conv hr]
  rw [e]
  refine .box r (V.convL m cs) ds ?_ (by rw [V.convL_eq,List.length_map];exact hl) fun j c d hj hdj => ?_
  ·show (H[r]?).join = _
   rw [hloc k r _ hr h]
   rfl
  ·rw [V.convL_eq,List.getElem?_map,Option.map_eq_some_iff] at hj
   obtain ⟨c',hc',rfl⟩:=hj
   exact ih j c' d hc' hdj
def LtL (T : Heap) (s : Nat) : List V → List V → Prop
 | [],[] => True
 | x :: xs,y :: ys => Lt T s x y ∧ LtL T s xs ys
 | _,_ => False
theorem LtL.get {T : Heap} {s : Nat} : ∀ {xs ys : List V},LtL T s xs ys → xs.length = ys.length ∧ ∀ (j : Nat) (y : V),ys[j]? = some y → ∃ x,xs[j]? = some x ∧ Lt T s x y
 | [],[],_ => ⟨rfl,fun j y h => by simp at h⟩
 | x :: xs,y :: ys,h => by
  obtain ⟨h1,h2⟩:=LtL.get h.2
  refine ⟨by simp [h1],fun j z hz => ?_⟩
  cases j with
  | zero => simp at hz;subst hz;exact ⟨x,rfl,h.1⟩
  | succ j => simpa using h2 j z (by simpa using hz)
 | [],_ :: _,h => h.elim
 | _ :: _,[],h => h.elim
theorem call_lendT {c : Cx} {g : FuncId} {args args' : List V} {E : Env} {T : Heap} {K : V → St → Prop} {Q : V → Prop} (s : Nat) (hf : Pure c.P g args' Q) (hz : LtL T s args args') (ha' : V.pureL args' = true)
  (hx : ∀ x,Q x → x.apart [s] = true) (h : ∀ x,Q x → K x ⟨E,T,c.B,c.D⟩) : CallThen c g args E T K:=by
 unfold Pure Fun at hf
 unfold CallThen
 refine ⟨hf.1,fun w β H m a vals cs hs hl hr => ?_⟩
 obtain ⟨hzl,hzg⟩:=hz.get
 have hs0 : SRel [] 0 w β (sealH (fun _ => s) H) [] ⟨[],[],fun r => ((sealH (fun _ => s) H)[r]?).getD none,[]⟩ bare:=by
  refine ⟨hs.hrel.sealed (fun _ => s),rfl,fun k => by simp [lk,V.conv];exact .undef _,rfl,List.nodup_nil,by simp,rfl,fun r h _ => ?_,fun r h1 => ?_,by simp,by simp,by simp,rfl,by simp⟩
  ·simp only
   rw [List.getElem?_eq_getElem h]
   rfl
  ·simp only
   rw [List.getElem?_eq_none h1]
   rfl
 obtain ⟨x,T',v,w',β',H',m',fr,⟨rfl,hp,hq⟩,k1,k2,k3,k4⟩:=hf.2 w β (sealH (fun _ => s) H) [] _ vals cs hs0 (hzl.symm.trans hl) (fun j y v hj hv => by
  obtain ⟨x0,h1,h2⟩:=hzg j y hj
  have h3:=hr j x0 v h1 hv
  rw [pure_conv _ _ (pureL_mem _ ha' y (List.mem_of_getElem? hj))]
  refine (h2.conv hs.mlen hs.loc).rep hs.hrel (fun q o hq => ?_) h3
  have hq : (H[q]?).join = some o:=hq
  cases e : H[q]? with
  | none => rw [e] at hq;cases hq
  | some z =>
   rw [e] at hq
   have hq : z = some o:=hq
   rw [hq])
 have hm' : m' = []:=List.length_eq_zero_iff.1 k1.mlen
 subst hm'
 have hb : RowKit.Below w.heap.size w w':=⟨k2.os,k2.tape,k2.output,k2.size,fun q hq => k2.keep q hq (seal_no q)⟩
 have g2 : Fr w β H w' β H:=Fr.of_below hb
 rw [pure_conv _ _ hp] at k3
 refine ⟨x,_,v,w',β,H,m,fr,h x hq,hs.same g2 (hs.hrel.of_below hb),g2,?_,k4.1,k4.2.1,k4.2.2,List.prefix_refl _⟩
 rw [pure_conv _ _ hp]
 refine k3.unsealed (L:=fun _ => s) (ss:=[s]) (fun r => by simp) (fun r o ho => ?_) (hx x hq)
 have hlt : r < (sealH (fun _ => s) H).length:=lt_of_get ho
 have hH' : H'[r]? = some (some o):=by
  have:=k1.base r (Nat.lt_of_lt_of_le hlt k2.len) (by simp)
  simp only at this
  rw [this,ho]
  rfl
 refine ⟨hH',?_⟩
 obtain ⟨o',_,rfl⟩:=seal_of ho
 obtain ⟨t,e⟩:=sealO_held s o'
 rw [e] at hH'
 exact (k2.seals r t hH').2
end Bow
/- W107: a window's revisions: what is known of them; in plain Lean. -/
namespace Bow
open Go Go.Proofs
def lastT (l : List Rv) : Tree:=(l.getLast?.map Rv.tree).getD zeroT0
structure WinI (l : List Rv) (k : Nat) : Prop where
 ne : l ≠ []
 len : l.length ≤ k + 1
 linked : Linked l
 right : ∀ r ∈ l,rightT r.tree = true
 weight : ∀ r ∈ l,r.tree.weight ≤ 200 + 648 * k
 made : ∀ r ∈ l,OkL r.made ∧ r.made.length ≤ 4 ∧ AtMost 162 r.made
theorem WinI.mono {l : List Rv} {k : Nat} (h : WinI l k) : WinI l (k + 1):=⟨h.ne,by have:=h.len;omega,h.linked,h.right,fun r hr => by have:=h.weight r hr;omega,h.made⟩
theorem WinI.last {l : List Rv} {k : Nat} (h : WinI l k) : ∃ z,l.getLast? = some z ∧ z ∈ l ∧ lastT l = z.tree:=by
 refine ⟨l.getLast h.ne,List.getLast?_eq_some_getLast h.ne,List.getLast_mem h.ne,?_⟩
 unfold lastT
 rw [List.getLast?_eq_some_getLast h.ne]
 rfl
theorem win_new {t : Tree} (hr : rightT t = true) (hw : t.weight ≤ 200) : WinI [⟨t,[]⟩] 0:=by
 refine ⟨by simp,by simp,trivial,fun r h => ?_,fun r h => ?_,fun r h => ?_⟩
 all_goals rw [List.mem_singleton.1 h]
 ·exact hr
 ·simp only;omega
 ·exact ⟨(fun o ho => (by cases ho)),Nat.zero_le _,AtMost.nil⟩
theorem WinI.add {l : List Rv} {k : Nat} (h : WinI l k) {o : List OpT} {t : Tree} {i : Nat} (ho : LightL o 4 40) (hok : OkL o) (ha : AllR (lastT l) o = (t,i,0)) : WinI (l ++ [⟨t,bareL o⟩]) (k + 1):=by
 obtain ⟨z,hz,hm,hl⟩:=h.last
 rw [hl] at ha
 have hr:=h.right z hm
 have hc : Comes z.tree o t:=by
  unfold AllR at ha
  rw [hr] at ha
  exact ⟨i,ha⟩
 have hw:=h.weight z hm
 have hcost : costs o ≤ 4 * 162:=costs_le ho.len (light_most ho)
 have hwt:=AllR_weight z.tree o
 rw [ha] at hwt
 simp only at hwt
 refine ⟨by simp,?_,?_,fun r hr' => ?_,fun r hr' => ?_,fun r hr' => ?_⟩
 ·rw [List.length_append]
  have:=h.len
  simp
  omega
 ·obtain ⟨l',rfl⟩ : ∃ l',l = l' ++ [z]:=by
   refine ⟨l.dropLast,?_⟩
   have e:=List.dropLast_concat_getLast h.ne
   have e2 : l.getLast h.ne = z:=by
    rw [List.getLast?_eq_some_getLast h.ne] at hz
    injection hz
   rw [← e2]
   exact e.symm
  exact linked_snoc h.linked (comes_bare hc)
 all_goals rcases List.mem_append.1 hr' with hr' | hr'
 ·exact h.right r hr'
 ·rw [List.mem_singleton.1 hr']
  exact comes_right hr hc
 ·have:=h.weight r hr'
  omega
 ·rw [List.mem_singleton.1 hr']
  simp only
  omega
 ·exact h.made r hr'
 ·rw [List.mem_singleton.1 hr']
  refine ⟨bareL_okL hok,?_,AtMost.bare (light_most ho)⟩
  simp only
  rw [bareL_len]
  exact ho.len
theorem WinI.rows {l : List Rv} {k : Nat} (h : WinI l k) (n : Nat) : ∀ r ∈ rowsL (l.drop n),OkL r ∧ r.length ≤ 4 ∧ AtMost 162 r:=fun r hr => by
 unfold rowsL at hr
 rw [List.mem_map] at hr
 obtain ⟨z,hz,rfl⟩:=hr
 obtain ⟨h1,h2,h3⟩:=h.made z (List.mem_of_mem_drop hz)
 exact ⟨bareL_okL h1,by rw [bareL_len];exact h2,h3.bare⟩
theorem thr_size {prior : Bool} {C : Nat} : ∀ (rows : List (List OpT)) (bs : List OpT) (out : List (List OpT)),AtMost C bs → (∀ r ∈ rows,AtMost C r ∧ r.length ≤ 4) → AtMost C (thrG prior bs out rows).1 ∧ (thrG prior bs out rows).1.length ≤ bs.length + 4 * rows.length
 | [],bs,out,hb,_ => by
  rw [thrG]
  exact ⟨hb,by simp⟩
 | r :: rows,bs,out,hb,hr => by
  rw [thrG]
  have h1:=hr r (by simp)
  have c:=listsX_cost (prior:=prior) hb h1.1
  have n : (listsX prior bs r).1.length ≤ bs.length + r.length:=by
   have ix:=bringX_inv prior bs r
   show (bareL _).length ≤ _
   rw [bareL_len]
   omega
  cases !decide ((listsX prior bs r).2.2 = 0) with
  | true => exact ⟨AtMost.nil,Nat.zero_le _⟩
  | false =>
   have ih:=thr_size (prior:=prior) rows (listsX prior bs r).1 (out ++ [(listsX prior bs r).2.1]) c.1 fun z hz => hr z (by simp [hz])
   refine ⟨ih.1,Nat.le_trans ih.2 ?_⟩
   simp only [List.length_cons]
   omega
noncomputable def bringR (l : List Rv) (i : Nat) (o : List OpT) : List OpT × Int :=
 bif !decide ((AllR ((l.getD i ⟨zeroT0,[]⟩).tree) o).2.2 = 0) then ([],(AllR ((l.getD i ⟨zeroT0,[]⟩).tree) o).2.2)
 else bif !decide ((thrG false (bareL o) [] (rowsL (l.drop (i + 1)))).2.2 = 0) then ([],(thrG false (bareL o) [] (rowsL (l.drop (i + 1)))).2.2) else ((thrG false (bareL o) [] (rowsL (l.drop (i + 1)))).1,0)
def rvV (r : Rv) : V:=.agg ((nodeV r.tree).cells ++ [opsV r.made])
def winC (low : Int) (l : List Rv) : List V:=[.int .i64 low,.sl 7 (l.map rvV)]
end Bow
/- W28: the chapter's examples. -/
namespace Bow
open Go Go.Proofs
end Bow
/- W29: the chapter's examples, all. -/
namespace Bow
open Go Go.Proofs
end Bow
/- W30: the laws' functions: TreeopsFormed, TreeopsValid. -/
namespace Bow
open Go Go.Proofs
end Bow
/- W40: the law's function TreeopsApply. -/
namespace Bow
open Go Go.Proofs
end Bow
/- W90: the law TreeopsSame, walked. -/
namespace Bow
open Go Go.Proofs
theorem apart_int {ss : List Nat} : ∀ l : List Int,V.apartL ss (l.map intV) = true
 | [] => rfl
 | i :: l => by rw [List.map_cons,V.apartL,apart_int l];rfl
theorem apart_attrs {ss : List Nat} : ∀ l : List (List UInt8 × List UInt8),V.apartL ss (l.map attrV) = true
 | [] => rfl
 | i :: l => by rw [List.map_cons,V.apartL,apart_attrs l];rfl
theorem apart_pieces {ss : List Nat} : ∀ l : List PieceT,V.apartL ss (l.map pieceV) = true
 | [] => rfl
 | i :: l => by rw [List.map_cons,V.apartL,apart_pieces l];rfl
mutual
theorem apart_node {ss : List Nat} (h : ss.contains 2 = false ∧ ss.contains 6 = false) : ∀ t : Tree,(nodeV t).apart ss = true
 | .mk i l b a c s => by
  rw [show nodeV (.mk i l b a c s) = .agg [.int .u64 i,.bool l,.str b,.sl 2 (a.map attrV),.str c,.sl 6 (nodesV s)] from rfl]
  simp only [V.apart,V.apartL,h.1,h.2,apart_attrs,apart_nodes h s,Bool.not_false,Bool.and_self]
theorem apart_nodes {ss : List Nat} (h : ss.contains 2 = false ∧ ss.contains 6 = false) : ∀ l : List Tree,V.apartL ss (nodesV l) = true
 | [] => by rw [nodesV];rfl
 | s :: l => by
  have h1:=apart_node h s
  rw [nodesV,V.apartL,apart_nodes h l,Bool.and_true]
  exact h1
end
end Bow
/- W108: a window that is lent. -/
namespace Bow
open Go Go.Proofs
theorem apart_op {ss : List Nat} (h : ss.contains 1 = false ∧ ss.contains 3 = false) (o : OpT) : (opV o).apart ss = true:=by
 show V.apart ss (.agg [.int .u8 o.kind,pathV o.path,.int .i64 o.at_,pathV o.to,.int .u64 o.id,.bool o.leaf,.str o.label,.str o.key,.str o.value,.bool o.gone,piecesV o.pieces]) = true
 unfold pathV piecesV
 simp only [V.apart,V.apartL,h.1,h.2,apart_int,apart_pieces,Bool.not_false,Bool.and_self]
theorem apart_opL {ss : List Nat} (h : ss.contains 1 = false ∧ ss.contains 3 = false) : ∀ l : List OpT,V.apartL ss (l.map opV) = true
 | [] => rfl
 | o :: l => by rw [List.map_cons,V.apartL,apart_op h,apart_opL h l];rfl
theorem apart_ops {ss : List Nat} (h : ss.contains 1 = false ∧ ss.contains 3 = false) (h2 : ss.contains 11 = false) (l : List OpT) : (opsV l).apart ss = true:=by
 unfold opsV
 simp only [V.apart,h2,apart_opL h,Bool.not_false,Bool.and_self]
theorem apart_lists {ss : List Nat} (h : ss.contains 1 = false ∧ ss.contains 3 = false) (h2 : ss.contains 11 = false) (l : List (List OpT)) : (listsV l).apart ss = true:=by
 have key : ∀ l : List (List OpT),V.apartL ss (l.map opsV) = true:=by
  intro l
  induction l with
  | nil => rfl
  | cons o l ih => rw [List.map_cons,V.apartL,apart_ops h h2,ih];rfl
 unfold listsV
 simp only [V.apart,h.1,key,Bool.not_false,Bool.and_self]
theorem apartL_app {ss : List Nat} : ∀ a b : List V,V.apartL ss (a ++ b) = (V.apartL ss a && V.apartL ss b)
 | [],b => by simp [V.apartL]
 | x :: a,b => by rw [List.cons_append,V.apartL,V.apartL,apartL_app a b,Bool.and_assoc]
theorem apart_rv (r : Rv) : (rvV r).apart [] = true:=by
 have h1 : V.apartL [] (nodeV r.tree).cells = true:=by
  have:=apart_node (ss:=[]) ⟨rfl,rfl⟩ r.tree
  cases hr : r.tree with
  | mk i l b a c ss =>
   rw [hr] at this
   exact this
 unfold rvV
 simp only [V.apart]
 rw [apartL_app,h1]
 simp only [V.apartL,apart_ops (ss:=[]) ⟨rfl,rfl⟩ rfl,Bool.and_self]
theorem apart_rvs : ∀ l : List Rv,V.apartL [] (l.map rvV) = true
 | [] => rfl
 | r :: l => by rw [List.map_cons,V.apartL,apart_rv,apart_rvs l];rfl
theorem lt_win {T : Heap} {k kv g : Nat} {low : Int} {l : List Rv} (h1 : T[k]? = some (some (.box [.int .i64 low,.osl (.loc kv) g 0 (l.map rvV).length]))) (h2 : T[kv]? = some (some (.vec g 7 (l.map rvV)))) : Lt T 7 (.ptr (.loc k) 0) (.iptr (winC low l) 0):=by
 refine .box k _ _ h1 rfl fun j c d hc hd => ?_
 match j,hc,hd with
 | 0,hc,hd =>
  injection hc with hc
  injection hd with hd
  subst hc hd
  exact .wk rfl (.refl _) rfl
 | 1,hc,hd =>
  injection hc with hc
  injection hd with hd
  subst hc hd
  exact .row kv g _ h2 (apart_rvs l)
 | j + 2,hc,_ => simp at hc
end Bow
/- AE57: a pointer to memory that is only read, held against nil. -/
namespace Bow
open Go
section
variable {c : Cx} {ops : Array Oper} {i : Nat} {o : Oper} {rest : List Nat} {k : List Item} {E : Env} {T : Heap}
theorem goes_iptrP {t t' e : TypeId} {x : Operand} {off : Nat} {cs : List V} (n : Nat) (ho : lget ops.toList i = some o) (hg : o.guard = none) (hop : o.op = .binOp .eql t x (.const (.pointer none)) t') (hx : opd E x = .iptr cs off) (ht : tyU c.P t = some (.pointer e))
  (h : putE c.nt o.dst .ff E False fun E' => evp c n (.inRegion ops rest :: k) E' T) : Goes c (.inRegion ops (i :: rest) :: k) E T:=by
 refine goes_opTo n ho hg hop (OpTo.still fun o hop w β H m a hs => ⟨.bool false,?_,.ff⟩) (fun cl h => by cases h) h
 have hr:=opd_rep hs x
 simp only [hx,V.conv] at hr
 generalize hq : a.eval x = q at hr
 cases hr with
 | iptr _ _ ad vals hown hlt hc hr =>
  have e2 : a.eval (.const (.pointer none)) = .pointer none:=rfl
  have hgd : (eqGuard .eql t x (.const (.pointer none)) (.pointer (some (ad.add off))) (.pointer none)).run c.P w = .ok () w:=by simp [eqGuard]
  simp only [execOp,hop,hq,e2,Sem.run_bind,hgd,Result.andThen_ok,(run_ptreq (tyU_sound ht) (some (ad.add off)) w).1]
  rfl
theorem goes_ptrPG {t t' e : TypeId} {x : Operand} {kb off j s : Nat} {cs : List V} {oj : Oper} (n : Nat) (ho : lget ops.toList i = some o) (hg : o.guard = some (j,false)) (hoj : lget ops.toList j = some oj) (hdj : oj.dst = some s) (hsj : lk E s = .ff) (hop : o.op = .binOp .eql t x (.const (.pointer none)) t') (hx : opd E x = .ptr (.loc kb) off) (hk : lget T kb = some (some (.box cs))) (ht : tyU c.P t = some (.pointer e))
  (h : putE c.nt o.dst .ff E False fun E' => evp c n (.inRegion ops rest :: k) E' T) : Goes c (.inRegion ops (i :: rest) :: k) E T:=by
 rw [lget_eq] at hk
 rw [lget_eq,Array.getElem?_toList] at ho hoj
 obtain ⟨E',h,hd⟩:=(putE_some h).resolve_left id
 refine goes_op (u:=.ff) (T':=T) ho (fun w β H m a hs => ?_) ?_ (fun cl hc => by rw [hop] at hc;cases hc) hd (evp_sound _ _ _ _ _ h)
 ·have hv : a.tmps.getD s Go.undef = .bool false:=by
   have:=opd_rep hs (.tmp s)
   simp only [opd,hsj] at this
   exact rep_ff this
  simp only [Region.wanted,hg,yielded_of hoj hdj,hv]
  rfl
 ·refine OpTo.still fun o2 hop2 w β H m a hs => ⟨.bool false,?_,.ff⟩
  rw [hop] at hop2
  have hr:=opd_rep hs x
  obtain ⟨r,hrm,hH⟩:=hs.at hk
  simp only [hx,V.conv,Ref.conv,hrm] at hr
  generalize hq : a.eval x = q at hr
  cases hr with
  | ptrLive _ _ b N cs' hH' hβ =>
   have e2 : a.eval (.const (.pointer none)) = .pointer none:=rfl
   have hgd : (eqGuard .eql t x (.const (.pointer none)) (.pointer (some ⟨b,off,none⟩)) (.pointer none)).run c.P w = .ok () w:=by simp [eqGuard]
   simp only [execOp,hop2,hq,e2,Sem.run_bind,hgd,Result.andThen_ok,(run_ptreq (tyU_sound ht) (some ⟨b,off,none⟩) w).1]
   rfl
  | ptrDead _ _ _ hd => rw [hH] at hd;cases hd
end
end Bow
/- W109: a window's trees and lists in new memory; the lists behind a revision. -/
namespace Bow
open Go Go.Proofs
set_option maxRecDepth 100000 in
theorem w_wbare (l : List OpT) (hl : l.length ≤ 1000000) (hok : ∀ o ∈ l, o.Lt 1000000) : Pure Tryz.prog 53 [opsV l] (fun x => x = opsV (bareL l)) := by
  refine pure_wk (pure_fn 300 Tryz.func53 rfl rfl rfl fun B => ?_)
  show Goes _ _ _ _
  refine goes_own 3 11 rfl ?_
  refine goes_iter (ι := Nat × Nat) (fun i => i.1 ≤ l.length) (fun i => l.length - i.1) (fun i => [(8, .int .i64 i.1), (7, .int .i64 (l.map opV).length), (6, opsV l), (3, .osl (.loc 0) i.2 0 i.1)]) (fun i => [some (.vec i.2 11 ((bareL (l.take i.1)).map opV))]) (0, 0) 300 (fun _ => rfl) (fun _ => rfl) ⟨Nat.zero_le _, ⟨⟨rfl, rfl⟩, ⟨rfl, rfl⟩, ⟨rfl, rfl⟩, ⟨rfl, rfl⟩, trivial⟩, ⟨⟨rfl, rfl⟩, trivial⟩⟩ ?_
  rintro ⟨i, g⟩ k1 next
  simp only at k1
  have hbl : (bareL (l.take i)).length = i := by simp [bareL]; omega
  refine ⟨fun hlt => go 300 ?_, fun hge => go 300 ?_⟩
  · have hi : i < l.length := by simpa using hlt
    have hx : (l.map opV)[i]? = some (opV l[i]) := by simp [hi]
    refine ⟨Int.natCast_nonneg i, _, hx, ?_⟩
    show CallThen _ _ _ _ _ _
    refine call_pure (w_Bare l[i] (hok _ (List.getElem_mem hi))) rfl ?_
    rintro x rfl
    refine ⟨⟨rfl, trivial⟩, rfl, rfl, rfl, (by rw [List.length_map]; exact hbl.symm), Nat.le_trans (Nat.mul_le_mul_right _ (show _ ≤ 1000001 by rw [List.length_map, hbl]; simp only [List.length_cons, List.length_nil]; omega)) (by decide), ?_⟩
    refine ⟨by constructor <;> omega, ?_⟩
    show Goes _ _ _ _
    have e : (bareL (l.take (i + 1))).map opV = (bareL (l.take i)).map opV ++ [opV (bareO l[i])] := by
      rw [List.take_succ_eq_append_getElem hi]
      simp only [bareL, List.map_append, List.map_cons, List.map_nil]
    refine next (i + 1, bump g) _ _ ⟨hi, by simp only; omega, ⟨⟨rfl, rfl⟩, ⟨rfl, rfl⟩, ⟨rfl, rfl⟩, ⟨?_, rfl⟩, trivial⟩, ⟨⟨?_, rfl⟩, trivial⟩⟩
    · simp only [lk]
      exact congrArg (V.osl _ _ _) (by rw [List.length_map, hbl]; rfl)
    · exact congrArg (fun z => some (HObj.vec (bump g) 11 z)) e.symm
  · have hi : i = l.length := by have : l.length ≤ i := by simpa using hge
                                 omega
    subst hi
    refine ⟨trivial, rfl, rfl, rfl, by simp [bareL], rfl, opsV (bareL l), ?_, rfl, rfl⟩
    show Wk (.sl 11 ((bareL (l.take l.length)).map opV)) _
    rw [List.take_length]
    exact .refl _
set_option maxRecDepth 100000 in
theorem w_CloneAttrP (xs : List V) (hl : xs.length ≤ 1000000) : Pure Tryz.prog 83 [.sl 2 xs] (fun x => x = .sl 2 xs) := by
  refine pure_wk (pure_fn 100 Tryz.func83 rfl rfl rfl fun B => ?_)
  show Goes _ _ _ _
  refine goes_nileq 100 rfl rfl rfl rfl rfl rfl fun b hb => ?_
  refine ⟨fun g => go 100 ?_, fun g => go 100 ?_⟩
  · rw [hb g]
    exact ⟨trivial, rfl, rfl, rfl, .sl 2 [], Wk.nil 2, rfl, rfl⟩
  · refine ⟨trivial, rfl, rfl, Nat.le_trans (Nat.mul_le_mul_right _ (show _ ≤ 1000000 by simpa using hl)) (by decide), ?_⟩
    exact ⟨trivial, rfl, rfl, rfl, by simp, rfl, .sl 2 xs, .refl _, rfl, rfl⟩
theorem w_CloneNodeF (xs : List V) (hl : xs.length ≤ 1000000) (hne : xs ≠ []) : Fun Tryz.prog 84 [] [.sl 6 xs] (fun x T' => ∃ g0, x = .osl (.loc 0) g0 0 xs.length ∧ T' = [some (.vec g0 6 xs)]) := by
  have h := w_CloneNode xs hl
  unfold Fun at h ⊢
  refine ⟨h.1, fun w β H m B vals cs hs hl hr => ?_⟩
  obtain ⟨x, T', v, w', β', H', m', fr, hq, k⟩ := h.2 w β H m B vals cs hs hl hr
  refine ⟨x, T', v, w', β', H', m', fr, ?_, k⟩
  rcases hq with ⟨e, _⟩ | ⟨e1, e2⟩
  · exact absurd e hne
  · exact ⟨2, e1, e2⟩
theorem w_CloneNodeP : Pure Tryz.prog 84 [.sl 6 []] (fun x => x = .sl 6 []) := by
  refine pure_wk (pure_fn 100 Tryz.func84 rfl rfl rfl fun B => ?_)
  show Goes _ _ _ _
  refine goes_nileq 100 rfl rfl rfl rfl rfl rfl fun b hb => ?_
  refine ⟨fun g => go 100 ?_, fun g => go 100 ?_⟩
  · exact ⟨trivial, rfl, rfl, rfl, .sl 6 [], Wk.nil 6, rfl, rfl⟩
  · refine ⟨trivial, rfl, rfl, Nat.le_trans (Nat.mul_le_mul_right _ (show _ ≤ 1000000 by simp)) (by decide), ?_⟩
    exact ⟨trivial, rfl, rfl, rfl, by simp, rfl, .sl 6 [], .refl _, rfl, rfl⟩
theorem set_sameV {l : List V} {k : Nat} {v : V} (h : l[k]? = some v) : l.set k v = l := by
  obtain ⟨hk, rfl⟩ := List.getElem?_eq_some_iff.1 h
  exact List.set_getElem_self hk
set_option maxHeartbeats 4000000 in
set_option maxRecDepth 100000 in
theorem w_wcopied (t : Tree) : t.weight ≤ 1000000 → Pure Tryz.prog 51 [nodeV t] (fun x => x = nodeV t) := by
  induction t using Tree.ind with
  | _ t ih =>
  intro ht
  have ha := attrs_le_weight t
  have hs := subs_le_weight t
  have ca := w_CloneAttrP (t.attrs.map attrV) (by rw [List.length_map]; omega)
  by_cases hne : t.subs = []
  · have cn := w_CloneNodeP
    have hn : t.subV = [] := by rw [subV_eq, hne]; rfl
    refine pure_wk (pure_fn 60 Tryz.func51 rfl rfl rfl fun B => ?_)
    show Goes _ _ _ _
    refine goes_draw 60 ?_
    have cn : Pure Tryz.prog 84 [.sl 6 t.subV] (fun x => x = .sl 6 t.subV) := by rw [hn]; exact cn
    refine ⟨_, ca, rfl, _, cn, rfl, ?_⟩
    refine ⟨by kernel_rfl, ?_⟩
    show Goes _ _ _ _
    refine goes_loop ?_
    refine go 60 ?_
    refine ⟨fun q => absurd (lt_of q) (by rw [hn]; simp), fun _ => go 60 ?_⟩
    exact ⟨trivial, rfl, rfl, rfl, nodeV t, .refl _, rfl, rfl⟩
  · have cn := w_CloneNodeF t.subV (by rw [subV_len]; omega) (by rw [subV_eq]; simpa using hne)
    refine pure_wk (pure_fn 60 Tryz.func51 rfl rfl rfl fun B => ?_)
    show Goes _ _ _ _
    refine goes_drawN [84] 60 ?_
    refine ⟨_, ca, rfl, ?_⟩
    refine ⟨6, t.subV, cn, rfl, rfl, ?_⟩
    refine ⟨by kernel_rfl, ?_⟩
    refine ⟨rfl, ?_⟩
    show Goes _ _ _ _
    refine goes_iter (ι := Nat) (fun i => i ≤ t.subs.length) (fun i => t.subs.length - i) (fun i => [(16, .int .i64 i), (15, .int .i64 t.subV.length), (14, .osl (.loc 2) 2 0 t.subV.length), (2, .ptr (.loc 1) 0), (1, .ptr (.loc 0) 0)])
      (fun _ => [some (.box [.int .u64 t.id, .bool t.leaf, .str t.label, .sl 2 (t.attrs.map attrV), .str t.text, .osl (.loc 2) 2 0 t.subV.length]), some (.box [.int .u64 0, .ff, .str [], .nilsl, .str [], .nilsl]), some (.vec 2 6 t.subV)]) 0 60 (fun _ => rfl) (fun _ => rfl) ⟨Nat.zero_le _, ⟨⟨rfl, rfl⟩, ⟨rfl, rfl⟩, ⟨rfl, rfl⟩, ⟨rfl, rfl⟩, ⟨rfl, rfl⟩, trivial⟩, ⟨⟨rfl, rfl⟩, ⟨rfl, rfl⟩, ⟨rfl, rfl⟩, trivial⟩⟩ ?_
    rintro i k1 next
    refine ⟨fun hlt => go 60 ?_, fun hge => go 60 ?_⟩
    · have hi : i < t.subs.length := by simpa [subV_eq] using hlt
      have hx : t.subV[0 + ((i : Nat) : Int).toNat]? = some (nodeV t.subs[i]) := by simp [subV_eq, hi]
      have hmem := List.getElem_mem hi
      have hws := weight_sub hmem
      have cc := ih _ hmem (by omega)
      have hset := set_sameV hx
      have hil : (i : Int) < t.subV.length := by rw [subV_len]; omega
      generalize t.subs[i] = s at hx cc hset
      refine ⟨rfl, Int.natCast_nonneg i, hil, rfl, nodeV s, hx, ?_⟩
      show Goes _ _ _ _
      refine goes_draw 60 ?_
      refine ⟨_, cc, rfl, rfl, Int.natCast_nonneg i, hil, rfl, nodeV s, hx, ?_⟩
      refine ⟨by kernel_rfl, ?_⟩
      refine ⟨by constructor <;> omega, ?_⟩
      show Goes _ _ _ _
      refine next (i + 1) _ _ ⟨hi, by omega, ⟨⟨rfl, rfl⟩, ⟨rfl, rfl⟩, ⟨rfl, rfl⟩, ⟨rfl, rfl⟩, ⟨rfl, rfl⟩, trivial⟩, ⟨⟨rfl, rfl⟩, ⟨rfl, rfl⟩, ⟨?_, rfl⟩, trivial⟩⟩
      exact congrArg (fun z => some (HObj.vec 2 6 z)) hset
    · exact ⟨trivial, rfl, rfl, rfl, rfl, rfl, nodeV t, .refl _, rfl, rfl⟩
end Bow
/- W110: a window that is only read: its revisions, its trees, the lists behind a revision, a list brought. -/
namespace Bow
open Go Go.Proofs
theorem at_rv (l : List Rv) (i : Nat) (hi : i < l.length) : (l.map rvV)[i]? = some (rvV (l.getD i ⟨zeroT0,[]⟩)):=by
 rw [List.getElem?_map,List.getElem?_eq_getElem hi,List.getD_eq_getElem?_getD,List.getElem?_eq_getElem hi]
 rfl
set_option maxRecDepth 100000 in
theorem w_wRev (low : Int) (l : List Rv) (h0 : 0 ≤ low ∧ low ≤ 2305843009213693952) (hl : 0 < l.length ∧ l.length ≤ 1000) : Pure Tryz.prog 15 [.iptr (winC low l) 0] (fun x => x = .int .i64 (low + l.length - 1)):=by
 refine pure_wk (pure_fn 60 Tryz.func15 rfl rfl rfl fun B => ?_)
 show Goes _ _ _ _
 refine goes_iptrP 60 rfl rfl rfl rfl rfl ?_
 show Goes _ _ _ _
 refine goes_draw 60 ?_
 refine ⟨by constructor <;> (simp;omega),by constructor <;> (simp;omega),?_⟩
 refine ⟨by kernel_rfl,?_⟩
 exact ⟨trivial,rfl,rfl,rfl,_,.refl _,rfl,by simp;rfl⟩
set_option maxRecDepth 100000 in
theorem w_wLow (low : Int) (l : List Rv) : Pure Tryz.prog 14 [.iptr (winC low l) 0] (fun x => x = .int .i64 low):=by
 refine pure_wk (pure_fn 60 Tryz.func14 rfl rfl rfl fun B => ?_)
 show Goes _ _ _ _
 refine goes_iptrP 60 rfl rfl rfl rfl rfl ?_
 exact ⟨trivial,rfl,rfl,rfl,_,.refl _,rfl,rfl⟩
set_option maxRecDepth 100000 in
theorem w_win (low : Int) (l : List Rv) (h0 : 0 ≤ low ∧ low ≤ 2305843009213693952) (hl : 0 < l.length ∧ l.length ≤ 1000) (rev : Int) (h1 : low ≤ rev) (h2 : rev < low + l.length) : Pure Tryz.prog 55 [.iptr (winC low l) 0,.int .i64 rev] (fun x => x = .int .i64 0):=by
 have cr:=w_wRev low l h0 hl
 refine pure_wk (pure_fn 60 Tryz.func55 rfl rfl rfl fun B => ?_)
 show Goes _ _ _ _
 refine goes_iptrP 60 rfl rfl rfl rfl rfl ?_
 refine ⟨fun q => absurd (lt_of q) (by omega),fun _ => go 60 ?_⟩
 show CallThen _ _ _ _ _ _
 refine call_pure cr rfl ?_
 rintro z rfl
 refine ⟨fun q => absurd (lt_of q) (by omega),fun _ => go 60 ?_⟩
 exact ⟨trivial,rfl,rfl,rfl,_,.refl _,rfl,rfl⟩
set_option maxRecDepth 100000 in
theorem w_wAt (low : Int) (l : List Rv) (h0 : 0 ≤ low ∧ low ≤ 2305843009213693952) (hl : 0 < l.length ∧ l.length ≤ 1000) (rev : Int) (i : Nat) (hr : rev = low + i) (hi : i < l.length) (hw : (l.getD i ⟨zeroT0,[]⟩).tree.weight ≤ 1000000) : Pure Tryz.prog 16 [.iptr (winC low l) 0,.int .i64 rev] (fun x => x = .tup [nodeV (l.getD i ⟨zeroT0,[]⟩).tree,.int .i64 0]):=by
 have ci:=w_win low l h0 hl rev (by omega) (by omega)
 have cc:=w_wcopied _ hw
 have hx:=at_rv l i hi
 generalize l.getD i ⟨zeroT0,[]⟩ = R at cc hx
 refine pure_wk (pure_fn 60 Tryz.func16 rfl rfl rfl fun B => ?_)
 show CallThen _ _ _ _ _ _
 refine call_pure ci rfl ?_
 rintro z rfl
 refine ⟨fun q => absurd rfl (ne_of' q),fun _ => go 60 ?_⟩
 show Goes _ _ _ _
 refine goes_draw 60 ?_
 have e : rev - low = (i : Int):=by omega
 refine ⟨by constructor <;> omega,by omega,rvV R,by rw [e];exact hx,_,cc,rfl,?_⟩
 refine ⟨by kernel_rfl,?_⟩
 exact ⟨trivial,rfl,rfl,rfl,_,.refl _,rfl,rfl⟩
set_option maxRecDepth 100000 in
theorem w_wTree (low : Int) (l : List Rv) (h0 : 0 ≤ low ∧ low ≤ 2305843009213693952) (hl : 0 < l.length ∧ l.length ≤ 1000) (hw : (lastT l).weight ≤ 1000000) : Pure Tryz.prog 21 [.iptr (winC low l) 0] (fun x => x = nodeV (lastT l)):=by
 have cc:=w_wcopied _ hw
 have hx:=at_rv l (l.length - 1) (by omega)
 have e : (l.getD (l.length - 1) ⟨zeroT0,[]⟩).tree = lastT l:=by
  unfold lastT
  rw [List.getD_eq_getElem?_getD,List.getLast?_eq_getElem?]
  cases l[l.length - 1]? <;> rfl
 rw [← e] at cc ⊢
 generalize l.getD (l.length - 1) ⟨zeroT0,[]⟩ = R at cc hx
 refine pure_wk (pure_fn 60 Tryz.func21 rfl rfl rfl fun B => ?_)
 show Goes _ _ _ _
 refine goes_iptrP 60 rfl rfl rfl rfl rfl ?_
 show Goes _ _ _ _
 refine goes_draw 60 ?_
 have e2 : (((l.map rvV).length : Nat) : Int) - 1 = ((l.length - 1 : Nat) : Int):=by rw [List.length_map];omega
 refine ⟨by constructor <;> (simp;omega),by simp;omega,rvV R,by rw [e2];exact hx,_,cc,rfl,?_⟩
 refine ⟨by kernel_rfl,?_⟩
 exact ⟨trivial,rfl,rfl,rfl,_,.refl _,rfl,rfl⟩
set_option maxRecDepth 100000 in
theorem w_behind1 (low : Int) (l : List Rv) (h0 : 0 ≤ low ∧ low ≤ 2305843009213693952) (hl : 0 < l.length ∧ l.length ≤ 1000) (rev : Int) (h1 : low ≤ rev) (h2 : rev < low + l.length) (hok : ∀ r ∈ l,OkL r.made ∧ r.made.length ≤ 1000) :
  Iter Tryz.prog 90 [] [.iptr [.iptr (winC low l) 0] 0,.iptr [.int .i64 rev] 0] ((rowsL (l.drop ((rev - low).toNat + 1))).map fun r => [opsV r]):=by
 intro m r kl T T' b hR hr
 refine funB_of_goes 60 Tryz.func90 rfl rfl rfl fun B hout => ?_
 show Goes _ _ _ _
 refine goes_draw 60 ?_
 have hlm : ((l.map rvV).length : Int) = l.length:=by rw [List.length_map]
 refine ⟨by constructor <;> omega,by constructor <;> omega,by omega,by omega,Int.le_refl _,?_⟩
 refine ⟨by kernel_rfl,?_⟩
 obtain ⟨D,hD⟩ : ∃ D,l.drop ((rev - low).toNat + 1) = D:=⟨_,rfl⟩
 have hDl : D.length ≤ l.length:=by rw [← hD,List.length_drop];omega
 have hDm : ∀ r ∈ D,OkL r.made ∧ r.made.length ≤ 1000:=fun r hr => hok r (List.mem_of_mem_drop (hD ▸ hr))
 have eD : ((l.map rvV).drop (rev - low + 1).toNat).take ((((l.map rvV).length : Nat) : Int).toNat - (rev - low + 1).toNat) = D.map rvV:=by
  rw [← hD,show (rev - low + 1).toNat = (rev - low).toNat + 1 by omega,List.map_drop,List.take_of_length_le (by simp)]
 rw [hD] at hR
 show Goes _ _ _ _
 refine goes_wkSlot 18 (v':=.int .i64 (D.map rvV).length) rfl rfl rfl (Wk.of_eq (congrArg (fun z : List V => V.int .i64 (z.length : Int)) eD)) ?_
 refine goes_wkSlot 17 (v':=.sl 7 (D.map rvV)) rfl rfl rfl (Wk.of_eq (congrArg (V.sl 7) eD)) ?_
 clear eD hD
 show Goes _ _ _ _
 refine goes_iterB (ι:=Nat × Heap) (fun i B1 => i.1 ≤ D.length ∧ Rounds Tryz.prog kl ((rowsL (D.drop i.1)).map fun r => [opsV r]) i.2 T' b ∧ Out m i.2 B1 ∧ ∀ q,q ∉ m → B1 q = B q) (fun i => D.length - i.1)
  (fun i => [(19,.int .i64 i.1),(18,.int .i64 (D.map rvV).length),(17,.sl 7 (D.map rvV)),(0,.yld (.abs r))]) (fun _ => []) (0,T) 60 (fun _ => rfl) (fun _ => rfl) ⟨⟨Nat.zero_le _,hR,hout,fun _ _ => rfl⟩,⟨⟨rfl,rfl⟩,⟨rfl,rfl⟩,⟨rfl,rfl⟩,⟨rfl,rfl⟩,trivial⟩,trivial⟩ ?_
 rintro ⟨i,Ti⟩ B1 ⟨k1,k2,k3,k4⟩ next
 refine ⟨fun hlt => go 60 ?_,fun hge => go 60 ?_⟩
 ·have hi : i < D.length:=by simpa using hlt
  have hx : (D.map rvV)[((i : Nat) : Int).toNat]? = some (rvV D[i]):=by simp [hi]
  have hm:=hDm _ (List.getElem_mem hi)
  have cb:=w_wbare D[i].made (by omega) fun o ho => (hm.1 o ho).1.lt
  have e : (rowsL (D.drop i)).map (fun r => [opsV r]) = [opsV (bareL D[i].made)] :: (rowsL (D.drop (i + 1))).map fun r => [opsV r]:=by
   rw [drop_cons hi]
   rfl
  simp only at k2
  rw [e] at k2
  generalize D[i] = R at hx cb k2
  refine ⟨Int.natCast_nonneg i,rvV R,hx,?_⟩
  show CallThen _ _ _ _ _ _
  refine call_pure cb rfl ?_
  rintro z rfl
  have hlp : ∃ ob,Ti[kl]? = some (some ob) ∧ isLoop ob:=by cases k2 <;> assumption
  obtain ⟨T1,b1,hy,hk⟩ : ∃ T1 b1,YieldOk Tryz.prog Ti kl [opsV (bareL R.made)] b1 T1 ∧ ((b1 = true ∧ Rounds Tryz.prog kl ((rowsL (D.drop (i + 1))).map fun r => [opsV r]) T1 T' b) ∨ (b1 = false ∧ T' = T1 ∧ b = false)):=by
   cases k2 with
   | go hl h k => exact ⟨_,_,h,.inl ⟨rfl,k⟩⟩
   | stop hl h => exact ⟨_,_,h,.inr ⟨rfl,rfl,rfl⟩⟩
  show Goes _ _ _ _
  refine goes_yield 60 rfl rfl rfl rfl rfl k3 hr hlp rfl hy ?_
  intro B2 hout2 hB2
  rcases hk with ⟨rfl,hk⟩ | ⟨rfl,rfl,rfl⟩
  ·refine ⟨by constructor <;> omega,?_⟩
   show Goes _ _ _ _
   exact next (i + 1,T1) B2 _ _ ⟨⟨hi,hk,hout2,fun q hq => (hB2 q hq).trans (k4 q hq)⟩,by simp only;omega,⟨⟨rfl,rfl⟩,⟨rfl,rfl⟩,⟨rfl,rfl⟩,⟨rfl,rfl⟩,trivial⟩,trivial⟩
  ·exact ⟨trivial,rfl,fun q hq => (hB2 q hq).trans (k4 q hq),_,hout2,rfl,rfl⟩
 ·have hi : D.length ≤ i:=by simpa using hge
  simp only at k2
  rw [List.drop_eq_nil_of_le hi] at k2
  cases k2
  exact ⟨trivial,rfl,k4,_,k3,rfl,rfl⟩
theorem foldl_snoc {α : Type} : ∀ (rows : List α) (g : Nat) (s : List α),(rows.foldl (fun (s : Nat × List α) r => (bump s.1,s.2 ++ [r])) (g,s)).2 = s ++ rows
 | [],g,s => by simp
 | r :: rows,g,s => by
  rw [List.foldl_cons,foldl_snoc rows,List.append_assoc]
  rfl
set_option maxHeartbeats 1000000 in
set_option maxRecDepth 100000 in
theorem w_AppendSeq (low rev : Int) (l : List Rv) (rows : List (List OpT)) (hit : Iter Tryz.prog 90 [] [.iptr [.iptr (winC low l) 0] 0,.iptr [.int .i64 rev] 0] (rows.map fun r => [opsV r])) (hl : rows.length ≤ 1000) : Pure Tryz.prog 89 [.nilsl,.fn (.func 90) [] [.iptr [.iptr (winC low l) 0] 0,.iptr [.int .i64 rev] 0]] (fun x => x = listsV rows):=by
 refine pure_wk (pure_fn 3 Tryz.func89 rfl rfl rfl fun B => ?_)
 show Goes _ _ _ _
 refine goes_ownBox 0 1 rfl ?_
 refine go 60 ?_
 show Goes _ _ _ _
 refine goes_range_all (σ:=Nat × List (List OpT)) 60 2 (fun s => [some (.box [.osl (.loc 1) s.1 0 (s.2.map opsV).length]),some (.vec s.1 1 (s.2.map opsV))]) (fun s r => (bump s.1,s.2 ++ [r])) (fun r => [opsV r]) (fun s l => s.2.length + l.length ≤ 1000) (0,[]) rows rfl rfl rfl hit rfl (fun _ => rfl) (fun _ => rfl) (fun _ => rfl) rfl (fun _ => rfl) (fun _ _ h => by cases h) (by show 0 + rows.length ≤ 1000;omega) ?_ ?_
 ·rintro ⟨g1,s⟩ a l hI
  have hI : s.length + (l.length + 1) ≤ 1000:=hI
  refine ⟨by show (s ++ [a]).length + l.length ≤ 1000;rw [List.length_append,List.length_singleton];omega,fun imps B r l h1 h2 => ?_⟩
  show Goes _ _ _ _
  refine goes_beginRound 60 rfl h2 rfl ?_
  refine ⟨⟨rfl,trivial⟩,rfl,rfl,rfl,rfl,Nat.le_trans (Nat.mul_le_mul_right _ (show _ ≤ 1001 by simp only [List.length_map,List.length_cons,List.length_nil];omega)) (by decide),?_⟩
  refine ⟨rfl,rfl,trivial,⟨⟨?_,rfl⟩,⟨?_,rfl⟩,⟨rfl,rfl⟩,⟨rfl,rfl⟩,trivial⟩⟩
  ·exact congrArg (fun n => some (HObj.box [V.osl (.loc 1) (bump g1) 0 n])) (by simp)
  ·exact congrArg (fun z => some (HObj.vec (bump g1) 1 z)) (by rw [List.map_append];rfl)
 ·rintro s hs
  have e:=foldl_snoc rows 0 []
  rw [← hs,List.nil_append] at e
  refine ⟨trivial,rfl,rfl,rfl,rfl,rfl,listsV rows,?_,rfl,rfl⟩
  exact Wk.of_eq (congrArg (fun z => V.sl 1 (z.map opsV)) e)
set_option maxRecDepth 100000 in
theorem w_Collect (low rev : Int) (l : List Rv) (rows : List (List OpT)) (hit : Iter Tryz.prog 90 [] [.iptr [.iptr (winC low l) 0] 0,.iptr [.int .i64 rev] 0] (rows.map fun r => [opsV r])) (hl : rows.length ≤ 1000) : Pure Tryz.prog 56 [.fn (.func 90) [] [.iptr [.iptr (winC low l) 0] 0,.iptr [.int .i64 rev] 0]] (fun x => x = listsV rows):=by
 have c1:=w_AppendSeq low rev l rows hit hl
 refine pure_fn 60 Tryz.func56 rfl rfl rfl fun B => ?_
 show CallThen _ _ _ _ _ _
 refine call_pure c1 rfl ?_
 rintro z rfl
 exact ⟨trivial,rfl,rfl,rfl,rfl⟩
theorem w_behind (low rev : Int) (l : List Rv) : Pure Tryz.prog 57 [.iptr (winC low l) 0,.int .i64 rev] (fun x => x = .fn (.func 90) [] [.iptr [.iptr (winC low l) 0] 0,.iptr [.int .i64 rev] 0]):=by
 refine pure_fn_frz [0,1] 60 Tryz.func57 rfl rfl rfl fun B => ?_
 exact ⟨trivial,rfl,rfl,rfl,rfl,rfl,rfl⟩
theorem rows_len (l : List Rv) : (rowsL l).length = l.length:=by simp [rowsL]
set_option maxRecDepth 100000 in
theorem w_wSince (low : Int) (l : List Rv) (h0 : 0 ≤ low ∧ low ≤ 2305843009213693952) (hl : 0 < l.length ∧ l.length ≤ 1000) (rev : Int) (i : Nat) (hr : rev = low + i) (hi : i < l.length) (hok : ∀ r ∈ l,OkL r.made ∧ r.made.length ≤ 1000) :
  Pure Tryz.prog 17 [.iptr (winC low l) 0,.int .i64 rev] (fun x => x = .tup [listsV (rowsL (l.drop (i + 1))),.int .i64 0]):=by
 have ci:=w_win low l h0 hl rev (by omega) (by omega)
 have cb:=w_behind low rev l
 have h1:=w_behind1 low l h0 hl rev (by omega) (by omega) hok
 rw [show (rev - low).toNat + 1 = i + 1 by omega] at h1
 have cc:=w_Collect low rev l (rowsL (l.drop (i + 1))) h1 (by rw [rows_len,List.length_drop];omega)
 refine pure_wk (pure_fn 60 Tryz.func17 rfl rfl rfl fun B => ?_)
 show CallThen _ _ _ _ _ _
 refine call_pure ci rfl ?_
 rintro z rfl
 refine ⟨fun q => absurd rfl (ne_of' q),fun _ => go 60 ?_⟩
 show CallThen _ _ _ _ _ _
 refine call_pure cb rfl ?_
 rintro z rfl
 show CallThen _ _ _ _ _ _
 refine call_pure cc rfl ?_
 rintro z rfl
 exact ⟨trivial,rfl,rfl,rfl,_,.refl _,rfl,rfl⟩
set_option maxHeartbeats 1000000 in
set_option maxRecDepth 100000 in
theorem w_wBring (low : Int) (l : List Rv) (h0 : 0 ≤ low ∧ low ≤ 2305843009213693952) (hl : 0 < l.length ∧ l.length ≤ 100) (rev : Int) (i : Nat) (hr : rev = low + i) (hi : i < l.length) (hok : ∀ r ∈ l,OkL r.made ∧ r.made.length ≤ 1000) (o : List OpT) (hol : o.length ≤ 1000) (ho : OkL o)
  (hw : (l.getD i ⟨zeroT0,[]⟩).tree.weight + costs o ≤ 400000) :
  Pure Tryz.prog 20 [.iptr (winC low l) 0,.int .i64 rev,opsV o] (fun x => x = .tup [opsV (bringR l i o).1,.int .i64 (bringR l i o).2]):=by
 have ci:=w_win low l h0 ⟨hl.1,by omega⟩ rev (by omega) (by omega)
 have ca:=w_ApplyAll (l.getD i ⟨zeroT0,[]⟩).tree o hw (by omega) fun z hz => (ho z hz).1
 have cb:=w_behind low rev l
 have h1:=w_behind1 low l h0 ⟨hl.1,by omega⟩ rev (by omega) (by omega) hok
 rw [show (rev - low).toNat + 1 = i + 1 by omega] at h1
 have cc:=w_Collect low rev l (rowsL (l.drop (i + 1))) h1 (by rw [rows_len,List.length_drop];omega)
 have ct:=w_lThrough o (rowsL (l.drop (i + 1))) false ho (fun r hr => by
  unfold rowsL at hr
  rw [List.mem_map] at hr
  obtain ⟨z,hz,rfl⟩:=hr
  obtain ⟨q1,q2⟩:=hok z (List.mem_of_mem_drop hz)
  exact ⟨bareL_okL q1,by rw [bareL_len];exact q2⟩) hol (by rw [rows_len,List.length_drop];omega)
 have hx:=at_rv l i hi
 obtain ⟨R,hR⟩ : ∃ R,bringR l i o = R:=⟨_,rfl⟩
 rw [hR]
 unfold bringR at hR
 generalize thrG false (bareL o) [] (rowsL (l.drop (i + 1))) = th at ct hR
 obtain ⟨⟨a1,a2,a3⟩,hA⟩ : ∃ r,AllR (l.getD i ⟨zeroT0,[]⟩).tree o = r:=⟨_,rfl⟩
 rw [hA] at ca hR
 obtain ⟨t1,t2,t3⟩:=th
 simp only at hR
 generalize l.getD i ⟨zeroT0,[]⟩ = rv at ca hx
 refine pure_wk (pure_fn 60 Tryz.func20 rfl rfl rfl fun B => ?_)
 show CallThen _ _ _ _ _ _
 refine call_pure ci rfl ?_
 rintro z rfl
 refine ⟨fun q => absurd rfl (ne_of' q),fun _ => go 60 ?_⟩
 refine ⟨fun q => absurd (lt_of q) (by simp;omega),fun _ => go 60 ?_⟩
 show Goes _ _ _ _
 refine goes_draw 60 ?_
 have e : rev - low = (i : Int):=by omega
 refine ⟨by constructor <;> omega,by omega,rvV rv,by rw [e];exact hx,_,ca,rfl,?_⟩
 refine ⟨by kernel_rfl,?_⟩
 refine ⟨fun q => go 60 ?_,fun q => go 60 ?_⟩
 ·have q:=ne_of' q
  refine ⟨trivial,rfl,rfl,rfl,.tup [opsV [],.int .i64 a3],Wk.tup ⟨Wk.nil 11,.refl _,trivial⟩,rfl,?_⟩
  rw [← hR,decide_eq_false q]
  rfl
 have q:=eq_of' q
 show CallThen _ _ _ _ _ _
 refine call_pure cb rfl ?_
 rintro z rfl
 show CallThen _ _ _ _ _ _
 refine call_pure cc rfl ?_
 rintro z rfl
 show CallThen _ _ _ _ _ _
 refine call_pure (pure_args ct ⟨.refl _,.refl _,Wk.ff,trivial⟩ rfl rfl) rfl ?_
 rintro z rfl
 refine ⟨fun q2 => go 60 ?_,fun q2 => go 60 ?_⟩
 ·have q2:=ne_of' q2
  refine ⟨trivial,rfl,rfl,rfl,.tup [opsV [],.int .i64 t3],Wk.tup ⟨Wk.nil 11,.refl _,trivial⟩,rfl,?_⟩
  rw [← hR,decide_eq_true q,decide_eq_false q2]
  rfl
 ·have q2:=eq_of' q2
  refine ⟨trivial,rfl,rfl,rfl,.tup [opsV t1,.int .i64 0],.refl _,rfl,?_⟩
  rw [← hR,decide_eq_true q,decide_eq_true q2]
  rfl
end Bow
/- AE58: own memory whose elements are to say less. -/
namespace Bow
open Go
theorem goes_wkvec {c : Cx} {todo : List Item} {E : Env} {T : Heap} (k : Nat) {g sz : Nat} {xs : List V} (xs' : List V) (hk : lget T k = some (some (.vec g sz xs))) (hw : WkE sz xs xs')
  (h : lset T k (some (.vec g sz xs')) fun T' => Goes c todo E T') : Goes c todo E T:=by
 rw [lset_eq] at h
 rw [lget_eq] at hk
 refine goes_step fun w β H m a b cs0 hs _ _ _ => ?_
 obtain ⟨r,hr,hH⟩:=hs.at hk
 simp only [HObj.conv] at hH
 have hob:=hs.hrel.obj r _ hH
 have hlen:=hw.len
 have hev : Evo (.vec g sz xs) (.vec g sz xs'):=⟨Nat.le_refl _,fun _ => ⟨rfl,hlen.symm⟩⟩
 have hfr : Fr w β H w β (H.set r (some ((HObj.vec g sz xs').conv m))):=Fr.swap hH hev
 have hrel : HRel w β (H.set r (some ((HObj.vec g sz xs').conv m))):=by
  refine hs.hrel.swap hH hev ?_
  simp only [HObj.conv]
  cases hβ : β r with
  | none => trivial
  | nil =>
   rw [hβ] at hob
   have hob : xs = []:=hob
   subst hob
   exact List.length_eq_zero_iff.1 hlen
  | blk bb N =>
   rw [hβ] at hob
   obtain ⟨vs,e,q0,q1,q2,q3,q4,q5,q6⟩:=hob
   refine ⟨vs,e,q0,q1,q2,by rw [hlen];exact q3,q4,fun y hy => ?_,fun i y j c v hi hj hv => ?_⟩
   ·obtain ⟨j,hj,rfl⟩:=List.mem_iff_getElem.1 hy
    obtain ⟨x,_,_,h3⟩:=hw.get j _ (List.getElem?_eq_getElem hj)
    exact h3
   ·obtain ⟨x,hx,h2,_⟩:=hw.get i y hi
    obtain ⟨z,hz,hwz⟩:=h2.get j c hj
    exact (hwz w β H v (q6 i x j z v hx hz hv)).mono hfr
 have hset:=hs.setAt (o':=some (.vec g sz xs')) (w':=w) hr (fun o1 e1 => by
   injection e1 with e1
   subst e1
   trivial)
  (fun hm => absurd hm (hs.notD hk (by simp))) hfr hrel
 exact ⟨w,β,_,m,a,todo,⟨E,_,c.B,c.D⟩,.refl _ _,hset,hfr,h⟩
end Bow
/- W111: a window begun, and a revision more. -/
namespace Bow
open Go Go.Proofs
def winT (low : Int) (g : Nat) (l : List Rv) : Heap:=[some (.box [.int .i64 low,.osl (.loc 1) g 0 (l.map rvV).length]),some (.vec g 7 (l.map rvV))]
theorem wk_rv {cs : List V} {x : V} {t : Tree} {m : List OpT} (hc : cs = (nodeV t).cells) (hx : Wk x (opsV m)) : WkL (cs ++ [x]) (rvV ⟨t,m⟩).cells:=by
 subst hc
 cases t
 exact ⟨.refl _,.refl _,.refl _,.refl _,.refl _,.refl _,hx,trivial⟩
theorem okE_rv (r : Rv) : okE 7 (rvV r):=by
 obtain ⟨t,m⟩:=r
 cases t
 exact ⟨rfl,rfl⟩
set_option maxHeartbeats 1000000 in
set_option maxRecDepth 100000 in
theorem w_wNew (low : Int) (t : Tree) (h1 : 0 ≤ low ∧ low ≤ 2305843009213693952) (hr : rightT t = true) (hw : t.weight ≤ 1000000) :
  Fun Tryz.prog 12 [] [.int .i64 low,nodeV t] (fun x T' => x = .tup [.ptr (.loc 2) 0,.int .i64 0] ∧ T' = [some (.box (nodeV t).cells),some (.vec 0 7 [.agg ((nodeV t).cells ++ [.nilsl])]),some (.box [.int .i64 low,.osl (.loc 1) 0 0 1])]):=by
 have c1:=w_RightT t hw
 have c2:=w_wcopied t hw
 refine fun_fn 60 Tryz.func12 rfl rfl rfl fun imps B hi => ?_
 have : imps = []:=List.length_eq_zero_iff.1 hi
 subst this
 refine ⟨fun q => absurd (lt_of q) (by omega),fun _ => go 60 ?_⟩
 refine ⟨fun q => absurd (lt_of q) (by omega),fun _ => go 60 ?_⟩
 show CallThen _ _ _ _ _ _
 refine call_pure c1 rfl ?_
 rintro z rfl
 refine ⟨fun q => absurd q (by rw [hr];decide),fun _ => go 60 ?_⟩
 show CallThen _ _ _ _ _ _
 refine call_pure c2 rfl ?_
 rintro z rfl
 refine ⟨⟨rfl,trivial⟩,?_⟩
 exact ⟨trivial,rfl,rfl,rfl,rfl⟩
set_option maxHeartbeats 2000000 in
set_option maxRecDepth 100000 in
theorem w_wAdd (low : Int) (g : Nat) (l : List Rv) (o : List OpT) (hl : 0 < l.length ∧ l.length ≤ 32) (hol : o.length ≤ 4096) (hok : OkL o) (hw : (lastT l).weight + costs o ≤ 400000) :
  Fun Tryz.prog 13 (winT low g l) [.ptr (.loc 0) 0,opsV o] (fun x T' => (x = .int .i64 (AllR (lastT l) o).2.2) ∧ ((AllR (lastT l) o).2.2 = 0 ∧ T' = winT low (bump g) (l ++ [⟨(AllR (lastT l) o).1,bareL o⟩]) ∨ (AllR (lastT l) o).2.2 ≠ 0 ∧ T' = winT low g l)):=by
 have ca:=w_ApplyAll (lastT l) o hw (by omega) fun z hz => (hok z hz).1
 have cb:=w_wbare o (by omega) fun z hz => (hok z hz).1.lt
 have hx:=at_rv l (l.length - 1) (by omega)
 have e : (l.getD (l.length - 1) ⟨zeroT0,[]⟩).tree = lastT l:=by
  unfold lastT
  rw [List.getD_eq_getElem?_getD,List.getLast?_eq_getElem?]
  cases l[l.length - 1]? <;> rfl
 rw [← e] at ca ⊢
 generalize l.getD (l.length - 1) ⟨zeroT0,[]⟩ = R at ca hx
 obtain ⟨⟨t2,n2,er⟩,hA⟩ : ∃ r,AllR R.tree o = r:=⟨_,rfl⟩
 rw [hA] at ca ⊢
 simp only
 refine fun_keep 2 rfl (fun_fn 60 Tryz.func13 rfl rfl rfl fun imps B hi => ?_)
 show Goes _ _ _ _
 refine goes_ptrP 60 rfl rfl rfl rfl rfl rfl ?_
 refine ⟨fun q => absurd (lt_of q) (by simp;omega),fun _ => go 60 ?_⟩
 show Goes _ _ _ _
 refine goes_draw 60 ?_
 have e2 : (((l.map rvV).length : Nat) : Int) - 1 = ((l.length - 1 : Nat) : Int):=by rw [List.length_map];omega
 refine ⟨rfl,by constructor <;> (simp;omega),rfl,by rw [e2];exact Int.natCast_nonneg _,by rw [e2,List.length_map];omega,rfl,rfl,rvV R,by rw [e2,Nat.zero_add];exact hx,_,ca,rfl,?_⟩
 refine ⟨by kernel_rfl,?_⟩
 refine ⟨by kernel_rfl,?_⟩
 refine ⟨fun q => go 60 ?_,fun q => go 60 ?_⟩
 ·have q:=ne_of' q
  exact ⟨trivial,rfl,rfl,winT low g l,rfl,rfl,⟨⟨rfl,rfl⟩,⟨rfl,rfl⟩,trivial⟩,rfl,.inr ⟨q,rfl⟩⟩
 have q:=eq_of' q
 show Goes _ _ _ _
 refine goes_draw 60 ?_
 refine ⟨_,cb,rfl,?_⟩
 refine ⟨rfl,⟨rfl,trivial⟩,rfl,rfl,rfl,rfl,rfl,Nat.le_trans (Nat.mul_le_mul_right _ (show _ ≤ 1001 by simp only [List.length_map,List.length_cons,List.length_nil];omega)) (by decide),?_⟩
 refine ⟨by kernel_rfl,?_⟩
 refine ⟨rfl,fun h => absurd (of_decide_eq_true h) (by simp only [List.length_map,List.length_cons,List.length_nil];omega),fun _ => go 60 ?_⟩
 refine ⟨trivial,rfl,rfl,winT low (bump g) (l ++ [⟨t2,bareL o⟩]),rfl,rfl,⟨⟨?_,rfl⟩,⟨?_,rfl⟩,trivial⟩,by rw [show er = 0 from q];rfl,.inl ⟨q,rfl⟩⟩
 ·exact congrArg (fun n => some (HObj.box [V.int .i64 low,V.osl (.loc 1) (bump g) 0 n])) (by simp)
 ·exact congrArg (fun z => some (HObj.vec (bump g) 7 z)) (by rw [List.map_append];rfl)
end Bow
/- W113: the examples of chapter 20. -/
namespace Bow
open Go Go.Proofs
theorem fun_args {P : Program} {f : FuncId} {T : Heap} {args args' : List V} {Q : V → Heap → Prop} (h : Fun P f T args' Q) (hl : args.length = args'.length) (hw : ∀ (j : Nat) (x y : V),args[j]? = some x → args'[j]? = some y → x = y ∨ (x.pureB = true ∧ y.pureB = true ∧ Wk x y)) : Fun P f T args Q:=by
 unfold Fun at *
 refine ⟨h.1,fun w β H m B vals cs hs hl' hr => h.2 w β H m B vals cs hs (hl ▸ hl') fun j y v hj hv => ?_⟩
 have hjl:=lt_of_get hj
 have hx:=List.getElem?_eq_getElem (l:=args) (i:=j) (by omega)
 rcases hw j _ y hx hj with e | ⟨p1,p2,k⟩
 ·rw [← e]
  exact hr j _ v hx hv
 ·have h1:=hr j _ v hx hv
  rw [pure_conv _ _ p1] at h1
  rw [pure_conv _ _ p2]
  exact k w β H v h1
def two20 : Tree:=.mk 1 false [114] [] [] [.mk 2 false [97] [] [] [],.mk 3 false [98] [] [] []]
def one20 : Tree:=.mk 1 false [114] [] [] [.mk 3 false [98] [] [] []]
def end20 : Tree:=.mk 1 false [114] [] [] [.mk 3 false [120] [] [] []]
def dO20 : OpT:={ noOp 2 with path:=[0] }
def xO20 : OpT:={ noOp 5 with path:=[0],label:=[120] }
def yO20 : OpT:={ noOp 5 with path:=[1],label:=[121] }
def zO20 : OpT:={ noOp 5 with path:=[0],label:=[121] }
def eO20 : OpT:={ noOp 2 with path:=[1] }
def revs20 : List Rv:=[⟨two20,[]⟩,⟨one20,[dO20]⟩,⟨end20,[xO20]⟩]
set_option maxRecDepth 100000 in
theorem all20_1 : AllR two20 [dO20] = (one20,1,0):=by kernel_rfl
set_option maxRecDepth 100000 in
theorem all20_2 : AllR one20 [xO20] = (end20,1,0):=by kernel_rfl
set_option maxRecDepth 100000 in
theorem all20_3 : (AllR two20 [yO20]).2.2 = 0:=by kernel_rfl
set_option maxRecDepth 100000 in
theorem all20_4 : (AllR two20 [eO20]).2.2 = 0:=by kernel_rfl
theorem lists_of {p : Bool} {xs ys : List OpT} {r : List OpT × List OpT × Int} (n : Nat) (h : bringF p n xs ys = some r) : listsX p xs ys = (bareL r.1,bareL r.2.1,r.2.2):=by
 unfold listsX
 rw [bringX_eq h]
set_option maxRecDepth 100000 in
theorem lx20_1 : listsX false [yO20] [dO20] = ([zO20],[dO20],0):=by
 rw [lists_of 3 (r:=([zO20],[dO20],0)) (by kernel_rfl)]
 kernel_rfl
set_option maxRecDepth 100000 in
theorem lx20_2 : listsX false [zO20] [xO20] = ([],[xO20],0):=by
 rw [lists_of 3 (r:=([],[xO20],0)) (by kernel_rfl)]
 kernel_rfl
set_option maxRecDepth 100000 in
theorem lx20_3 : listsX false [eO20] [dO20] = ([dO20],[dO20],0):=by
 rw [lists_of 3 (r:=([dO20],[dO20],0)) (by kernel_rfl)]
 kernel_rfl
set_option maxRecDepth 100000 in
theorem lx20_4 : (listsX false [dO20] [xO20]).1 = [dO20] ∧ (listsX false [dO20] [xO20]).2.2 = 0:=by
 rw [lists_of 3 (r:=([dO20],[],0)) (by kernel_rfl)]
 exact ⟨by kernel_rfl,rfl⟩
theorem br20_1 : bringR revs20 0 [yO20] = ([],0):=by
 unfold bringR
 have e : (revs20.getD 0 ⟨zeroT0,[]⟩).tree = two20:=rfl
 have er : rowsL (revs20.drop 1) = [[dO20],[xO20]]:=by kernel_rfl
 have eb : bareL [yO20] = [yO20]:=by kernel_rfl
 rw [e,all20_3,er,eb,thrG,lx20_1]
 simp only [decide_true,Bool.not_true,cond_false]
 rw [thrG,lx20_2]
 simp only [decide_true,Bool.not_true,cond_false]
 rw [thrG]
 rfl
theorem br20_2 : bringR revs20 0 [eO20] = ([dO20],0):=by
 unfold bringR
 have e : (revs20.getD 0 ⟨zeroT0,[]⟩).tree = two20:=rfl
 have er : rowsL (revs20.drop 1) = [[dO20],[xO20]]:=by kernel_rfl
 have eb : bareL [eO20] = [eO20]:=by kernel_rfl
 rw [e,all20_4,er,eb,thrG,lx20_3]
 simp only [decide_true,Bool.not_true,cond_false]
 rw [thrG,lx20_4.1,lx20_4.2]
 simp only [decide_true,Bool.not_true,cond_false]
 rw [thrG]
 rfl
theorem wkL20 {b : Bool} {i : Int} {label text : List UInt8} {ats ks leaf : V} {al : List (List UInt8 × List UInt8)} {ss : List Tree} (hl : Wk leaf (.bool b)) (ha : Wk ats (.sl 2 (al.map attrV))) (hk : Wk ks (.sl 6 (ss.map nodeV))) :
  WkL [.int .u64 i,leaf,.str label,ats,.str text,ks] (nodeV (.mk i b label al text ss)).cells:=by
 refine ⟨.refl _,hl,.refl _,ha,.refl _,?_,trivial⟩
 rw [subV_eq]
 exact hk
set_option maxRecDepth 100000 in
theorem w_two20 : Pure Tryz.prog 49 [] (fun x => x = nodeV two20):=by
 refine pure_wk (pure_fn 60 Tryz.func49 rfl rfl rfl fun B => ?_)
 refine ⟨⟨rfl,rfl,trivial⟩,?_⟩
 refine ⟨trivial,rfl,rfl,rfl,rfl,rfl,nodeV two20,?_,rfl,rfl⟩
 exact Wk.agg (wkL20 Wk.ff (Wk.nil 2) (Wk.sl ⟨⟨wkL20 Wk.ff (Wk.nil 2) (Wk.nil 6),okE_node _⟩,⟨wkL20 Wk.ff (Wk.nil 2) (Wk.nil 6),okE_node _⟩,trivial⟩))
set_option maxRecDepth 100000 in
theorem w_wSinceOut (low : Int) (l : List Rv) (rev : Int) (h : rev < low) : Pure Tryz.prog 17 [.iptr (winC low l) 0,.int .i64 rev] (fun x => x = .tup [.sl 1 [],.int .i64 200]):=by
 have ci : Pure Tryz.prog 55 [.iptr (winC low l) 0,.int .i64 rev] (fun x => x = .int .i64 200):=by
  refine pure_wk (pure_fn 60 Tryz.func55 rfl rfl rfl fun B => ?_)
  show Goes _ _ _ _
  refine goes_iptrP 60 rfl rfl rfl rfl rfl ?_
  refine ⟨fun _ => go 60 ?_,fun q => absurd h (by have:=not_lt_of q;omega)⟩
  exact ⟨trivial,rfl,rfl,rfl,_,.refl _,rfl,rfl⟩
 refine pure_wk (pure_fn 60 Tryz.func17 rfl rfl rfl fun B => ?_)
 show CallThen _ _ _ _ _ _
 refine call_pure ci rfl ?_
 rintro z rfl
 refine ⟨fun _ => go 60 ?_,fun q => absurd q (by decide)⟩
 exact ⟨trivial,rfl,rfl,rfl,.tup [.sl 1 [],.int .i64 200],Wk.tup ⟨Wk.nil 1,.refl _,trivial⟩,rfl,rfl⟩
theorem wk_del20 {p : List Int} : WkE 11 [.agg [.int .u8 2,pathV p,.int .i64 0,.nilsl,.int .u64 0,.ff,.str [],.str [],.str [],.ff,.nilsl]] ([{ noOp 2 with path:=p }].map opV) :=
 ⟨⟨⟨.refl _,.refl _,.refl _,Wk.nil 1,.refl _,Wk.ff,.refl _,.refl _,.refl _,Wk.ff,Wk.nil 3,trivial⟩,rfl,rfl⟩,trivial⟩
theorem wk_lab20 {p : List Int} {s : List UInt8} : WkE 11 [.agg [.int .u8 5,pathV p,.int .i64 0,.nilsl,.int .u64 0,.ff,.str s,.str [],.str [],.ff,.nilsl]] ([{ noOp 5 with path:=p,label:=s }].map opV) :=
 ⟨⟨⟨.refl _,.refl _,.refl _,Wk.nil 1,.refl _,Wk.ff,.refl _,.refl _,.refl _,Wk.ff,Wk.nil 3,trivial⟩,rfl,rfl⟩,trivial⟩
theorem okL20 {o : OpT} (h1 : o.path.length ≤ 10) (h2 : o.to.length ≤ 10) (h3 : o.label.length ≤ 10) (h4 : o.key.length ≤ 10) (h5 : o.value.length ≤ 10) (h6 : o.pieces = []) : OkL [o]:=fun z hz => by
 rw [List.mem_singleton.1 hz]
 exact ⟨⟨⟨by omega,by omega,by omega,by omega,by omega,by rw [h6];simp⟩,by rw [h6];simp [putsLen]⟩,by omega⟩
theorem fun_arg1 {P : Program} {f : FuncId} {T : Heap} {p x y : V} {Q : V → Heap → Prop} (h : Fun P f T [p,y] Q) (hx : x.pureB = true) (hy : y.pureB = true) (hw : Wk x y) : Fun P f T [p,x] Q :=
 fun_args h rfl fun j a b ha hb => by
  match j,ha,hb with
  | 0,ha,hb =>
   injection ha with ha
   injection hb with hb
   exact .inl (ha.symm.trans hb)
  | 1,ha,hb =>
   injection ha with ha
   injection hb with hb
   subst ha hb
   exact .inr ⟨hx,hy,hw⟩
  | j + 2,ha,_ => simp at ha
def rawDel (p : List Int) : V:=.sl 11 [.agg [.int .u8 2,pathV p,.int .i64 0,.nilsl,.int .u64 0,.ff,.str [],.str [],.str [],.ff,.nilsl]]
def rawLab (p : List Int) (s : List UInt8) : V:=.sl 11 [.agg [.int .u8 5,pathV p,.int .i64 0,.nilsl,.int .u64 0,.ff,.str s,.str [],.str [],.ff,.nilsl]]
set_option maxRecDepth 100000 in
theorem w_add20a : Fun Tryz.prog 13 (winT 5 0 (revs20.take 1)) [.ptr (.loc 0) 0,rawDel [0]] (fun x T' => x = .int .i64 0 ∧ T' = winT 5 (bump 0) (revs20.take 2)):=by
 refine fun_arg1 (y:=opsV [dO20]) (Fun.mono (w_wAdd 5 0 (revs20.take 1) [dO20] (by decide) (by decide) (okL20 (by decide) (by decide) (by decide) (by decide) (by decide) rfl) (by decide)) fun x T' hq => ?_) rfl rfl (Wk.sl wk_del20)
 have e : lastT (revs20.take 1) = two20:=rfl
 rw [e,all20_1] at hq
 obtain ⟨rfl,⟨_,rfl⟩ | ⟨k,_⟩⟩:=hq
 ·exact ⟨rfl,rfl⟩
 ·exact absurd rfl k
set_option maxRecDepth 100000 in
theorem w_add20b : Fun Tryz.prog 13 (winT 5 (bump 0) (revs20.take 2)) [.ptr (.loc 0) 0,rawLab [0] [120]] (fun x T' => x = .int .i64 0 ∧ T' = winT 5 (bump (bump 0)) revs20):=by
 refine fun_arg1 (y:=opsV [xO20]) (Fun.mono (w_wAdd 5 (bump 0) (revs20.take 2) [xO20] (by decide) (by decide) (okL20 (by decide) (by decide) (by decide) (by decide) (by decide) rfl) (by decide)) fun x T' hq => ?_) rfl rfl (Wk.sl wk_lab20)
 have e : lastT (revs20.take 2) = one20:=rfl
 rw [e,all20_2] at hq
 obtain ⟨rfl,⟨_,rfl⟩ | ⟨k,_⟩⟩:=hq
 ·exact ⟨rfl,rfl⟩
 ·exact absurd rfl k
theorem made20 : ∀ r ∈ revs20,OkL r.made ∧ r.made.length ≤ 1000:=fun r hr => by
 unfold revs20 at hr
 simp only [List.mem_cons,List.not_mem_nil,or_false] at hr
 rcases hr with rfl | rfl | rfl
 ·exact ⟨(fun o ho => (by cases ho)),Nat.zero_le _⟩
 ·exact ⟨okL20 (by decide) (by decide) (by decide) (by decide) (by decide) rfl,by decide⟩
 ·exact ⟨okL20 (by decide) (by decide) (by decide) (by decide) (by decide) rfl,by decide⟩
set_option pp.maxSteps 1500 in
set_option maxHeartbeats 4000000 in
set_option maxRecDepth 100000 in
theorem w_works20 : Pure Tryz.prog 11 [] (fun x => x = .bool true):=by
 have b1:=w_wBring 5 revs20 (by decide) (by decide) 5 0 (by decide) (by decide) made20 [yO20] (by decide) (okL20 (by decide) (by decide) (by decide) (by decide) (by decide) rfl) (by decide)
 have b2:=w_wBring 5 revs20 (by decide) (by decide) 5 0 (by decide) (by decide) made20 [eO20] (by decide) (okL20 (by decide) (by decide) (by decide) (by decide) (by decide) rfl) (by decide)
 rw [br20_1] at b1
 rw [br20_2] at b2
 have s1:=w_wSinceOut 5 revs20 4 (by decide)
 have s2:=w_wSince 5 revs20 (by decide) (by decide) 6 1 (by decide) (by decide) made20
 have r1:=w_wRev 5 revs20 (by decide) (by decide)
 have r2:=w_wLow 5 revs20
 refine pure_wk (pure_fn 60 Tryz.func11 rfl rfl rfl fun B => ?_)
 show CallThen _ _ _ _ _ _
 refine call_pure w_two20 rfl ?_
 rintro z rfl
 show CallThen _ _ _ _ _ _
 refine call_sub [] (w_wNew 5 two20 (by decide) (by decide) (by decide)) rfl rfl trivial rfl rfl rfl ?_
 rintro x T1 ⟨rfl,rfl⟩
 refine ⟨rfl,?_⟩
 refine ⟨fun q => absurd rfl (ne_of' q),fun _ => ?_⟩
 refine goes_wkvec 1 [rvV ⟨two20,[]⟩] rfl ⟨⟨wk_rv (t:=two20) (m:=[]) rfl (Wk.nil 11),okE_rv ⟨two20,[]⟩⟩,trivial⟩ ?_
 refine go 1 ?_
 show Goes _ _ _ _
 refine goes_ptrPG (t:=33) (e:=101) 60 rfl rfl rfl rfl rfl rfl rfl rfl rfl ?_
 refine ⟨⟨rfl,trivial⟩,rfl,rfl,⟨rfl,trivial⟩,?_⟩
 show CallThen _ _ _ _ _ _
 refine call_freeze 4 rfl rfl ?_
 refine call_sub [2,1] w_add20a rfl rfl ⟨⟨rfl,rfl⟩,⟨rfl,rfl⟩,trivial⟩ rfl rfl rfl ?_
 rintro x T1 ⟨rfl,rfl⟩
 refine ⟨rfl,?_⟩
 refine ⟨⟨rfl,trivial⟩,rfl,rfl,⟨rfl,trivial⟩,?_⟩
 show CallThen _ _ _ _ _ _
 refine call_freeze 6 rfl rfl ?_
 refine call_sub [2,1] w_add20b rfl rfl ⟨⟨rfl,rfl⟩,⟨rfl,rfl⟩,trivial⟩ rfl rfl rfl ?_
 rintro x T1 ⟨rfl,rfl⟩
 refine ⟨rfl,?_⟩
 refine ⟨⟨rfl,trivial⟩,rfl,rfl,⟨rfl,trivial⟩,?_⟩
 show CallThen _ _ _ _ _ _
 refine call_freeze 8 rfl rfl ?_
 refine call_lendT 7 b1 ⟨lt_win (kv:=1) (g:=bump (bump 0)) rfl rfl,.wk rfl (.refl _) rfl,.wk rfl (Wk.sl wk_lab20) rfl,trivial⟩ rfl (by rintro _ rfl;rfl) ?_
 rintro z rfl
 refine ⟨⟨rfl,trivial⟩,rfl,rfl,⟨rfl,trivial⟩,?_⟩
 show CallThen _ _ _ _ _ _
 refine call_freeze 10 rfl rfl ?_
 refine call_lendT 7 b2 ⟨lt_win (kv:=1) (g:=bump (bump 0)) rfl rfl,.wk rfl (.refl _) rfl,.wk rfl (Wk.sl wk_del20) rfl,trivial⟩ rfl (by rintro _ rfl;rfl) ?_
 rintro z rfl
 show CallThen _ _ _ _ _ _
 refine call_lendT 7 s1 ⟨lt_win (kv:=1) (g:=bump (bump 0)) rfl rfl,.wk rfl (.refl _) rfl,trivial⟩ rfl (by rintro _ rfl;rfl) ?_
 rintro z rfl
 show Goes _ _ _ _
 refine go 60 ?_
 show CallThen _ _ _ _ _ _
 refine call_lendT 7 s2 ⟨lt_win (kv:=1) (g:=bump (bump 0)) rfl rfl,.wk rfl (.refl _) rfl,trivial⟩ rfl (by rintro _ rfl;rfl) ?_
 rintro z rfl
 repeat (first
  | refine ⟨fun _ => go 60 ?_,fun q => absurd q (by decide)⟩
  | refine ⟨by decide,_,rfl,?_⟩
  | (show CallThen _ _ _ _ _ _;refine call_lendT 7 r1 ⟨lt_win (kv:=1) (g:=bump (bump 0)) rfl rfl,trivial⟩ rfl (by rintro _ rfl;rfl) ?_;rintro z rfl)
  | (show CallThen _ _ _ _ _ _;refine call_lendT 7 r2 ⟨lt_win (kv:=1) (g:=bump (bump 0)) rfl rfl,trivial⟩ rfl (by rintro _ rfl;rfl) ?_;rintro z rfl)
  | exact ⟨trivial,rfl,rfl,rfl,_,Wk.refl _,rfl,rfl⟩)
end Bow
/- W114: a window in plain Lean: what the law WindowCloses says of it. -/
namespace Bow
open Go Go.Proofs
theorem comes_all {t T : Tree} {o : List OpT} (hr : rightT t = true) (h : Comes t o T) : (AllR t o).2.2 = 0 ∧ (AllR t o).1 = T:=by
 obtain ⟨i,hi⟩:=h
 unfold AllR
 rw [hr]
 simp only [cond_true]
 rw [hi]
 exact ⟨rfl,rfl⟩
theorem all_comes {t : Tree} {o : List OpT} (hr : rightT t = true) (h : (AllR t o).2.2 = 0) : Comes t o (AllR t o).1:=by
 unfold AllR at h ⊢
 rw [hr] at h ⊢
 simp only [cond_true] at h ⊢
 obtain ⟨⟨T,i,e⟩,hA⟩ : ∃ r,allR t o 0 = r:=⟨_,rfl⟩
 rw [hA] at h ⊢
 simp only at h
 subst h
 exact ⟨i,hA⟩
theorem get_rv {l : List Rv} {i : Nat} (h : i < l.length) : l[i]? = some (l.getD i ⟨zeroT0,[]⟩):=by
 rw [List.getD_eq_getElem?_getD,List.getElem?_eq_getElem h]
 rfl
theorem getD_mem {l : List Rv} {i : Nat} (h : i < l.length) : l.getD i ⟨zeroT0,[]⟩ ∈ l:=List.mem_of_getElem? (get_rv h)
theorem lastT_getD {l : List Rv} : (l.getD (l.length - 1) ⟨zeroT0,[]⟩).tree = lastT l:=by
 unfold lastT
 rw [List.getD_eq_getElem?_getD,List.getLast?_eq_getElem?]
 cases l[l.length - 1]? <;> rfl
theorem rows_cons {l : List Rv} {i : Nat} (h : i + 1 < l.length) : rowsL (l.drop (i + 1)) = bareL (l.getD (i + 1) ⟨zeroT0,[]⟩).made :: rowsL (l.drop (i + 2)):=by
 have e : l.drop (i + 1) = l[i + 1] :: l.drop (i + 2):=List.drop_eq_getElem_cons h
 rw [e,List.getD_eq_getElem?_getD,List.getElem?_eq_getElem h]
 rfl
theorem win_rev {l : List Rv} {k i : Nat} (h : WinI l k) (hi : i + 1 < l.length) :
  (AllR (l.getD i ⟨zeroT0,[]⟩).tree (bareL (l.getD (i + 1) ⟨zeroT0,[]⟩).made)).2.2 = 0 ∧ (AllR (l.getD i ⟨zeroT0,[]⟩).tree (bareL (l.getD (i + 1) ⟨zeroT0,[]⟩).made)).1 = (l.getD (i + 1) ⟨zeroT0,[]⟩).tree :=
 comes_all (h.right _ (getD_mem (by omega))) (comes_bare (linked_at h.linked i _ _ (get_rv (by omega)) (get_rv hi)))
theorem bring_bad {l : List Rv} {j : Nat} {o : List OpT} (h : (AllR (l.getD j ⟨zeroT0,[]⟩).tree o).2.2 ≠ 0) : bringR l j o = ([],(AllR (l.getD j ⟨zeroT0,[]⟩).tree o).2.2):=by
 unfold bringR
 rw [decide_eq_false h]
 rfl
theorem bring_thr {l : List Rv} {j : Nat} {o : List OpT} (h : (AllR (l.getD j ⟨zeroT0,[]⟩).tree o).2.2 = 0) :
  bringR l j o = bif !decide ((thrG false (bareL o) [] (rowsL (l.drop (j + 1)))).2.2 = 0) then ([],(thrG false (bareL o) [] (rowsL (l.drop (j + 1)))).2.2) else ((thrG false (bareL o) [] (rowsL (l.drop (j + 1)))).1,0):=by
 unfold bringR
 rw [decide_eq_true h]
 rfl
theorem win_bring {l : List Rv} {k j : Nat} {o : List OpT} (h : WinI l k) (hj : j < l.length) (ha : (AllR (l.getD j ⟨zeroT0,[]⟩).tree o).2.2 = 0) :
  (bringR l j o).2 = 3 ∨ ((bringR l j o).2 = 0 ∧ (AllR (lastT l) (bringR l j o).1).2.2 = 0):=by
 obtain ⟨z,hz,hm,hl⟩:=h.last
 have hb:=brought h.linked (get_rv hj) hz (all_comes (h.right _ (getD_mem hj)) ha)
 rw [bring_thr ha,hl]
 rcases hb with e | ⟨e,Y,hY⟩
 ·rw [e]
  exact .inl rfl
 ·rw [e]
  exact .inr ⟨rfl,(comes_all (h.right z hm) hY).1⟩
theorem bring_zero {l : List Rv} {j : Nat} {o : List OpT} (h : (bringR l j o).2 = 0) (ha : (AllR (l.getD j ⟨zeroT0,[]⟩).tree o).2.2 = 0) :
  (thrG false (bareL o) [] (rowsL (l.drop (j + 1)))).2.2 = 0 ∧ (bringR l j o).1 = (thrG false (bareL o) [] (rowsL (l.drop (j + 1)))).1:=by
 rw [bring_thr ha] at h ⊢
 cases e : decide ((thrG false (bareL o) [] (rowsL (l.drop (j + 1)))).2.2 = 0) with
 | true => exact ⟨of_decide_eq_true e,rfl⟩
 | false =>
  rw [e] at h
  exact ⟨h,absurd h (of_decide_eq_false e)⟩
theorem bring_more {l : List Rv} {k j : Nat} {o : List OpT} {r : Rv} (h : WinI l k) (hj : j < l.length) (ha : (AllR (l.getD j ⟨zeroT0,[]⟩).tree o).2.2 = 0) (h1 : (bringR l j o).2 = 0) (h2 : (AllR (lastT l) (bringR l j o).1).2.2 = 0) :
  bringR (l ++ [r]) (l.length - 1) (bringR l j o).1 = bringR (l ++ [r]) j o:=by
 obtain ⟨k1,k2⟩:=bring_zero h1 ha
 have hlen : 0 < l.length:=by omega
 have g : ∀ i,i < l.length → (l ++ [r]).getD i ⟨zeroT0,[]⟩ = l.getD i ⟨zeroT0,[]⟩:=fun i hi => by
  rw [List.getD_eq_getElem?_getD,List.getD_eq_getElem?_getD,List.getElem?_append_left hi]
 have a1 : (AllR ((l ++ [r]).getD (l.length - 1) ⟨zeroT0,[]⟩).tree (bringR l j o).1).2.2 = 0:=by
  rw [g _ (by omega),lastT_getD]
  exact h2
 have a2 : (AllR ((l ++ [r]).getD j ⟨zeroT0,[]⟩).tree o).2.2 = 0:=by
  rw [g _ hj]
  exact ha
 rw [bring_thr a1,bring_thr a2,k2]
 have d1 : (l ++ [r]).drop (l.length - 1 + 1) = [r]:=by
  rw [show l.length - 1 + 1 = l.length by omega,List.drop_left]
 have d2 : (l ++ [r]).drop (j + 1) = l.drop (j + 1) ++ [r]:=List.drop_append_of_le_length (by omega)
 have d3 : rowsL (l.drop (j + 1) ++ [r]) = rowsL (l.drop (j + 1)) ++ [bareL r.made]:=by simp [rowsL]
 rw [d1,d2,d3]
 obtain ⟨m1,m2⟩:=thr_more (prior:=false) (rowsL (l.drop (j + 1))) (bareL o) [] (bareL r.made) k1
 rw [m1,m2]
 have e : rowsL [r] = [bareL r.made]:=rfl
 rw [e,thr_bare _ _ _ (by simp)]
theorem bring_ok {l : List Rv} {k j : Nat} {o : List OpT} (h : WinI l k) (hk : k ≤ 20) (ho : OkL o) (hL : LightL o 4 40) : OkL (bringR l j o).1 ∧ AtMost 162 (bringR l j o).1 ∧ (bringR l j o).1.length ≤ 100:=by
 have nil : OkL [] ∧ AtMost 162 [] ∧ ([] : List OpT).length ≤ 100:=⟨okL_nil,AtMost.nil,Nat.zero_le _⟩
 have hr:=h.rows (j + 1)
 have hlen:=h.len
 have hrl : (rowsL (l.drop (j + 1))).length ≤ 21:=by simp [rowsL];omega
 have h4:=hL.len
 have s1:=thr_size (prior:=false) (C:=162) (rowsL (l.drop (j + 1))) (bareL o) [] (AtMost.bare (light_most hL)) fun r hr' => ⟨(hr r hr').2.2,(hr r hr').2.1⟩
 have s2:=thrG_ok (prior:=false) (rows:=rowsL (l.drop (j + 1))) (bs:=bareL o) (out:=[]) (bareL_okL ho) (fun r hr' => ⟨(hr r hr').1,by have:=(hr r hr').2.1;omega⟩) (fun r hr' => by cases hr') (by rw [bareL_len];omega)
 rw [bareL_len] at s1
 unfold bringR
 cases !decide ((AllR ((l.getD j ⟨zeroT0,[]⟩).tree) o).2.2 = 0) with
 | true => exact nil
 | false =>
  cases !decide ((thrG false (bareL o) [] (rowsL (l.drop (j + 1)))).2.2 = 0) with
  | true => exact nil
  | false => exact ⟨s2.1,s1.1,by have:=s1.2;simp only [cond_false];omega⟩
theorem WinI.made1000 {l : List Rv} {k : Nat} (h : WinI l k) : ∀ r ∈ l,OkL r.made ∧ r.made.length ≤ 1000:=fun r hr => ⟨(h.made r hr).1,by have:=(h.made r hr).2.1;omega⟩
end Bow
/- W112: which scripts of a window are light. -/
namespace Bow
open Go Go.Proofs
set_option maxRecDepth 100000 in
theorem w_few20 (l : List OpT) : Pure Tryz.prog 10 [opsV l] (fun x => ∃ b : Bool, x = .bool b ∧ (b = true → LightL l 4 40)) := by
  have ff : ∃ y, Wk .ff y ∧ y.pureB = true ∧ ∃ b : Bool, y = .bool b ∧ (b = true → LightL l 4 40) := ⟨_, Wk.ff, rfl, false, rfl, fun h => by cases h⟩
  refine pure_wk (pure_fn 60 Tryz.func10 rfl rfl rfl fun B => ?_)
  show CallThen _ _ _ _ _ _
  refine call_pure (w_LightList l 4 40 (by decide) (by decide)) rfl ?_
  rintro x ⟨b, rfl, hb⟩
  refine ⟨fun g => go 60 ?_, fun g => go 60 ?_⟩
  · exact ⟨trivial, rfl, rfl, rfl, ff⟩
  have hl := hb (by simpa using g)
  have hlen := hl.len
  show Goes _ _ _ _
  refine goes_iter (ι := Nat) (fun i => i ≤ l.length) (fun i => l.length - i) (fun i => [(3, .int .i64 i), (0, opsV l)]) (fun _ => []) 0 60 (fun _ => rfl) (fun _ => rfl) ⟨Nat.zero_le _, ⟨⟨rfl, rfl⟩, ⟨rfl, rfl⟩, trivial⟩, trivial⟩ ?_
  rintro i k1 next
  refine ⟨fun hlt => go 60 ?_, fun hge => go 60 ?_⟩
  · have hi : i < l.length := by simpa using hlt
    have hp := (hl.ops _ (List.getElem_mem hi)).1.pieces
    have hx : (l.map opV)[i]? = some (opV l[i]) := by simp [hi]
    refine ⟨Int.natCast_nonneg i, _, hx, ?_⟩
    show CallThen _ _ _ _ _ _
    refine call_pure (w_Small l[i].pieces 100 (by omega) (by decide)) rfl ?_
    rintro z ⟨s1, rfl⟩
    refine ⟨fun g => go 60 ?_, fun g => go 60 ?_⟩
    · exact ⟨trivial, rfl, rfl, rfl, ff⟩
    refine ⟨by constructor <;> omega, ?_⟩
    show Goes _ _ _ _
    exact next (i + 1) _ _ ⟨hi, by omega, ⟨⟨rfl, rfl⟩, ⟨rfl, rfl⟩, trivial⟩, trivial⟩
  · exact ⟨trivial, rfl, rfl, rfl, _, Wk.tt, rfl, true, rfl, fun _ => hl⟩
set_option maxRecDepth 100000 in
theorem w_light20 (l : List CallT) : Pure Tryz.prog 9 [callsV l] (fun x => ∃ b : Bool, x = .bool b ∧ (b = true → ∀ c ∈ l, LightL c.l 4 40)) := by
  have ff : ∃ y, Wk .ff y ∧ y.pureB = true ∧ ∃ b : Bool, y = .bool b ∧ (b = true → ∀ c ∈ l, LightL c.l 4 40) := ⟨_, Wk.ff, rfl, false, rfl, fun h => by cases h⟩
  refine pure_wk (pure_fn 60 Tryz.func9 rfl rfl rfl fun B => ?_)
  refine ⟨fun g => go 60 ?_, fun g => go 60 ?_⟩
  · exact ⟨trivial, rfl, rfl, rfl, ff⟩
  have hlen : l.length ≤ 40 := by have := not_lt_of g; simp at this; omega
  show Goes _ _ _ _
  refine goes_iter (ι := Nat) (fun i => i ≤ l.length ∧ ∀ c ∈ l.take i, LightL c.l 4 40) (fun i => l.length - i) (fun i => [(3, .int .i64 i), (0, callsV l)]) (fun _ => []) 0 60 (fun _ => rfl) (fun _ => rfl) ⟨⟨Nat.zero_le _, by simp⟩, ⟨⟨rfl, rfl⟩, ⟨rfl, rfl⟩, trivial⟩, trivial⟩ ?_
  rintro i ⟨k1, k2⟩ next
  refine ⟨fun hlt => go 60 ?_, fun hge => go 60 ?_⟩
  · have hi : i < l.length := by simpa using hlt
    have hx : (l.map callV)[i]? = some (callV l[i]) := by simp [hi]
    refine ⟨Int.natCast_nonneg i, _, hx, ?_⟩
    show CallThen _ _ _ _ _ _
    refine call_pure (w_few20 l[i].l) rfl ?_
    rintro z ⟨b, rfl, hb⟩
    refine ⟨fun g => go 60 ?_, fun g => go 60 ?_⟩
    · exact ⟨trivial, rfl, rfl, rfl, ff⟩
    have hb := hb (by simpa using g)
    refine ⟨by constructor <;> omega, ?_⟩
    show Goes _ _ _ _
    refine next (i + 1) _ _ ⟨⟨hi, fun c hc => ?_⟩, by omega, ⟨⟨rfl, rfl⟩, ⟨rfl, rfl⟩, trivial⟩, trivial⟩
    rw [List.take_succ_eq_append_getElem hi] at hc
    rcases List.mem_append.1 hc with hc | hc
    · exact k2 c hc
    · rw [List.mem_singleton.1 hc]
      exact hb
  · have hi : i = l.length := by have : l.length ≤ i := by simpa using hge
                                 omega
    rw [hi, List.take_length] at k2
    exact ⟨trivial, rfl, rfl, rfl, _, Wk.tt, rfl, true, rfl, fun _ => k2⟩
end Bow
/- W115: the law WindowCloses. -/
namespace Bow
open Go Go.Proofs
theorem u8_range {rv : Int} (h : (Lit.int .u8 rv).wf = true) : 0 ≤ rv ∧ rv ≤ 255:=by
 unfold Lit.wf at h
 rw [Bool.and_eq_true,decide_eq_true_eq,decide_eq_true_eq] at h
 have e : IntKind.u8.min = 0:=rfl
 have e2 : IntKind.u8.max = 255:=rfl
 omega
theorem at20 {rv : Int} (h : 0 ≤ rv ∧ rv ≤ 255) {n : Nat} (hn : 0 < n) (hn2 : n ≤ 100) : ∃ i0 : Nat,i0 < n ∧ 100 + (IntKind.i64.wrap rv).tmod (100 + (n : Int) - 1 - 100 + 1) = 100 + (i0 : Int):=by
 refine ⟨(rv % n).toNat,?_,?_⟩
 ·have:=Int.emod_lt_of_pos rv (b:=(n : Int)) (by omega)
  have:=Int.emod_nonneg rv (b:=(n : Int)) (by omega)
  omega
 ·have e1 : IntKind.i64.wrap rv = rv:=by rw [IntKind.wrap_i64];omega
  have e2 : 100 + (n : Int) - 1 - 100 + 1 = n:=by omega
  rw [e1,e2,Int.tmod_eq_emod_of_nonneg h.1]
  have:=Int.emod_nonneg rv (b:=(n : Int)) (by omega)
  omega
set_option maxRecDepth 100000 in
theorem w_wNewBad (low : Int) (t : Tree) (h1 : 0 ≤ low ∧ low ≤ 2305843009213693952) (hr : rightT t = false) (hw : t.weight ≤ 1000000) :
  Pure Tryz.prog 12 [.int .i64 low,nodeV t] (fun x => x = .tup [.nilp,.int .i64 60]):=by
 have c1:=w_RightT t hw
 refine pure_fn 60 Tryz.func12 rfl rfl rfl fun B => ?_
 refine ⟨fun q => absurd (lt_of q) (by omega),fun _ => go 60 ?_⟩
 refine ⟨fun q => absurd (lt_of q) (by omega),fun _ => go 60 ?_⟩
 show CallThen _ _ _ _ _ _
 refine call_pure c1 rfl ?_
 rintro z rfl
 refine ⟨fun _ => go 60 ?_,fun q => absurd q (by rw [hr];decide)⟩
 exact ⟨trivial,rfl,rfl,rfl,rfl⟩
theorem w_addWin (g : Nat) (l : List Rv) (k : Nat) (h : WinI l k) (hk : k ≤ 20) (o : List OpT) (hL : LightL o 4 40) (hok : OkL o) :
  Fun Tryz.prog 13 (winT 100 g l) [.ptr (.loc 0) 0,opsV o] (fun x T' => ∃ (e : Int) (g' : Nat) (l' : List Rv),x = .int .i64 e ∧ T' = winT 100 g' l' ∧ WinI l' (k + 1) ∧ l.length ≤ l'.length ∧ (e = 0 → ∃ r,l' = l ++ [r])):=by
 obtain ⟨z,hz,hm,hl⟩:=h.last
 have hw:=h.weight z hm
 have hne : 0 < l.length:=List.length_pos_iff.2 h.ne
 have hlen:=h.len
 have hc : costs o ≤ 4 * 162:=costs_le hL.len (light_most hL)
 have h4:=hL.len
 refine Fun.mono (w_wAdd 100 g l o ⟨hne,by omega⟩ (by omega) hok (by rw [hl];omega)) fun x T' hq => ?_
 obtain ⟨rfl,⟨e,rfl⟩ | ⟨e,rfl⟩⟩:=hq
 ·refine ⟨_,bump g,l ++ [⟨(AllR (lastT l) o).1,bareL o⟩],rfl,rfl,h.add (i:=(AllR (lastT l) o).2.1) hL hok (by rw [← e]),by simp,fun _ => ⟨_,rfl⟩⟩
 ·exact ⟨_,g,l,rfl,rfl,h.mono,Nat.le_refl _,fun q => absurd q e⟩
theorem apart_at (t : Tree) : V.apart [7] (.tup [nodeV t,.int .i64 0]) = true:=by
 simp only [V.apart,V.apartL,apart_node (ss:=[7]) ⟨rfl,rfl⟩ t,Bool.and_self]
theorem apart_tree (t : Tree) : V.apart [7] (nodeV t) = true:=apart_node (ss:=[7]) ⟨rfl,rfl⟩ t
theorem apart_since (l : List (List OpT)) : V.apart [7] (.tup [listsV l,.int .i64 0]) = true:=by
 simp only [V.apart,V.apartL,apart_lists (ss:=[7]) ⟨rfl,rfl⟩ rfl l,Bool.and_self]
theorem apart_bring (o : List OpT) (e : Int) : V.apart [7] (.tup [opsV o,.int .i64 e]) = true:=by
 simp only [V.apart,V.apartL,apart_ops (ss:=[7]) ⟨rfl,rfl⟩ rfl o,Bool.and_self]
theorem at_j {l : List Rv} {k j : Nat} (h : WinI l k) (hk : k ≤ 9) (hj : j < l.length) : Pure Tryz.prog 16 [.iptr (winC 100 l) 0,.int .i64 (100 + (j : Int))] (fun x => x = .tup [nodeV (l.getD j ⟨zeroT0,[]⟩).tree,.int .i64 0]):=by
 have hlen:=h.len
 have:=h.weight _ (getD_mem hj)
 exact w_wAt 100 l (by decide) ⟨by omega,by omega⟩ _ j rfl hj (by omega)
theorem bring_j {l : List Rv} {k j : Nat} (h : WinI l k) (hk : k ≤ 9) (hj : j < l.length) (o : List OpT) (hn : o.length ≤ 100) (hc : AtMost 162 o) (ho : OkL o) :
  Pure Tryz.prog 20 [.iptr (winC 100 l) 0,.int .i64 (100 + (j : Int)),opsV o] (fun x => x = .tup [opsV (bringR l j o).1,.int .i64 (bringR l j o).2]):=by
 have hlen:=h.len
 have:=h.weight _ (getD_mem hj)
 have hcost : costs o ≤ 100 * 162:=costs_le hn hc
 exact w_wBring 100 l (by decide) ⟨by omega,by omega⟩ _ j rfl hj h.made1000 o (by omega) ho (by omega)
theorem apply_t {t : Tree} (hw : t.weight ≤ 10000) (o : List OpT) (hn : o.length ≤ 100) (hc : AtMost 162 o) (ho : OkL o) : Pure Tryz.prog 18 [nodeV t,opsV o] (fun x => x = AllV (AllR t o)):=by
 have hcost : costs o ≤ 100 * 162:=costs_le hn hc
 exact w_refApplyAll t o (by omega) (by omega) fun z hz => (ho z hz).1
theorem tree_last {l : List Rv} {k : Nat} (h : WinI l k) (hk : k ≤ 9) : Pure Tryz.prog 21 [.iptr (winC 100 l) 0] (fun x => x = nodeV (lastT l)):=by
 obtain ⟨z,hz,hm,hl⟩:=h.last
 have hlen:=h.len
 have:=h.weight z hm
 exact w_wTree 100 l (by decide) ⟨List.length_pos_iff.2 h.ne,by omega⟩ (by rw [hl];omega)
theorem step20 {l : List Rv} {k i : Nat} (h : WinI l k) (hk : k ≤ 9) (hi : i + 1 < l.length) : ∃ (A B : Tree) (M : List OpT) (rest : List (List OpT)) (n : Nat),
  Pure Tryz.prog 16 [.iptr (winC 100 l) 0,.int .i64 (100 + (i : Int))] (fun x => x = .tup [nodeV A,.int .i64 0]) ∧
  Pure Tryz.prog 16 [.iptr (winC 100 l) 0,.int .i64 (100 + (i : Int) + 1)] (fun x => x = .tup [nodeV B,.int .i64 0]) ∧
  Pure Tryz.prog 17 [.iptr (winC 100 l) 0,.int .i64 (100 + (i : Int))] (fun x => x = .tup [listsV (M :: rest),.int .i64 0]) ∧
  Pure Tryz.prog 18 [nodeV A,opsV M] (fun x => x = AllV (B,n,0)) ∧
  Pure Tryz.prog 19 [nodeV B,nodeV B] (fun x => x = .bool true):=by
 have hlen:=h.len
 have w1:=h.weight _ (getD_mem (l:=l) (i:=i) (by omega))
 have w2:=h.weight _ (getD_mem hi)
 have m2:=h.made _ (getD_mem hi)
 obtain ⟨e1,e2⟩:=win_rev h hi
 have c1:=at_j h hk (show i < l.length by omega)
 have c2:=at_j h hk hi
 have c3:=w_wSince 100 l (by decide) ⟨by omega,by omega⟩ (100 + (i : Int)) i rfl (by omega) h.made1000
 rw [rows_cons hi] at c3
 have c4:=apply_t (t:=(l.getD i ⟨zeroT0,[]⟩).tree) (by omega) (bareL (l.getD (i + 1) ⟨zeroT0,[]⟩).made) (by rw [bareL_len];omega) m2.2.2.bare (bareL_okL m2.1)
 have c5:=w_refSameT (l.getD (i + 1) ⟨zeroT0,[]⟩).tree (l.getD (i + 1) ⟨zeroT0,[]⟩).tree (by omega)
 rw [sameT_refl] at c5
 refine ⟨_,_,_,_,(AllR (l.getD i ⟨zeroT0,[]⟩).tree (bareL (l.getD (i + 1) ⟨zeroT0,[]⟩).made)).2.1,c1,?_,c3,?_,c5⟩
 ·rw [show (100 : Int) + (i : Int) + 1 = 100 + ((i + 1 : Nat) : Int) by omega]
  exact c2
 ·exact Pure.mono c4 fun x hx => hx.trans (congrArg AllV (Prod.ext e2 (Prod.ext rfl e1)))
theorem late20 {l : List Rv} {k j : Nat} (h : WinI l k) (hk : k ≤ 8) (hj : j < l.length) {o : List OpT} (hL : LightL o 4 40) (hok : OkL o) : ∃ (base newest : Tree) (a : Tree × Nat × Int) (x : List OpT) (e : Int),
  Pure Tryz.prog 16 [.iptr (winC 100 l) 0,.int .i64 (100 + (j : Int))] (fun x => x = .tup [nodeV base,.int .i64 0]) ∧
  Pure Tryz.prog 18 [nodeV base,opsV o] (fun x => x = AllV a) ∧
  Pure Tryz.prog 20 [.iptr (winC 100 l) 0,.int .i64 (100 + (j : Int)),opsV o] (fun v => v = .tup [opsV x,.int .i64 e]) ∧
  Pure Tryz.prog 21 [.iptr (winC 100 l) 0] (fun x => x = nodeV newest) ∧
  (a.2.2 ≠ 0 → e = a.2.2) ∧
  (a.2.2 = 0 → e = 3 ∨ (e = 0 ∧ (∃ (T : Tree) (n : Nat),Pure Tryz.prog 18 [nodeV newest,opsV x] (fun x => x = AllV (T,n,0))) ∧
   ∀ r,WinI (l ++ [r]) (k + 1) → ∃ (y : List OpT) (e' : Int),
    Pure Tryz.prog 20 [.iptr (winC 100 (l ++ [r])) 0,.int .i64 (100 + (j : Int)),opsV o] (fun v => v = .tup [opsV y,.int .i64 e']) ∧
    Pure Tryz.prog 20 [.iptr (winC 100 (l ++ [r])) 0,.int .i64 (100 + (l.length : Int) - 1),opsV x] (fun v => v = .tup [opsV y,.int .i64 e']) ∧
    Pure Tryz.prog 22 [opsV y,opsV y] (fun v => v = .bool true) ∧ (e' = 0 ∨ e' = 3))):=by
 have hlen:=h.len
 have w1:=h.weight _ (getD_mem hj)
 have h4:=hL.len
 obtain ⟨z,hz,hm,hl⟩:=h.last
 have w2:=h.weight z hm
 have ca:=at_j h (by omega) hj
 have cp:=apply_t (t:=(l.getD j ⟨zeroT0,[]⟩).tree) (by omega) o (by omega) (light_most hL) hok
 have cb:=bring_j h (by omega) hj o (by omega) (light_most hL) hok
 have ct:=tree_last h (by omega)
 refine ⟨_,_,_,_,_,ca,cp,cb,ct,fun q => ?_,fun q => ?_⟩
 ·rw [bring_bad q]
 ·rcases win_bring h hj q with e | ⟨e,ex⟩
  ·exact .inl e
  ·obtain ⟨b1,b2,b3⟩:=bring_ok (j:=j) h (by omega) hok hL
   refine .inr ⟨e,⟨(AllR (lastT l) (bringR l j o).1).1,(AllR (lastT l) (bringR l j o).1).2.1,?_⟩,fun r hr => ?_⟩
   ·exact Pure.mono (apply_t (t:=lastT l) (by rw [hl];omega) _ b3 b2 b1) fun x hx => hx.trans (congrArg AllV (Prod.ext rfl (Prod.ext rfl ex)))
   ·have hlen' : (l ++ [r]).length = l.length + 1:=by simp
    have c1:=bring_j hr (by omega) (show j < (l ++ [r]).length by omega) o (by omega) (light_most hL) hok
    have c2:=bring_j hr (by omega) (show l.length - 1 < (l ++ [r]).length by omega) _ b3 b2 b1
    rw [bring_more h hj q e ex,show (100 : Int) + ((l.length - 1 : Nat) : Int) = 100 + (l.length : Int) - 1 by omega] at c2
    obtain ⟨y1,y2,y3⟩:=bring_ok (j:=j) hr (by omega) hok hL
    have c3:=w_ref13Same (bringR (l ++ [r]) j o).1 (bringR (l ++ [r]) j o).1 (by omega) (fun z hz => (y1 z hz).1.lt) (fun z hz => (y1 z hz).1.lt)
    rw [sameL_refl] at c3
    refine ⟨_,_,c1,c2,c3,?_⟩
    have g : (l ++ [r]).getD j ⟨zeroT0,[]⟩ = l.getD j ⟨zeroT0,[]⟩:=by rw [List.getD_eq_getElem?_getD,List.getD_eq_getElem?_getD,List.getElem?_append_left hj]
    rcases win_bring hr (show j < (l ++ [r]).length by omega) (by rw [g];exact q) with e | ⟨e,_⟩
    ·exact .inr e
    ·exact .inl e
end Bow
/- W116: the law WindowCloses, walked. -/
namespace Bow
open Go Go.Proofs
set_option maxHeartbeats 4000000 in
set_option maxRecDepth 100000 in
theorem w_WindowCloses (t : Tree) (cs : List CallT) (rv : Int) (more : List OpT) (_l1 : cs.length ≤ maxLen) (l2 : (Lit.int .u8 rv).wf) (_l3 : more.length ≤ maxLen) :
  Pure Tryz.prog 3 [nodeV t,callsV cs,.int .u8 rv,opsV more] (fun x => x = .bool true):=by
 have hw:=w_works20
 have hrv:=u8_range l2
 refine pure_wk (pure_fn 60 Tryz.func3 rfl rfl rfl fun B => ?_)
 show CallThen _ _ _ _ _ _
 refine call_pure (w_Weight t 200 (by decide)) rfl ?_
 rintro z ⟨w,rfl,w1,w2,w3⟩
 refine ⟨fun _ => go 60 ?_,fun ga => go 60 ?_⟩
 ·show CallThen _ _ _ _ _ _
  refine call_pure hw rfl ?_
  rintro z rfl
  exact ⟨trivial,rfl,rfl,rfl,leaf_b rfl⟩
 have ga : (w : Int) ≤ 200:=not_lt_of ga
 have ht : t.weight ≤ 200:=by have:=w3 (by omega);omega
 show CallThen _ _ _ _ _ _
 refine call_pure (w_light20 cs) rfl ?_
 rintro z ⟨b1,rfl,hcs⟩
 refine ⟨fun _ => go 60 ?_,fun g1 => go 60 ?_⟩
 ·show CallThen _ _ _ _ _ _
  refine call_pure hw rfl ?_
  rintro z rfl
  exact ⟨trivial,rfl,rfl,rfl,leaf_b rfl⟩
 have hcs:=hcs (by simpa using g1)
 refine ⟨fun _ => go 60 ?_,fun g2 => go 60 ?_⟩
 ·show CallThen _ _ _ _ _ _
  refine call_pure hw rfl ?_
  rintro z rfl
  exact ⟨trivial,rfl,rfl,rfl,leaf_b rfl⟩
 have g2 : cs.length ≤ 8:=by have:=not_lt_of g2;simp only [List.length_map] at this;omega
 show CallThen _ _ _ _ _ _
 refine call_pure (w_few20 more) rfl ?_
 rintro z ⟨b2,rfl,hm⟩
 refine ⟨fun _ => go 60 ?_,fun g3 => go 60 ?_⟩
 ·show CallThen _ _ _ _ _ _
  refine call_pure hw rfl ?_
  rintro z rfl
  exact ⟨trivial,rfl,rfl,rfl,leaf_b rfl⟩
 have hm:=hm (by simpa using g3)
 rcases (Bool.eq_false_or_eq_true (rightT t)).symm with hr | hr
 ·show CallThen _ _ _ _ _ _
  refine call_pure (w_wNewBad 100 t (by decide) hr (by omega)) rfl ?_
  rintro z rfl
  refine ⟨fun _ => go 60 ?_,fun q => absurd q (by decide)⟩
  show Goes _ _ _ _
  refine goes_nileqP 60 rfl rfl rfl rfl rfl ?_
  show CallThen _ _ _ _ _ _
  refine call_pure hw rfl ?_
  rintro z rfl
  exact ⟨trivial,rfl,rfl,rfl,leaf_b rfl⟩
 have hI:=win_new hr ht
 show CallThen _ _ _ _ _ _
 refine call_sub [] (w_wNew 100 t (by decide) hr (by omega)) rfl rfl trivial rfl rfl rfl ?_
 rintro x T1 ⟨rfl,rfl⟩
 refine ⟨rfl,?_⟩
 refine ⟨fun q => absurd rfl (ne_of' q),fun _ => ?_⟩
 refine goes_wkvec 2 [rvV ⟨t,[]⟩] rfl ⟨⟨wk_rv (t:=t) (m:=[]) rfl (Wk.nil 11),okE_rv ⟨t,[]⟩⟩,trivial⟩ ?_
 refine go 60 ?_
 show Goes _ _ _ _
 refine goes_iter (ι:=Nat × Nat × List Rv) (fun i => i.1 ≤ cs.length ∧ WinI i.2.2 i.1) (fun i => cs.length - i.1) (fun i => [(11,.int .i64 i.1),(9,.ptr (.loc 3) 0),(3,opsV more),(2,.int .u8 rv),(1,callsV cs)])
  (fun i => [some (.box (nodeV t).cells),some (.box (nodeV t).cells),some (.vec i.2.1 7 (i.2.2.map rvV)),some (.box [.int .i64 100,.osl (.loc 2) i.2.1 0 (i.2.2.map rvV).length])]) (0,0,[⟨t,[]⟩]) 60 (fun _ => rfl) (fun _ => rfl)
  ⟨⟨Nat.zero_le _,hI⟩,⟨⟨rfl,rfl⟩,⟨rfl,rfl⟩,⟨rfl,rfl⟩,⟨rfl,rfl⟩,⟨rfl,rfl⟩,trivial⟩,⟨⟨rfl,rfl⟩,⟨rfl,rfl⟩,⟨rfl,rfl⟩,⟨rfl,rfl⟩,trivial⟩⟩ ?_
 rintro ⟨j,g,l⟩ ⟨k1,k2⟩ next
 refine ⟨fun hlt => go 60 ?_,fun hge => go 60 ?_⟩
 ·have hj : j < cs.length:=by simpa using hlt
  have hx : (cs.map callV)[j]? = some (callV cs[j]):=by simp [hj]
  have hL:=hcs _ (List.getElem_mem hj)
  refine ⟨Int.natCast_nonneg j,_,hx,?_⟩
  show CallThen _ _ _ _ _ _
  refine call_sub [3,2] (w_addWin g l j k2 (by omega) cs[j].l hL (lightL_ok ⟨hL.len,fun o ho => ⟨lt_mono (hL.ops o ho).1 (by decide),Nat.le_trans (hL.ops o ho).2 (by decide)⟩⟩)) rfl rfl ⟨⟨rfl,rfl⟩,⟨rfl,rfl⟩,trivial⟩ rfl rfl rfl ?_
  rintro x T1 ⟨e,g',l',rfl,rfl,h1,_,_⟩
  refine ⟨rfl,?_⟩
  refine ⟨by constructor <;> omega,?_⟩
  show Goes _ _ _ _
  exact next (j + 1,g',l') _ _ ⟨⟨hj,h1⟩,by simp only;omega,⟨⟨rfl,rfl⟩,⟨rfl,rfl⟩,⟨rfl,rfl⟩,⟨rfl,rfl⟩,⟨rfl,rfl⟩,trivial⟩,⟨⟨rfl,rfl⟩,⟨rfl,rfl⟩,⟨rfl,rfl⟩,⟨rfl,rfl⟩,trivial⟩⟩
 have k2 : WinI l j:=k2
 have k1 : j ≤ cs.length:=k1
 have hne : 0 < l.length:=List.length_pos_iff.2 k2.ne
 have hlen : l.length ≤ j + 1:=k2.len
 have r1:=w_wRev 100 l (by decide) ⟨hne,by omega⟩
 have r2:=w_wLow 100 l
 show CallThen _ _ _ _ _ _
 refine call_lendT 7 r2 ⟨lt_win (kv:=2) (g:=g) rfl rfl,trivial⟩ rfl (by rintro _ rfl;rfl) ?_
 rintro z rfl
 show CallThen _ _ _ _ _ _
 refine call_lendT 7 r1 ⟨lt_win (kv:=2) (g:=g) rfl rfl,trivial⟩ rfl (by rintro _ rfl;rfl) ?_
 rintro z rfl
 show CallThen _ _ _ _ _ _
 refine call_lendT 7 r2 ⟨lt_win (kv:=2) (g:=g) rfl rfl,trivial⟩ rfl (by rintro _ rfl;rfl) ?_
 rintro z rfl
 refine Exists.elim (at20 hrv hne (by omega)) fun i0 hi => ?_
 have hi0:=hi.1
 have eAt:=hi.2
 refine ⟨by constructor <;> omega,by constructor <;> omega,by omega,by rw [eAt];constructor <;> omega,?_⟩
 show CallThen _ _ _ _ _ _
 refine call_lendT 7 r2 ⟨lt_win (kv:=2) (g:=g) rfl rfl,trivial⟩ rfl (by rintro _ rfl;rfl) ?_
 rintro z rfl
 show Goes _ _ _ _
 refine goes_iter (ι:=Nat) (fun i => i + 1 ≤ l.length) (fun i => l.length - i) (fun i => [(13,.int .i64 (100 + (i : Int))),(12,.int .i64 (100 + (i0 : Int))),(9,.ptr (.loc 3) 0),(3,opsV more),(1,callsV cs)])
  (fun _ => [some (.box (nodeV t).cells),some (.box (nodeV t).cells),some (.vec g 7 (l.map rvV)),some (.box [.int .i64 100,.osl (.loc 2) g 0 (l.map rvV).length])]) 0 60 (fun _ => rfl) (fun _ => rfl)
  ⟨hne,⟨⟨rfl,rfl⟩,⟨congrArg (V.int .i64) eAt,rfl⟩,⟨rfl,rfl⟩,⟨rfl,rfl⟩,⟨rfl,rfl⟩,trivial⟩,⟨⟨rfl,rfl⟩,⟨rfl,rfl⟩,⟨rfl,rfl⟩,⟨rfl,rfl⟩,trivial⟩⟩ ?_
 rintro i hi1 next
 show CallThen _ _ _ _ _ _
 refine call_lendT 7 r1 ⟨lt_win (kv:=2) (g:=g) rfl rfl,trivial⟩ rfl (by rintro _ rfl;rfl) ?_
 rintro z rfl
 refine ⟨fun hlt => go 60 ?_,fun hge => go 60 ?_⟩
 ·have hi2 : i + 1 < l.length:=by have:=lt_of hlt;omega
  refine Exists.elim (step20 k2 (by omega) hi2) fun A h => Exists.elim h fun Bt h => Exists.elim h fun M h => Exists.elim h fun rest h => Exists.elim h fun n h => ?_
  have c1:=h.1
  have c2:=h.2.1
  have c3:=h.2.2.1
  have c4:=h.2.2.2.1
  have c5:=h.2.2.2.2
  show CallThen _ _ _ _ _ _
  refine call_lendT 7 c1 ⟨lt_win (kv:=2) (g:=g) rfl rfl,.wk rfl (.refl _) rfl,trivial⟩ rfl (by rintro _ rfl;exact apart_at A) ?_
  rintro z rfl
  refine ⟨by constructor <;> omega,?_⟩
  show CallThen _ _ _ _ _ _
  refine call_lendT 7 c2 ⟨lt_win (kv:=2) (g:=g) rfl rfl,.wk rfl (.refl _) rfl,trivial⟩ rfl (by rintro _ rfl;exact apart_at Bt) ?_
  rintro z rfl
  show CallThen _ _ _ _ _ _
  refine call_lendT 7 c3 ⟨lt_win (kv:=2) (g:=g) rfl rfl,.wk rfl (.refl _) rfl,trivial⟩ rfl (by rintro _ rfl;exact apart_since (M :: rest)) ?_
  rintro z rfl
  refine ⟨fun q => absurd rfl (ne_of' q),fun _ => go 60 ?_⟩
  refine ⟨fun q => absurd rfl (ne_of' q),fun _ => go 60 ?_⟩
  refine ⟨fun q => absurd rfl (ne_of' q),fun _ => go 60 ?_⟩
  refine ⟨fun q => absurd (of_decide_eq_true q) (by simp;omega),fun _ => go 60 ?_⟩
  show Goes _ _ _ _
  refine goes_draw 60 ?_
  refine ⟨Int.le_refl _,opsV M,rfl,_,c4,rfl,?_⟩
  refine ⟨by kernel_rfl,?_⟩
  refine ⟨by kernel_rfl,?_⟩
  refine ⟨fun q => absurd rfl (ne_of' q),fun _ => go 60 ?_⟩
  show CallThen _ _ _ _ _ _
  refine call_pure c5 rfl ?_
  rintro z rfl
  refine ⟨fun q => absurd q (by decide),fun _ => go 60 ?_⟩
  refine ⟨by constructor <;> omega,?_⟩
  show Goes _ _ _ _
  exact next (i + 1) _ _ ⟨hi2,by omega,⟨⟨congrArg (V.int .i64) (show (100 : Int) + (i : Int) + 1 = 100 + ((i + 1 : Nat) : Int) by omega),rfl⟩,⟨rfl,rfl⟩,⟨rfl,rfl⟩,⟨rfl,rfl⟩,⟨rfl,rfl⟩,trivial⟩,⟨⟨rfl,rfl⟩,⟨rfl,rfl⟩,⟨rfl,rfl⟩,⟨rfl,rfl⟩,trivial⟩⟩
 have hok : OkL more:=lightL_ok ⟨hm.len,fun o ho => ⟨lt_mono (hm.ops o ho).1 (by decide),Nat.le_trans (hm.ops o ho).2 (by decide)⟩⟩
 refine Exists.elim (late20 k2 (by omega) hi0 hm hok) fun base h => Exists.elim h fun newest h => Exists.elim h fun a h => Exists.elim h fun x h => Exists.elim h fun e h => ?_
 have c1:=h.1
 have c2:=h.2.1
 have c3:=h.2.2.1
 have c4:=h.2.2.2.1
 have p1:=h.2.2.2.2.1
 have p2:=h.2.2.2.2.2
 show CallThen _ _ _ _ _ _
 refine call_lendT 7 c1 ⟨lt_win (kv:=2) (g:=g) rfl rfl,.wk rfl (.refl _) rfl,trivial⟩ rfl (by rintro _ rfl;exact apart_at base) ?_
 rintro z rfl
 show CallThen _ _ _ _ _ _
 refine call_pure c2 rfl ?_
 rintro z rfl
 show CallThen _ _ _ _ _ _
 refine call_lendT 7 c3 ⟨lt_win (kv:=2) (g:=g) rfl rfl,.wk rfl (.refl _) rfl,.wk rfl (.refl _) (apart_ops (ss:=[]) ⟨rfl,rfl⟩ rfl more),trivial⟩ rfl (by rintro _ rfl;exact apart_bring x e) ?_
 rintro z rfl
 refine (Classical.em (a.2.2 = 0)).elim (fun q => ?_) (fun q => ?_)
 rotate_left
 ·have ee:=p1 q
  refine ⟨fun _ => go 60 ?_,fun q2 => absurd (eq_of' q2) q⟩
  refine ⟨fun q2 => absurd (of_decide_eq_true q2) q,fun _ => go 60 ?_⟩
  refine ⟨fun _ => go 60 ?_,fun q2 => absurd ee (of_decide_eq_false q2)⟩
  show CallThen _ _ _ _ _ _
  refine call_pure hw rfl ?_
  rintro z rfl
  exact ⟨trivial,rfl,rfl,rfl,leaf_b rfl⟩
 refine ⟨fun q2 => absurd q (ne_of' q2),fun _ => go 60 ?_⟩
 refine (p2 q).elim (fun ee => ?_) (fun h => ?_)
 ·refine ⟨fun _ => go 60 ?_,fun q2 => absurd ee (of_decide_eq_false q2)⟩
  refine ⟨fun _ => go 60 ?_,fun q2 => absurd q (of_decide_eq_false q2)⟩
  show CallThen _ _ _ _ _ _
  refine call_pure hw rfl ?_
  rintro z rfl
  exact ⟨trivial,rfl,rfl,rfl,leaf_b rfl⟩
 have ee:=h.1
 have pT:=h.2.1
 have pM:=h.2.2
 have e3 : e ≠ 3:=by omega
 refine ⟨fun q2 => absurd (of_decide_eq_true q2) e3,fun _ => go 60 ?_⟩
 refine Exists.elim pT fun T h => Exists.elim h fun n c5 => ?_
 show CallThen _ _ _ _ _ _
 refine call_lendT 7 c4 ⟨lt_win (kv:=2) (g:=g) rfl rfl,trivial⟩ rfl (by rintro _ rfl;exact apart_tree newest) ?_
 rintro z rfl
 show CallThen _ _ _ _ _ _
 refine call_pure c5 rfl ?_
 rintro z rfl
 refine ⟨fun q2 => absurd ee (ne_of' q2),fun _ => go 60 ?_⟩
 refine ⟨fun q2 => absurd rfl (ne_of' q2),fun _ => go 60 ?_⟩
 show CallThen _ _ _ _ _ _
 refine call_lendT 7 r1 ⟨lt_win (kv:=2) (g:=g) rfl rfl,trivial⟩ rfl (by rintro _ rfl;rfl) ?_
 rintro z rfl
 refine ⟨fun _ => go 60 ?_,fun q2 => go 60 ?_⟩
 ·show CallThen _ _ _ _ _ _
  refine call_pure hw rfl ?_
  rintro z rfl
  exact ⟨trivial,rfl,rfl,rfl,leaf_b rfl⟩
 have hc0 : 0 < cs.length:=by
  have:=of_decide_eq_false q2
  simp only [List.length_map] at this
  omega
 have hx : (cs.map callV)[0]? = some (callV cs[0]):=by simp [hc0]
 have hL:=hcs _ (List.getElem_mem hc0)
 refine ⟨Int.le_refl _,_,hx,?_⟩
 show CallThen _ _ _ _ _ _
 refine call_sub [3,2] (w_addWin g l j k2 (by omega) cs[0].l hL (lightL_ok ⟨hL.len,fun o ho => ⟨lt_mono (hL.ops o ho).1 (by decide),Nat.le_trans (hL.ops o ho).2 (by decide)⟩⟩)) rfl rfl ⟨⟨rfl,rfl⟩,⟨rfl,rfl⟩,trivial⟩ rfl rfl rfl ?_
 rintro x1 T1 ⟨e2,g',l',rfl,rfl,h1,_,h3⟩
 refine ⟨rfl,?_⟩
 refine ⟨fun _ => go 60 ?_,fun q2 => go 60 ?_⟩
 ·show CallThen _ _ _ _ _ _
  refine call_pure hw rfl ?_
  rintro z rfl
  exact ⟨trivial,rfl,rfl,rfl,leaf_b rfl⟩
 refine Exists.elim (h3 (eq_of' q2)) fun r hl' => ?_
 have h1 : WinI (l ++ [r]) (j + 1):=hl' ▸ h1
 refine Exists.elim (pM r h1) fun y h => Exists.elim h fun e' h => ?_
 have b1:=h.1
 have b2:=h.2.1
 have b3:=h.2.2.1
 have b4:=h.2.2.2
 rw [← hl'] at b1 b2
 show CallThen _ _ _ _ _ _
 refine call_lendT 7 b1 ⟨lt_win (kv:=2) (g:=g') rfl rfl,.wk rfl (.refl _) rfl,.wk rfl (.refl _) (apart_ops (ss:=[]) ⟨rfl,rfl⟩ rfl more),trivial⟩ rfl (by rintro _ rfl;exact apart_bring y e') ?_
 rintro z rfl
 show CallThen _ _ _ _ _ _
 refine call_lendT 7 b2 ⟨lt_win (kv:=2) (g:=g') rfl rfl,.wk rfl (.refl _) rfl,.wk rfl (.refl _) (apart_ops (ss:=[]) ⟨rfl,rfl⟩ rfl x),trivial⟩ rfl (by rintro _ rfl;exact apart_bring y e') ?_
 rintro z rfl
 refine b4.elim (fun ee => ?_) (fun ee => ?_)
 ·refine ⟨fun q2 => absurd ee (ne_of' q2),fun _ => go 60 ?_⟩
  refine ⟨fun q2 => absurd ee (ne_of' q2),fun _ => go 60 ?_⟩
  show CallThen _ _ _ _ _ _
  refine call_pure b3 rfl ?_
  rintro z rfl
  refine ⟨fun _ => go 60 ?_,fun q2 => absurd q2 (by decide)⟩
  refine ⟨fun _ => go 60 ?_,fun q2 => absurd ee (of_decide_eq_false q2)⟩
  show CallThen _ _ _ _ _ _
  refine call_pure hw rfl ?_
  rintro z rfl
  exact ⟨trivial,rfl,rfl,rfl,leaf_b rfl⟩
 ·have e0 : e' ≠ 0:=by omega
  refine ⟨fun _ => go 60 ?_,fun q2 => absurd (eq_of' q2) e0⟩
  refine ⟨fun q2 => absurd (of_decide_eq_true q2) e0,fun _ => go 60 ?_⟩
  refine ⟨fun _ => go 60 ?_,fun q2 => absurd ee (of_decide_eq_false q2)⟩
  show CallThen _ _ _ _ _ _
  refine call_pure hw rfl ?_
  rintro z rfl
  exact ⟨trivial,rfl,rfl,rfl,leaf_b rfl⟩
end Bow
/- TD1: what is read as data at the program's types. -/
namespace Bow
open Go Go.Proofs
theorem take1 {vs : List V} {c : V} (h : vs.take 1 = [c]) : ∃ r,vs = c :: r ∧ vs.drop 1 = r:=by
 cases vs with
 | nil => simp at h
 | cons x r => simp at h;subst h;exact ⟨r,rfl,rfl⟩
theorem map_exists {α β : Type} {f : α → V} {g : β → V} : ∀ {xs : List α},(∀ x ∈ xs,∃ y,f x = g y) → ∃ ys : List β,xs.map f = ys.map g
 | [],_ => ⟨[],rfl⟩
 | x :: xs,h => by
  obtain ⟨y,hy⟩:=h x List.mem_cons_self
  obtain ⟨ys,hys⟩:=map_exists (xs:=xs) fun z hz => h z (List.mem_cons_of_mem _ hz)
  exact ⟨y :: ys,by simp [hy,hys]⟩
theorem vt_str {n : Nat} {vs : List V} (h : VT Tryz.prog n 9 vs) : ∃ s,vs = [.str s]:=by
 cases n with
 | zero => exact h.elim
 | succ n =>
  obtain ⟨s,e,_⟩ : ∃ s : List UInt8,vs = [.str s] ∧ s.length ≤ maxLen:=h
  exact ⟨s,e⟩
theorem vt_bool {n : Nat} {vs : List V} (h : VT Tryz.prog n 4 vs) : ∃ b,vs = [.bool b]:=by
 cases n with
 | zero => exact h.elim
 | succ n => exact h
theorem vt_int {n : Nat} {vs : List V} (h : VT Tryz.prog n 3 vs) : ∃ i,vs = [.int .i64 i] ∧ (Lit.int .i64 i).wf = true:=by
 cases n with
 | zero => exact h.elim
 | succ n => exact h
theorem vt_u64 {n : Nat} {vs : List V} (h : VT Tryz.prog n 22 vs) : ∃ i,vs = [.int .u64 i]:=by
 cases n with
 | zero => exact h.elim
 | succ n =>
  obtain ⟨s,e,_⟩ : ∃ s : Int,vs = [.int .u64 s] ∧ (Lit.int .u64 s).wf = true:=h
  exact ⟨s,e⟩
theorem vt_u8 {n : Nat} {vs : List V} (h : VT Tryz.prog n 5 vs) : ∃ i,vs = [.int .u8 i]:=by
 cases n with
 | zero => exact h.elim
 | succ n =>
  obtain ⟨s,e,_⟩ : ∃ s : Int,vs = [.int .u8 s] ∧ (Lit.int .u8 s).wf = true:=h
  exact ⟨s,e⟩
set_option maxRecDepth 100000 in
theorem vt_attr {n : Nat} {vs : List V} (h : VT Tryz.prog n 93 vs) : ∃ a,vs = (attrV a).cells:=by
 cases n with
 | zero => exact h.elim
 | succ n =>
  obtain ⟨h0,h1,h2⟩ : VT Tryz.prog n 9 (vs.take 1) ∧ VT Tryz.prog n 9 ((vs.drop 1).take 1) ∧ (vs.drop 1).drop 1 = []:=h
  obtain ⟨a,e0⟩:=vt_str h0
  obtain ⟨b,e1⟩:=vt_str h1
  obtain ⟨r,rfl,d0⟩:=take1 e0
  rw [d0] at e1 h2
  obtain ⟨r1,rfl,d1⟩:=take1 e1
  rw [d1] at h2
  subst h2
  exact ⟨(a,b),rfl⟩
set_option maxRecDepth 100000 in
theorem vt_attrs {n : Nat} {vs : List V} (h : VT Tryz.prog n 23 vs) : ∃ l : List (List UInt8 × List UInt8),vs = [.sl 2 (l.map attrV)]:=by
 cases n with
 | zero => exact h.elim
 | succ n =>
  obtain ⟨xs,e,_,hx⟩ : ∃ xs : List (List V),vs = [.sl 2 (xs.map (mkX Tryz.prog 93))] ∧ xs.length ≤ maxLen ∧ ∀ x ∈ xs,VT Tryz.prog n 93 x:=h
  obtain ⟨l,hl⟩:=map_exists (f:=mkX Tryz.prog 93) (g:=attrV) (xs:=xs) fun x hm => by
   obtain ⟨a,rfl⟩:=vt_attr (hx x hm)
   exact ⟨a,rfl⟩
  exact ⟨l,by rw [e,hl]⟩
set_option maxRecDepth 100000 in
theorem vt_node : ∀ (n : Nat) (vs : List V),VT Tryz.prog n 26 vs → ∃ t : Tree,vs = (nodeV t).cells:=by
 intro n
 induction n using Nat.strongRecOn with
 | _ n ih =>
  intro vs h
  cases n with
  | zero => exact h.elim
  | succ n =>
   obtain ⟨h0,h1,h2,h3,h4,h5,h6⟩ : VT Tryz.prog n 22 (vs.take 1) ∧ VT Tryz.prog n 4 ((vs.drop 1).take 1) ∧ VT Tryz.prog n 9 (((vs.drop 1).drop 1).take 1) ∧ VT Tryz.prog n 23 ((((vs.drop 1).drop 1).drop 1).take 1) ∧
    VT Tryz.prog n 9 (((((vs.drop 1).drop 1).drop 1).drop 1).take 1) ∧ VT Tryz.prog n 24 ((((((vs.drop 1).drop 1).drop 1).drop 1).drop 1).take 1) ∧ (((((vs.drop 1).drop 1).drop 1).drop 1).drop 1).drop 1 = []:=h
   obtain ⟨i,e0⟩:=vt_u64 h0
   obtain ⟨l,e1⟩:=vt_bool h1
   obtain ⟨s,e2⟩:=vt_str h2
   obtain ⟨a,e3⟩:=vt_attrs h3
   obtain ⟨x,e4⟩:=vt_str h4
   obtain ⟨r,rfl,d0⟩:=take1 e0
   rw [d0] at e1 e2 e3 e4 h5 h6
   obtain ⟨r,rfl,d0⟩:=take1 e1
   rw [d0] at e2 e3 e4 h5 h6
   obtain ⟨r,rfl,d0⟩:=take1 e2
   rw [d0] at e3 e4 h5 h6
   obtain ⟨r,rfl,d0⟩:=take1 e3
   rw [d0] at e4 h5 h6
   obtain ⟨r,rfl,d0⟩:=take1 e4
   rw [d0] at h5 h6
   cases n with
   | zero => exact h5.elim
   | succ n =>
    obtain ⟨xs,e5,_,hx⟩ : ∃ xs : List (List V),r.take 1 = [.sl 6 (xs.map (mkX Tryz.prog 26))] ∧ xs.length ≤ maxLen ∧ ∀ x ∈ xs,VT Tryz.prog n 26 x:=h5
    obtain ⟨ts,hts⟩:=map_exists (f:=mkX Tryz.prog 26) (g:=nodeV) (xs:=xs) fun x hm => by
     obtain ⟨t,rfl⟩:=ih n (by omega) x (hx x hm)
     exact ⟨t,rfl⟩
    obtain ⟨r,rfl,d0⟩:=take1 e5
    rw [d0] at h6
    subst h6
    refine ⟨.mk i l s a x ts,?_⟩
    rw [hts]
    simp only [nodeV,Tree.id,Tree.leaf,Tree.label,Tree.attrs,Tree.text,subV_eq,Tree.subs,V.cells]
theorem rep_of_cells {w : World} {vs : List V} {cs : Array Value} (h : RowRep w β0 [] vs cs.toList) : Rep w β0 [] (.agg vs) (.agg cs) :=
 .agg vs cs (by simpa using h.1) fun j c v hj hv => h.2 j c v hj (by simpa using hv)
set_option maxRecDepth 100000 in
theorem node_arg {H : Type} {enc : TypeId × Value → H} {w : World} {r : Reach} {base b0 : Nat} {sp : Nat → Bool} {held : Bool} {v : Value} {d : DataW H} {p : List MemPlace} (ho : Value.okWide Tryz.prog w r b0 26 v) (h : DataW.Trod enc Tryz.prog w base sp held 26 v d p) :
  ∃ t : Tree,Rep w β0 [] (nodeV t) v:=by
 obtain ⟨fuel,hf⟩:=h
 obtain ⟨cs,rfl,_,_⟩ : ∃ cs,v = .agg cs ∧ cs.size = Tryz.prog.cellsOf 26 ∧ Row.okWide Tryz.prog w r b0 26 cs:=ho
 obtain ⟨vs,h1,_,h3⟩:=read_data (G:=[26,24,23,93,9,22,4]) (by kernel_rfl) fuel _ _ _ (by kernel_rfl) hf
 obtain ⟨t,rfl⟩:=vt_node _ _ h3
 exact ⟨t,rep_of_cells h1⟩
end Bow
/- TD2: operations that are read as data. -/
namespace Bow
open Go Go.Proofs
set_option maxRecDepth 100000 in
theorem vt_path {n : Nat} {vs : List V} (h : VT Tryz.prog n 86 vs) : ∃ l : List Int,vs = [pathV l] ∧ l.length ≤ maxLen ∧ ∀ i ∈ l,(Lit.int .i64 i).wf = true:=by
 cases n with
 | zero => exact h.elim
 | succ n =>
  obtain ⟨xs,e,hl,hx⟩ : ∃ xs : List (List V),vs = [.sl 1 (xs.map (mkX Tryz.prog 3))] ∧ xs.length ≤ maxLen ∧ ∀ x ∈ xs,VT Tryz.prog n 3 x:=h
  have key : ∀ xs : List (List V),(∀ x ∈ xs,VT Tryz.prog n 3 x) → ∃ l : List Int,xs.map (mkX Tryz.prog 3) = l.map intV ∧ ∀ i ∈ l,(Lit.int .i64 i).wf = true:=by
   intro xs
   induction xs with
   | nil => intro _;exact ⟨[],rfl,by simp⟩
   | cons x xs ih =>
    intro hx
    obtain ⟨i,rfl,hw⟩:=vt_int (hx x List.mem_cons_self)
    obtain ⟨l,e,hl⟩:=ih fun z hz => hx z (List.mem_cons_of_mem _ hz)
    refine ⟨i :: l,by simp only [List.map_cons,e];rfl,fun j hj => ?_⟩
    rcases List.mem_cons.1 hj with rfl | hj
    ·exact hw
    ·exact hl j hj
  obtain ⟨l,e1,e2⟩:=key xs hx
  refine ⟨l,by rw [e,e1];rfl,?_,e2⟩
  have:=congrArg List.length e1
  simp at this
  omega
set_option maxRecDepth 100000 in
theorem vt_piece {n : Nat} {vs : List V} (h : VT Tryz.prog n 91 vs) : ∃ p,vs = (pieceV p).cells:=by
 cases n with
 | zero => exact h.elim
 | succ n =>
  obtain ⟨h0,h1,h2,h3⟩ : VT Tryz.prog n 3 (vs.take 1) ∧ VT Tryz.prog n 3 ((vs.drop 1).take 1) ∧ VT Tryz.prog n 9 (((vs.drop 1).drop 1).take 1) ∧ ((vs.drop 1).drop 1).drop 1 = []:=h
  obtain ⟨a,e0,_⟩:=vt_int h0
  obtain ⟨b,e1,_⟩:=vt_int h1
  obtain ⟨s,e2⟩:=vt_str h2
  obtain ⟨r,rfl,d0⟩:=take1 e0
  rw [d0] at e1 e2 h3
  obtain ⟨r1,rfl,d1⟩:=take1 e1
  rw [d1] at e2 h3
  obtain ⟨r2,rfl,d2⟩:=take1 e2
  rw [d2] at h3
  subst h3
  exact ⟨⟨a,b,s⟩,rfl⟩
set_option maxRecDepth 100000 in
theorem vt_pieces {n : Nat} {vs : List V} (h : VT Tryz.prog n 87 vs) : ∃ l : List PieceT,vs = [piecesV l]:=by
 cases n with
 | zero => exact h.elim
 | succ n =>
  obtain ⟨xs,e,_,hx⟩ : ∃ xs : List (List V),vs = [.sl 3 (xs.map (mkX Tryz.prog 91))] ∧ xs.length ≤ maxLen ∧ ∀ x ∈ xs,VT Tryz.prog n 91 x:=h
  obtain ⟨l,hl⟩:=map_exists (f:=mkX Tryz.prog 91) (g:=pieceV) (xs:=xs) fun x hm => by
   obtain ⟨a,rfl⟩:=vt_piece (hx x hm)
   exact ⟨a,rfl⟩
  exact ⟨l,by rw [e,hl];rfl⟩
set_option maxRecDepth 100000 in
theorem vt_op {n : Nat} {vs : List V} (h : VT Tryz.prog n 89 vs) : ∃ o,vs = (opV o).cells:=by
 cases n with
 | zero => exact h.elim
 | succ n =>
  obtain ⟨h0,h⟩ : VT Tryz.prog n 5 (vs.take 1) ∧ _:=h
  obtain ⟨a0,e0⟩:=vt_u8 h0
  obtain ⟨r,rfl,d0⟩:=take1 e0
  obtain ⟨h1,h⟩ : VT Tryz.prog n 86 (r.take 1) ∧ _:=h
  obtain ⟨a1,e1,_⟩:=vt_path h1
  obtain ⟨r,rfl,d0⟩:=take1 e1
  obtain ⟨h2,h⟩ : VT Tryz.prog n 3 (r.take 1) ∧ _:=h
  obtain ⟨a2,e2,_⟩:=vt_int h2
  obtain ⟨r,rfl,d0⟩:=take1 e2
  obtain ⟨h3,h⟩ : VT Tryz.prog n 86 (r.take 1) ∧ _:=h
  obtain ⟨a3,e3,_⟩:=vt_path h3
  obtain ⟨r,rfl,d0⟩:=take1 e3
  obtain ⟨h4,h⟩ : VT Tryz.prog n 22 (r.take 1) ∧ _:=h
  obtain ⟨a4,e4⟩:=vt_u64 h4
  obtain ⟨r,rfl,d0⟩:=take1 e4
  obtain ⟨h5,h⟩ : VT Tryz.prog n 4 (r.take 1) ∧ _:=h
  obtain ⟨a5,e5⟩:=vt_bool h5
  obtain ⟨r,rfl,d0⟩:=take1 e5
  obtain ⟨h6,h⟩ : VT Tryz.prog n 9 (r.take 1) ∧ _:=h
  obtain ⟨a6,e6⟩:=vt_str h6
  obtain ⟨r,rfl,d0⟩:=take1 e6
  obtain ⟨h7,h⟩ : VT Tryz.prog n 9 (r.take 1) ∧ _:=h
  obtain ⟨a7,e7⟩:=vt_str h7
  obtain ⟨r,rfl,d0⟩:=take1 e7
  obtain ⟨h8,h⟩ : VT Tryz.prog n 9 (r.take 1) ∧ _:=h
  obtain ⟨a8,e8⟩:=vt_str h8
  obtain ⟨r,rfl,d0⟩:=take1 e8
  obtain ⟨h9,h⟩ : VT Tryz.prog n 4 (r.take 1) ∧ _:=h
  obtain ⟨a9,e9⟩:=vt_bool h9
  obtain ⟨r,rfl,d0⟩:=take1 e9
  obtain ⟨h10,h⟩ : VT Tryz.prog n 87 (r.take 1) ∧ _:=h
  obtain ⟨a10,e10⟩:=vt_pieces h10
  obtain ⟨r,rfl,d0⟩:=take1 e10
  have h : r = []:=h
  subst h
  exact ⟨⟨a0,a1,a2,a3,a4,a5,a6,a7,a8,a9,a10⟩,rfl⟩
set_option maxRecDepth 100000 in
theorem vt_ops {n : Nat} {vs : List V} (h : VT Tryz.prog n 28 vs) : ∃ l : List OpT,vs = [.sl 11 (l.map opV)] ∧ l.length ≤ maxLen:=by
 cases n with
 | zero => exact h.elim
 | succ n =>
  obtain ⟨xs,e,hl,hx⟩ : ∃ xs : List (List V),vs = [.sl 11 (xs.map (mkX Tryz.prog 89))] ∧ xs.length ≤ maxLen ∧ ∀ x ∈ xs,VT Tryz.prog n 89 x:=h
  obtain ⟨l,e1⟩:=map_exists (f:=mkX Tryz.prog 89) (g:=opV) (xs:=xs) fun x hm => by
   obtain ⟨a,rfl⟩:=vt_op (hx x hm)
   exact ⟨a,rfl⟩
  refine ⟨l,by rw [e,e1],?_⟩
  have:=congrArg List.length e1
  simp at this
  omega
set_option maxRecDepth 100000 in
theorem ops_arg {H : Type} {enc : TypeId × Value → H} {w : World} {r : Reach} {base b0 : Nat} {sp : Nat → Bool} {held : Bool} {v : Value} {d : DataW H} {p : List MemPlace} (ho : Value.okWide Tryz.prog w r b0 28 v) (h : DataW.Trod enc Tryz.prog w base sp held 28 v d p) :
  ∃ l : List OpT,Rep w β0 [] (.sl 11 (l.map opV)) v ∧ l.length ≤ maxLen:=by
 obtain ⟨a,len,cap,rfl⟩:=WideShapes.okWide_slice Tryz.underlying28 ho
 obtain ⟨fuel,hf⟩:=h
 obtain ⟨vs,h1,_,h3⟩:=read_data (G:=[28,89,86,87,91,3,9,22,5,4]) (by kernel_rfl) fuel _ _ _ (by kernel_rfl) hf
 obtain ⟨l,rfl,hl⟩:=vt_ops h3
 exact ⟨l,h1.2 0 _ _ rfl rfl,hl⟩
end Bow
/- TD4: a window's script that is read as data. -/
namespace Bow
open Go Go.Proofs
theorem vt_i64 {n : Nat} {vs : List V} (h : VT Tryz.prog n 2 vs) : ∃ i,vs = [.int .i64 i]:=by
 cases n with
 | zero => exact h.elim
 | succ n =>
  obtain ⟨s,e,_⟩ : ∃ s : Int,vs = [.int .i64 s] ∧ (Lit.int .i64 s).wf = true:=h
  exact ⟨s,e⟩
set_option maxRecDepth 100000 in
theorem vt_call {n : Nat} {vs : List V} (h : VT Tryz.prog n 39 vs) : ∃ c,vs = (callV c).cells:=by
 cases n with
 | zero => exact h.elim
 | succ n =>
  obtain ⟨h0,h1,h2,h3⟩ : VT Tryz.prog n 5 (vs.take 1) ∧ VT Tryz.prog n 2 ((vs.drop 1).take 1) ∧ VT Tryz.prog n 28 (((vs.drop 1).drop 1).take 1) ∧ ((vs.drop 1).drop 1).drop 1 = []:=h
  obtain ⟨a,e0⟩:=vt_u8 h0
  obtain ⟨b,e1⟩:=vt_i64 h1
  obtain ⟨s,e2,_⟩:=vt_ops h2
  obtain ⟨r,rfl,d0⟩:=take1 e0
  rw [d0] at e1 e2 h3
  obtain ⟨r1,rfl,d1⟩:=take1 e1
  rw [d1] at e2 h3
  obtain ⟨r2,rfl,d2⟩:=take1 e2
  rw [d2] at h3
  subst h3
  exact ⟨⟨a,b,s⟩,rfl⟩
set_option maxRecDepth 100000 in
theorem vt_calls {n : Nat} {vs : List V} (h : VT Tryz.prog n 27 vs) : ∃ l : List CallT,vs = [callsV l] ∧ l.length ≤ maxLen:=by
 cases n with
 | zero => exact h.elim
 | succ n =>
  obtain ⟨xs,e,hl,hx⟩ : ∃ xs : List (List V),vs = [.sl 3 (xs.map (mkX Tryz.prog 39))] ∧ xs.length ≤ maxLen ∧ ∀ x ∈ xs,VT Tryz.prog n 39 x:=h
  obtain ⟨l,e1⟩:=map_exists (f:=mkX Tryz.prog 39) (g:=callV) (xs:=xs) fun x hm => by
   obtain ⟨a,rfl⟩:=vt_call (hx x hm)
   exact ⟨a,rfl⟩
  refine ⟨l,by rw [e,e1];rfl,?_⟩
  have:=congrArg List.length e1
  simp at this
  omega
set_option maxRecDepth 100000 in
theorem calls_arg {H : Type} {enc : TypeId × Value → H} {w : World} {r : Reach} {base b0 : Nat} {sp : Nat → Bool} {held : Bool} {v : Value} {d : DataW H} {p : List MemPlace} (ho : Value.okWide Tryz.prog w r b0 27 v) (h : DataW.Trod enc Tryz.prog w base sp held 27 v d p) :
  ∃ l : List CallT,Rep w β0 [] (callsV l) v ∧ l.length ≤ maxLen:=by
 obtain ⟨a,len,cap,rfl⟩:=WideShapes.okWide_slice Tryz.underlying27 ho
 obtain ⟨fuel,hf⟩:=h
 obtain ⟨vs,h1,_,h3⟩:=read_data (G:=[27,39,28,89,86,87,91,3,2,9,22,5,4]) (by kernel_rfl) fuel _ _ _ (by kernel_rfl) hf
 obtain ⟨l,rfl,hl⟩:=vt_calls h3
 exact ⟨l,h1.2 0 _ _ rfl rfl,hl⟩
end Bow
