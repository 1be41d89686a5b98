/- The library, part 5: W24, W25, W26, SP9, W27, W30a, W31, W32, W33, W34, WB2, W35, W36, W37, W38, SP15, SP16, W39, SP17, W43a, W49, W50, W51, W52, W53, SP23, SP29, W54, W55, W56, W57, W58, W59, SP20, SP38. -/
import Derived.Test.YtbffliejmnokpaaGreatMd
import Derived.BigCall
import Derived.Test.YtbffliejmnokpaaGreatMc
import Derived.Lib.Bytealg
/- W24: leaftext.Apply, by the kit's own tactics. -/
namespace Bow
open Go Go.Proofs Go.RowKit
theorem pieces_flat (l : List PieceT) : ∀ x ∈ l.map pieceV,flatL x.cells = true:=by
 intro x hx
 obtain ⟨p,_,rfl⟩:=List.mem_map.1 hx
 rfl
theorem c_right (l : List PieceT) (hl : l.length ≤ 1000000) (hpl : ∀ p ∈ l,p.put.length ≤ 1000000000) (v : Value) (w : World) (h : Rep w β0 [] (piecesV l) v) :
  Calls Tryz.prog 117 #[v] w fun e w' => e = .returned (.bool (rightP l)) ∧ Below w.heap.size w w':=by
 refine calls_of_pureQ (β:=β0) (H:=[]) (w_Right l hl hpl) (fun x u w' β' H' hx hu => ?_) rfl rfl ?_
 ·subst hx
  exact rep_bool (m:=[]) hu
 ·intro j x u hj hu
  cases j with
  | zero => simp at hj hu;subst hj hu;exact h
  | succ j => simp at hj
theorem c_extent (l : List PieceT) (hl : l.length ≤ 4096) (hok : ∀ p ∈ l,p.Ok) (v : Value) (w : World) (h : Rep w β0 [] (piecesV l) v) :
  Calls Tryz.prog 158 #[v] w fun e w' => e = .returned (.int .i64 (extentP l)) ∧ Below w.heap.size w w':=by
 refine calls_of_pureQ (β:=β0) (H:=[]) (w_extent l hl hok) (fun x u w' β' H' hx hu => ?_) rfl rfl ?_
 ·subst hx
  exact rep_int (m:=[]) hu
 ·intro j x u hj hu
  cases j with
  | zero => simp at hj hu;subst hj hu;exact h
  | succ j => simp at hj
theorem rep_below {w w' : World} {x : V} {v : Value} (h : Rep w β0 [] x v) (hb : Below w.heap.size w w') : Rep w' β0 [] x v:=h.mono (Fr.of_below hb)
theorem ba_of (x : ByteArray) (y : List UInt8) (h : x.data.toList = y) : x = ⟨y.toArray⟩:=by
 obtain ⟨⟨l⟩⟩:=x
 subst h
 rfl
theorem hidU {p : Prop} (h : p) : Hid p:=h
set_option maxHeartbeats 4000000 in
set_option maxRecDepth 1000000 in
theorem edit_walk (S : ByteArray) (l : List PieceT) (ht : S.size ≤ 1000000000) (hl : l.length ≤ 1000000) (hpl : ∀ p ∈ l,p.put.length ≤ 1000000000) (ao : Option Addr) (cap : Nat) (w : World) (hrep : Rep w β0 [] (piecesV l) (.slice ao l.length cap)) :
  Calls Tryz.prog 121 #[.string S,.slice ao l.length cap] w fun e w' => e = .returned (.tuple #[.string ⟨(applyE S.data.toList l).1.toArray⟩,.int .i64 (applyE S.data.toList l).2]) ∧ Below w.heap.size w w':=by
 go_enter Tryz.func121,Tryz.ntmps121
 have cR:=c_right l hl hpl _ w hrep
 go_wp2_with (go_at_call 117;refine cR.mono ?_)
 rintro e w1 ⟨rfl,hb1⟩
 clear cR
 cases hr : rightP l with
 | false =>
  go_wp2
  go_ret2
  refine ⟨?_,hb1⟩
  unfold applyE
  rw [hr]
  rfl
 | true =>
  obtain ⟨r1,r2,r3⟩:=rightP_ok hr
  have cE:=c_extent l r1 r2 _ w1 (rep_below hrep hb1)
  go_wp2_with (go_at_call 158;refine cE.mono ?_)
  rintro e w2 ⟨rfl,hb2⟩
  clear cE
  have hb12 : Below w.heap.size w w2:=hb1.trans (hb2.mono hb1.size)
  by_cases hx : (S.size : Int) < extentP l
  ·go_wp2
   go_ret2
   refine ⟨?_,hb12⟩
   unfold applyE
   rw [hr,decide_eq_true (by simpa using hx)]
   rfl
  ·go_wp2
   go_loopw [0,21] (fun text i wr => ∃ (k : Nat) (T acc : List UInt8),k ≤ l.length ∧ text = .string ⟨T.toArray⟩ ∧ i = .int .i64 k ∧ Lib.IsBuilderF 175 5 w2.heap.size w2.heap.size (Lib.byteCells acc) wr ∧ Below w2.heap.size w2 wr ∧ acc ++ editP T (l.drop k) = editP S.data.toList l ∧ extentP (l.drop k) ≤ T.length ∧ acc.length + T.length + putsLen (l.drop k) ≤ S.data.toList.length + putsLen l) (fun _ i _ => l.length - (intOf i).toNat)
   case atStart =>
    refine ⟨0,S.data.toList,[],Nat.zero_le _,rfl,rfl,Lib.IsBuilderF.of (Lib.fresh_isBuilder _ _ w2),(Below.refl _ _).alloc (Nat.le_refl _) _,rfl,?_,?_⟩
    ·simpa using hx
    ·simp
   case round =>
    obtain ⟨k,T,acc,hk,rfl,rfl,hI,hbw,hacc,hext,hsz⟩:=hrel
    by_cases hlt : k < l.length
    ·obtain ⟨a,cap',hv,hcap,hmax,hc⟩:=sl_cells (rep_below (rep_below hrep hb12) hbw)
     obtain ⟨e1,e2,e3⟩ : ao = a ∧ l.length = (l.map pieceV).length ∧ cap = cap':=by injection hv with e1 e2 e3;exact ⟨e1,e2,e3⟩
     obtain ⟨ad,rfl,hblk,hc⟩:=hc (by intro h;simp at h;subst h;simp at hlt)
     subst e1
     have hg : (l.map pieceV)[k]? = some (pieceV l[k]):=by simp [hlt]
     obtain ⟨u0,h0,q0⟩:=hc k _ 0 _ hg rfl
     obtain ⟨u1,h1,q1⟩:=hc k _ 1 _ hg rfl
     obtain ⟨u2,h2,q2⟩:=hc k _ 2 _ hg rfl
     cases rep_int (m:=[]) q0
     cases rep_int (m:=[]) q1
     obtain ⟨q2,hput⟩:=rep_str (m:=[]) q2
     subst q2
     rw [← add_add'] at h1 h2
     have h0 : wr.cell? (ad.add (k * 3)) = some (.int .i64 l[k].keep):=h0
     have h1 : wr.cell? ⟨(ad.add (k * 3)).block,(ad.add (k * 3)).off + 1,none⟩ = some (.int .i64 l[k].drop):=h1
     have h2 : wr.cell? ⟨(ad.add (k * 3)).block,(ad.add (k * 3)).off + 2,none⟩ = some (.string ⟨l[k].put.toArray⟩):=h2
     clear q0 q1 hc hg hcap hmax hv e2 e3
     have hd : l.drop k = l[k] :: l.drop (k + 1):=drop_cons hlt
     have hok:=r2 l[k] (List.getElem_mem hlt)
     have k0:=hok.k0;have k1:=hok.k1;have d0:=hok.d0;have d1:=hok.d1
     have hen : 0 ≤ extentP (l.drop (k + 1)):=extentP_nonneg fun q hq => r2 q (List.mem_of_mem_drop hq)
     rw [hd,extentP_cons] at hext
     have hpt : putsLen (l[k] :: l.drop (k + 1)) = l[k].put.length + putsLen (l.drop (k + 1)):=rfl
     rw [hd,hpt] at hsz
     rw [hd] at hacc
     have hacc:=hidU hacc
     have hN:=hidU hsz
     clear hsz
     obtain ⟨p,hp⟩ : ∃ p,l[k] = p:=⟨_,rfl⟩
     simp only [hp] at *
     have hsT : (⟨T.toArray⟩ : ByteArray).size = T.length:=by simp [ByteArray.size]
     have hI1:=Lib.IsBuilderF.alloc hI (.cells #[.int .i64 p.keep,.int .i64 p.drop,.string ⟨p.put.toArray⟩] 91)
     have hw1 : Below w2.heap.size w2 (wr.alloc (.cells #[.int .i64 p.keep,.int .i64 p.drop,.string ⟨p.put.toArray⟩] 91)):=hbw.alloc hbw.size _
     have hbl : w2.heap.size < wr.heap.size:=by
      have : ∀ q,Lib.BuilderAtF 175 5 w2.heap.size w2.heap.size q (Lib.byteCells acc) wr → w2.heap.size < wr.heap.size:=by
       rintro q ⟨_,v,hbk,_⟩
       exact (Array.getElem?_eq_some_iff.1 hbk).1
      rcases hI with h | h
      ·exact this _ h
      ·exact this _ h
     have hbox : (wr.alloc (.cells #[.int .i64 p.keep,.int .i64 p.drop,.string ⟨p.put.toArray⟩] 91)).heap[wr.heap.size]? = some (.cells #[.int .i64 p.keep,.int .i64 p.drop,.string ⟨p.put.toArray⟩] 91 (0,0)):=heap_alloc_new wr _
     have hne : ∀ (c : Array Value) (fz : Nat × Nat),(Obj.cells #[.int .i64 p.keep,.int .i64 p.drop,.string ⟨p.put.toArray⟩] 91 (0,0)) ≠ Obj.cells c 5 fz:=fun c fz h => by
      injection h with h1 h2 h3
      exact absurd h2 (by decide)
     have hne:=hidU hne
     have hI1:=hidU hI1
     have hN2:=hN.out
     have hx1 : (ByteArray.extract ⟨T.toArray⟩ 0 p.keep.toNat).data.toList = T.take p.keep.toNat:=by rw [Lib.extract_data];simp
     have hx1s : (ByteArray.extract ⟨T.toArray⟩ 0 p.keep.toNat).size = p.keep.toNat:=by
      rw [Lib.size_eq,hx1,List.length_take]
      omega
     have hsz' : S.data.toList.length + putsLen l ≤ 1000000000 + 1048576:=by rw [← Lib.size_eq];omega
     have hsz'' : acc.length + (T.length + (p.put.length + putsLen (l.drop (k + 1)))) ≤ 1000000000 + 1048576:=by omega
     have hsz'':=hidU hsz''
     clear hN2 hsz'
     go_wp2_with fail
     refine (b_WriteString w2.heap.size w2.heap.size _ _ _ hI1.out (by rw [Lib.byteCells_length,hx1s];have:=hsz''.out;omega) (Nat.le_trans (Nat.le_of_lt hbl) (by simp))).mono ?_
     rintro e W1 ⟨rfl,hA1,b1,q1⟩
     have hbox1:=q1 _ _ hbox (by simp;omega) hne.out
     have c2 : W1.cell? ⟨wr.heap.size,2,none⟩ = some (.string ⟨p.put.toArray⟩):=by rw [Lib.cell_of_heap hbox1];rfl
     have hsz1 : w2.heap.size ≤ W1.heap.size:=Nat.le_trans hw1.size b1.size
     have hA1 : Lib.IsBuilderF 175 5 w2.heap.size w2.heap.size _ W1:=.inr hA1
     have hA1:=hidU hA1
     have hbox1:=hidU hbox1
     have hq : Below w2.heap.size w2 W1:=hw1.trans b1
     clear b1 q1 hw1 hbox
     go_wp2_with fail
     refine (b_WriteString w2.heap.size w2.heap.size _ _ _ hA1.out (by rw [List.length_append,Lib.byteCells_length,Lib.strCells_eq,Lib.byteCells_length,hx1,List.length_take,Lib.size_eq];have:=hsz''.out;simp only [];omega) hsz1).mono ?_
     rintro e W2 ⟨rfl,hA2,b2,q2⟩
     have hbox2:=q2 _ _ hbox1.out (by simp;omega) hne.out
     have c3 : W2.cell? ⟨wr.heap.size,0,none⟩ = some (.int .i64 p.keep):=by rw [Lib.cell_of_heap hbox2];rfl
     have c4 : W2.cell? ⟨wr.heap.size,1,none⟩ = some (.int .i64 p.drop):=by rw [Lib.cell_of_heap hbox2];rfl
     have hA2 : Lib.IsBuilderF 175 5 w2.heap.size w2.heap.size _ W2:=.inr hA2
     have hA2:=hidU hA2
     have hq2 : Below w2.heap.size w2 W2:=hq.trans b2
     clear b2 q2 hbox2 c2
     go_wp2_with fail
     refine ⟨⟨k + 1,T.drop (p.keep + p.drop).toNat,acc ++ T.take p.keep.toNat ++ p.put,hlt,?_,rfl,?_,hq2,?_,?_,?_⟩,?_⟩
     ·congr 1
      refine ba_of _ _ ?_
      rw [Lib.extract_data]
      exact List.take_of_length_le (by simp)
     ·have:=hA2.out
      rw [Lib.strCells_eq,Lib.strCells_eq,hx1,← Lib.byteCells_append,← Lib.byteCells_append] at this
      exact this
     ·rw [← hacc.out]
      show _ = acc ++ editP T (p :: l.drop (k + 1))
      rw [editP]
      simp only [List.append_assoc]
     ·rw [List.length_drop]
      omega
     ·have:=hN.out
      simp only [List.length_append,List.length_take,List.length_drop]
      omega
     ·show l.length - (k + 1 : Int).toNat < l.length - (k : Int).toNat
      omega
    ·have hke : k = l.length:=by omega
     have hd : l.drop k = []:=List.drop_eq_nil_of_le (by omega)
     rw [hd] at hacc hsz hext
     have hacc : acc ++ T = editP S.data.toList l:=hacc
     have hsz : acc.length + T.length + 0 ≤ S.data.toList.length + putsLen l:=hsz
     have hS : S.data.toList.length ≤ 1000000000:=by rw [← Lib.size_eq];omega
     have hI:=hidU hI
     have hacc:=hidU hacc
     have hN : Hid (acc.length + T.length ≤ 1000000000 + 1048576):=hidU (by omega)
     clear hsz hext hS
     go_wp2_with fail
     refine (b_WriteString w2.heap.size w2.heap.size _ _ _ hI.out (by rw [Lib.byteCells_length,Lib.size_eq];have:=hN.out;simp only [];omega) hbw.size).mono ?_
     rintro e W1 ⟨rfl,hA1,b1,q1⟩
     have hq : Below w2.heap.size w2 W1:=hbw.trans b1
     have hA1 : Lib.IsBuilderF 175 5 w2.heap.size w2.heap.size _ W1:=.inr hA1
     rw [Lib.strCells_eq,← Lib.byteCells_append] at hA1
     have hA1:=hidU hA1
     clear b1 q1
     go_wp2_with fail
     refine (b_String w2.heap.size w2.heap.size _ _ hA1.out hq.size).mono ?_
     rintro e W2 ⟨rfl,_,b2,_⟩
     have hq2 : Below w2.heap.size w2 W2:=hq.trans b2
     clear b2
     go_wp2
     go_ret2
     refine ⟨?_,hb12.trans (hq2.mono hb12.size)⟩
     have : applyE S.data.toList l = (editP S.data.toList l,0):=by
      unfold applyE
      rw [hr,decide_eq_false (by rw [← Lib.size_eq];simpa using hx)]
      rfl
     rw [this,← hacc.out]
     rfl
theorem editP_length : ∀ (t : List UInt8) (l : List PieceT),(∀ p ∈ l,p.Ok) → (editP t l).length ≤ t.length + putsLen l
 | t,[],_ => Nat.le_refl _
 | t,p :: l,h => by
  have ih:=editP_length (t.drop (p.keep + p.drop).toNat) l fun q hq => h q (List.mem_cons_of_mem _ hq)
  have hp:=h p List.mem_cons_self
  have:=hp.k0
  have:=hp.d0
  have e : putsLen (p :: l) = p.put.length + putsLen l:=rfl
  rw [editP,e]
  rw [List.length_drop] at ih
  simp only [List.length_append,List.length_take]
  omega
theorem applyE_len (t : List UInt8) (l : List PieceT) : (applyE t l).1.length ≤ t.length + 1048576:=by
 unfold applyE
 cases hr : rightP l with
 | false => simp
 | true =>
  obtain ⟨r1,r2,r3⟩:=rightP_ok hr
  cases decide ((t.length : Int) < extentP l) with
  | false =>
   have:=editP_length t l r2
   simp only [Bool.not_true,cond_false]
   omega
  | true => simp
theorem w_edit (t : List UInt8) (l : List PieceT) (ht : t.length ≤ 1000000000) (hl : l.length ≤ 1000000) (hpl : ∀ p ∈ l,p.put.length ≤ 1000000000) :
  Pure Tryz.prog 121 [.str t,piecesV l] (fun x => x = strE (applyE t l)):=by
 refine pure_of_calls ?_ rfl fun w β H vals hv hr => ?_
 ·exact ⟨_,Tryz.func121,rfl,rfl⟩
 ·obtain ⟨v0,v1,rfl⟩ : ∃ v0 v1,vals = #[v0,v1]:=by
   obtain ⟨l⟩:=vals
   match l,hv with
   | [v0,v1],_ => exact ⟨v0,v1,rfl⟩
  have h0:=hr 0 _ v0 rfl rfl
  have h1:=hr 1 _ v1 rfl rfl
  obtain ⟨rfl,_⟩:=rep_str (m:=[]) h0
  have h1:=Rep.flat_sl (pieces_flat l) h1
  obtain ⟨a,cap,rfl,_⟩:=sl_cells h1
  have e : (l.map pieceV).length = l.length:=by simp
  rw [e] at h1 ⊢
  refine (edit_walk ⟨t.toArray⟩ l (by simpa [ByteArray.size] using ht) hl hpl a cap w h1).mono ?_
  rintro e w' ⟨rfl,hb⟩
  have hm:=applyE_len t l
  have hS : (⟨t.toArray⟩ : ByteArray).data.toList = t:=rfl
  rw [hS]
  refine ⟨hb,strE (applyE t l),_,rfl,rfl,rfl,.tup _ _ rfl fun j c v hc hv => ?_⟩
  match j,hc,hv with
  | 0,hc,hv =>
   simp at hc hv
   subst hc hv
   exact .str _ (by unfold maxLen;omega)
  | 1,hc,hv =>
   simp at hc hv
   subst hc hv
   exact .int _ _
  | j + 2,hc,hv => simp at hc
end Bow
/- W25: which operations are valid. -/
namespace Bow
open Go Go.Proofs
theorem text_le_weight (t : Tree) : t.text.length < t.weight:=by have:=weight_eq t;omega
set_option maxRecDepth 100000 in
theorem w_valid (t : Tree) (o : OpT) (ht : t.weight ≤ 1000000) (ho : o.Ok) : Pure Tryz.prog 86 [nodeV t,opV o] (fun x => x = .int .i64 (validE t o)):=by
 have hp:=ho.lt.path
 have hto:=ho.lt.to
 have hpc:=ho.lt.pieces
 have hpl:=ho.each
 refine pure_fn 300 Tryz.func86 rfl rfl rfl fun B => ?_
 show CallThen _ _ _ _ _ _
 refine call_pure (w_At t o.path hp) rfl ?_
 rintro x rfl
 cases hat : atT t o.path with
 | none =>
  repeat' first
   | (refine ⟨fun _ => go 300 ?_,fun _ => go 300 ?_⟩)
   | (refine ⟨trivial,rfl,rfl,rfl,?_⟩)
   | fail
  all_goals (show V.int _ _ = _;simp_all [validE];done)
 | some x =>
  have hxw:=atT_weight hat
  have hxt:=text_le_weight x
  repeat' first
   | (refine ⟨fun _ => go 300 ?_,fun _ => go 300 ?_⟩)
   | (show CallThen _ _ _ _ _ _;refine call_pure (w_into x o.at_) rfl ?_;rintro z rfl)
   | (show CallThen _ _ _ _ _ _;refine call_pure (w_pathWithin o.path o.to hp) rfl ?_;rintro z rfl)
   | (show CallThen _ _ _ _ _ _;refine call_pure (w_edit x.text o.pieces (by omega) (by omega) hpl) rfl ?_;rintro z rfl)
   | (show CallThen _ _ _ _ _ _;refine call_pure (w_At t o.to hto) rfl ?_;rintro z rfl;cases hat2 : atT t o.to with
     | none => exact ⟨trivial,rfl,rfl,rfl,(by show V.int _ _ = _;simp_all [validE])⟩
     | some y =>
      show CallThen _ _ _ _ _ _
      refine call_pure (w_into y o.at_) rfl ?_
      rintro z rfl
      exact ⟨trivial,rfl,rfl,rfl,(by show V.int _ _ = _;simp_all [validE])⟩)
   | (refine ⟨trivial,rfl,rfl,rfl,?_⟩)
   | fail
  all_goals (show V.int _ _ = _;simp_all [validE])
end Bow
/- W26: what becomes of a tree. -/
namespace Bow
open Go Go.Proofs
theorem w_apply2 (o : OpT) (y : Tree) : Fun Tryz.prog 128 [some (.box (nodeV y).cells)] [.ptr (.loc 0) 0,.iptr (opV o).cells 0] (fun _ T => T = [some (.box (nodeV (relabelT o.label y)).cells)]):=by
 refine fun_fn 100 Tryz.func128 rfl rfl rfl fun imps B hi => ?_
 obtain ⟨r,rfl⟩:=List.length_eq_one_iff.1 hi
 refine ⟨trivial,rfl,rfl,?_⟩
 cases y
 rfl
set_option maxRecDepth 100000 in
theorem w_apply3 (o : OpT) (y : Tree) (ho : o.Ok) (hy : y.weight ≤ 1000000) : Fun Tryz.prog 129 [some (.box (nodeV y).cells)] [.ptr (.loc 0) 0,.iptr (opV o).cells 0] (fun _ T => T = [some (.box (nodeV (retextT o.pieces y)).cells)]):=by
 refine fun_fn 100 Tryz.func129 rfl rfl rfl fun imps B hi => ?_
 obtain ⟨r,rfl⟩:=List.length_eq_one_iff.1 hi
 have:=text_le_weight y
 show Goes _ _ _ _
 refine goes_draw 100 ⟨_,w_edit y.text o.pieces (by omega) ho.lt.pieces ho.each,rfl,?_⟩
 refine ⟨by kernel_rfl,?_⟩
 refine ⟨trivial,rfl,rfl,?_⟩
 cases y
 rfl
inductive Does (t : Tree) (o : OpT) : Tree → Prop
 | ins (y) (hk : o.kind = 1) (hy : atT t o.path = some y) (h0 : 0 ≤ o.at_) (h1 : o.at_ ≤ y.subs.length) : Does t o (changeT (insT o.at_ (freshT o)) t o.path)
 | del (x) (hk : o.kind = 2) (hne : o.path ≠ []) (hx : atT t o.path = some x) : Does t o (changeT (delT (lastP o.path)) t o.path.dropLast)
 | mov (x z) (hk : o.kind = 3) (hne : o.path ≠ []) (hx : atT t o.path = some x) (hw : within o.path o.to = false) (hz : atT t o.to = some z) (h0 : 0 ≤ o.at_) (h1 : o.at_ ≤ z.subs.length) : Does t o (moveT x t o)
 | lab (y) (hk : o.kind = 5) (hy : atT t o.path = some y) : Does t o (changeT (relabelT o.label) t o.path)
 | edt (y) (hk : o.kind = 6) (hy : atT t o.path = some y) : Does t o (changeT (retextT o.pieces) t o.path)
theorem wk_fresh (o : OpT) : Wk (.agg [.int .u64 o.id,.bool o.leaf,.str o.label,.nilsl,.str [],.nilsl]) (nodeV (freshT o)) :=
 Wk.agg ⟨.refl _,.refl _,.refl _,Wk.nil 2,.refl _,Wk.nil 6,trivial⟩
set_option maxHeartbeats 1000000 in
set_option maxRecDepth 100000 in
theorem w_apply_k (t : Tree) (o : OpT) (m : Tree) (ht : t.weight ≤ 900000) (ho : o.Ok) (hto : o.kind = 3 → ∀ x ∈ o.to,inI x) (h : Does t o m) : Pure Tryz.prog 87 [nodeV t,opV o] (fun x => x = nodeV m):=by
 have hp:=ho.lt.path
 have hpt:=ho.lt.to
 refine pure_fn 300 Tryz.func87 rfl rfl rfl fun B => ?_
 cases h with
 | ins y hk hy h0 h1 =>
  refine ⟨fun g1 => go 300 ?_,fun g1 => absurd hk (ne_of g1)⟩
  show CallThen _ _ _ _ _ _
  refine call_pure (pure_args (w_insert t (freshT o) y o.path o.at_ hp ht hy h0 h1) ⟨.refl _,.refl _,.refl _,wk_fresh o,trivial⟩ rfl rfl) rfl ?_
  rintro z rfl
  exact ⟨trivial,rfl,rfl,rfl,rfl⟩
 | del x hk hne hx =>
  obtain ⟨y,y1,y2,y3,y4⟩:=at_parent hne hx
  refine ⟨fun g1 => absurd (hk.symm.trans (eq_of g1)) (by decide),fun g1 => go 300 ?_⟩
  refine ⟨fun g1 => go 300 ?_,fun g1 => absurd hk (ne_of g1)⟩
  show CallThen _ _ _ _ _ _
  refine call_pure (w_remove t y o.path hp hne ht y1 y2 y3) rfl ?_
  rintro z rfl
  exact ⟨trivial,rfl,rfl,rfl,by rw [lastP_eq];rfl⟩
 | mov x z hk hne hx hw hz h0 h1 =>
  obtain ⟨y,y1,y2,y3,y4⟩:=at_parent hne hx
  refine ⟨fun g1 => absurd (hk.symm.trans (eq_of g1)) (by decide),fun g1 => go 300 ?_⟩
  refine ⟨fun g1 => absurd (hk.symm.trans (eq_of g1)) (by decide),fun g1 => go 300 ?_⟩
  refine ⟨fun g1 => go 300 ?_,fun g1 => absurd hk (ne_of g1)⟩
  show CallThen _ _ _ _ _ _
  refine call_pure (w_At t o.path hp) rfl ?_
  rintro _ rfl
  rw [hx]
  have hzl:=subs_le_weight z
  have hzw:=atT_weight hz
  show CallThen _ _ _ _ _ _
  refine call_pure (w_landing o.path o.to o.at_ hp hpt hne ⟨by omega,by omega⟩ (hto hk) y2) rfl ?_
  rintro _ rfl
  show Goes _ _ _ _
  have hlast:=lastP_eq hne
  have hw' : within (o.path.dropLast ++ [lastP o.path]) o.to = false:=by rw [← hlast,List.dropLast_concat_getLast];exact hw
  obtain ⟨z',z1,z2,z3⟩:=land_at (by rw [← hlast];exact y2) h0 o.path.dropLast o.to t y z y1 (by rw [← hlast];exact y3) hw' hz h1
  have hmw:=change_weight (del_weight (lastP o.path)) o.path.dropLast t
  have hrem:=w_remove t y o.path hp hne ht y1 y2 y3
  have hins:=w_insert (changeT (delT (lastP o.path)) t o.path.dropLast) x z' (landT o.path.dropLast (lastP o.path) o.to o.at_).1 (landT o.path.dropLast (lastP o.path) o.to o.at_).2 (by rw [land_len];exact hpt) (by omega) z1 z2 z3
  rw [← hlast] at hins
  refine goes_draw 300 ⟨_,hrem,rfl,_,hins,rfl,?_⟩
  refine ⟨by kernel_rfl,?_⟩
  refine ⟨trivial,rfl,rfl,rfl,?_⟩
  unfold moveT
  rw [← hlast]
  rfl
 | lab y hk hy =>
  refine ⟨fun g1 => absurd (hk.symm.trans (eq_of g1)) (by decide),fun g1 => go 300 ?_⟩
  refine ⟨fun g1 => absurd (hk.symm.trans (eq_of g1)) (by decide),fun g1 => go 300 ?_⟩
  refine ⟨fun g1 => absurd (hk.symm.trans (eq_of g1)) (by decide),fun g1 => go 300 ?_⟩
  refine ⟨fun g1 => absurd (hk.symm.trans (eq_of g1)) (by decide),fun g1 => go 300 ?_⟩
  refine ⟨fun g1 => go 300 ?_,fun g1 => absurd hk (ne_of g1)⟩
  show CallThen _ _ _ _ _ _
  refine call_freeze 1 rfl rfl ?_
  refine call_pure (w_change1 128 (opV o).cells (relabelT o.label) y (w_apply2 o y) o.path t hp (by omega) hy) rfl ?_
  rintro z rfl
  exact ⟨trivial,rfl,rfl,rfl,rfl⟩
 | edt y hk hy =>
  have hyw:=atT_weight hy
  refine ⟨fun g1 => absurd (hk.symm.trans (eq_of g1)) (by decide),fun g1 => go 300 ?_⟩
  refine ⟨fun g1 => absurd (hk.symm.trans (eq_of g1)) (by decide),fun g1 => go 300 ?_⟩
  refine ⟨fun g1 => absurd (hk.symm.trans (eq_of g1)) (by decide),fun g1 => go 300 ?_⟩
  refine ⟨fun g1 => absurd (hk.symm.trans (eq_of g1)) (by decide),fun g1 => go 300 ?_⟩
  refine ⟨fun g1 => absurd (hk.symm.trans (eq_of g1)) (by decide),fun g1 => go 300 ?_⟩
  show CallThen _ _ _ _ _ _
  refine call_freeze 1 rfl rfl ?_
  refine call_pure (w_change1 129 (opV o).cells (retextT o.pieces) y (w_apply3 o y ho (by omega)) o.path t hp (by omega) hy) rfl ?_
  rintro z rfl
  exact ⟨trivial,rfl,rfl,rfl,rfl⟩
end Bow
/- SP9: trees that are the same, in plain Lean. -/
namespace Bow
open Go
mutual
def sameT (ids : Bool) : Tree → Tree → Bool
 | .mk i l b a t ss,u => (!ids || decide (i = u.id)) && ((l == u.leaf) && (decide (b = u.label) && (decide (t = u.text) && (decide (a = u.attrs) && sameTs ids ss u.subs))))
def sameTs (ids : Bool) : List Tree → List Tree → Bool
 | [],[] => true
 | s :: ss,u :: us => sameT ids s u && sameTs ids ss us
 | _,_ => false
end
theorem sameT_eq (ids : Bool) (t u : Tree) : sameT ids t u = ((!ids || decide (t.id = u.id)) && ((t.leaf == u.leaf) && (decide (t.label = u.label) && (decide (t.text = u.text) && (decide (t.attrs = u.attrs) && sameTs ids t.subs u.subs))))):=by
 cases t
 rw [sameT]
 rfl
theorem sameTs_len {ids : Bool} : ∀ {ss us : List Tree},sameTs ids ss us = true → ss.length = us.length
 | [],[],_ => rfl
 | [],_ :: _,h => by simp [sameTs] at h
 | _ :: _,[],h => by simp [sameTs] at h
 | s :: ss,u :: us,h => by
  rw [sameTs,Bool.and_eq_true] at h
  simp [sameTs_len h.2]
theorem sameTs_at {ids : Bool} {ss us : List Tree} {i : Nat} (h1 : i < ss.length) (h2 : i < us.length) : sameTs ids (ss.drop i) (us.drop i) = (sameT ids ss[i] us[i] && sameTs ids (ss.drop (i + 1)) (us.drop (i + 1))):=by
 rw [List.drop_eq_getElem_cons h1,List.drop_eq_getElem_cons h2,sameTs]
mutual
theorem sameT_refl (ids : Bool) : ∀ t : Tree,sameT ids t t = true
 | .mk i l b a c ss => by
  rw [sameT_eq]
  simp only [Tree.id,Tree.leaf,Tree.label,Tree.text,Tree.attrs,Tree.subs]
  rw [sameTs_refl ids ss]
  simp
theorem sameTs_refl (ids : Bool) : ∀ ss : List Tree,sameTs ids ss ss = true
 | [] => by rw [sameTs]
 | s :: ss => by rw [sameTs,sameT_refl ids s,sameTs_refl ids ss];rfl
end
end Bow
/- W27: trees that are the same. -/
namespace Bow
open Go Go.Proofs
end Bow
/- W30a: Light, just so. -/
namespace Bow
open Go Go.Proofs
end Bow
/- W31: the reference's Put, put, drop, change. -/
namespace Bow
open Go Go.Proofs
end Bow
/- W32: the reference's put, drop, change, Without. -/
namespace Bow
open Go Go.Proofs
end Bow
/- W33: the reference's attr. -/
namespace Bow
open Go Go.Proofs
theorem withAttrs_V (t : Tree) (a : AttrL) : nodeV (t.withAttrs a) = .agg [.int .u64 t.id,.bool t.leaf,.str t.label,.sl 2 (a.map attrV),.str t.text,.sl 6 t.subV]:=by
 cases t
 rfl
theorem attrs_le_weight (t : Tree) : t.attrs.length ≤ t.weight:=by rw [weight_eq];omega
end Bow
/- W34: the reference's move. -/
namespace Bow
open Go Go.Proofs
end Bow
/- WB2: strings.Compare at this program: by the kit's own tactics. -/
namespace Bow
open Go Go.Proofs Go.RowKit Go.Shelf
set_option maxHeartbeats 1000000 in
set_option maxRecDepth 100000 in
theorem c_CompareString (a b : ByteArray) (w : World) :
  Calls Tryz.prog 192 #[.string a,.string b] w fun e w' => e = .returned (.int .i64 (Lib.compareBytes a.data.toList b.data.toList)) ∧ w' = w:=by
 go_enter Tryz.func192,Tryz.ntmps192
 go_wp2
 rw [run_callFunc_extern Tryz.func204 (by kernel_rfl) (by kernel_rfl) (by kernel_rfl) (e:=Extern.BytealgCompare.compare) (by kernel_rfl),Lib.run_compareString]
 simp only [Result.andThen]
 rw [Oper.upon_value]
 go_wp2
 go_ret
 exact ⟨rfl,rfl⟩
set_option maxHeartbeats 1000000 in
set_option maxRecDepth 100000 in
theorem c_Compare (a b : ByteArray) (w : World) :
  Calls Tryz.prog 167 #[.string a,.string b] w fun e w' => e = .returned (.int .i64 (Lib.compareBytes a.data.toList b.data.toList)) ∧ w' = w:=by
 go_enter Tryz.func167,Tryz.ntmps167
 go_wp2_with (go_at_call 192;refine (c_CompareString _ _ _).mono ?_;rintro e w' ⟨rfl,rfl⟩)
 go_ret
 exact ⟨rfl,rfl⟩
theorem w_Compare (a b : List UInt8) : Pure Tryz.prog 167 [.str a,.str b] (fun x => x = .int .i64 (Lib.compareBytes a b)):=by
 refine pure_of_calls ⟨_,Tryz.func167,rfl,rfl⟩ rfl fun w β H vals hv hr => ?_
 obtain ⟨v0,v1,rfl⟩ : ∃ v0 v1,vals = #[v0,v1]:=by
  obtain ⟨l⟩:=vals
  match l,hv with
  | [v0,v1],_ => exact ⟨v0,v1,rfl⟩
 obtain ⟨rfl,_⟩:=rep_str (m:=[]) (hr 0 _ v0 rfl rfl)
 obtain ⟨rfl,_⟩:=rep_str (m:=[]) (hr 1 _ v1 rfl rfl)
 refine (c_Compare ⟨a.toArray⟩ ⟨b.toArray⟩ w).mono ?_
 rintro e w' ⟨rfl,rfl⟩
 exact ⟨Below.refl _ _,.int .i64 (Lib.compareBytes a b),_,rfl,rfl,rfl,.int _ _⟩
end Bow
/- W35: the program's search for an attribute. -/
namespace Bow
open Go Go.Proofs
theorem w_cmpAttr (a : List UInt8 × List UInt8) (k : List UInt8) : Pure Tryz.prog 166 [attrV a,.str k] (fun x => x = .int .i64 (Lib.compareBytes a.1 k)):=by
 refine pure_fn 300 Tryz.func166 rfl rfl rfl fun B => ?_
 show CallThen _ _ _ _ _ _
 refine call_pure (w_Compare a.1 k) rfl ?_
 rintro x rfl
 exact ⟨trivial,rfl,rfl,rfl,rfl⟩
theorem half_eq (i j : Nat) (h : i + j ≤ 2000000) : IntKind.i64.wrap (IntKind.u64.wrap ((i : Int) + j) / 2 ^ min (1 : Int).toNat IntKind.u64.bits) = (((i + j) / 2 : Nat) : Int):=by
 have e : IntKind.u64.wrap ((i : Int) + j) = ((i + j : Nat) : Int):=by
  unfold IntKind.wrap
  simp [IntKind.signed,IntKind.bits]
  omega
 rw [e]
 unfold IntKind.wrap
 simp [IntKind.signed,IntKind.bits]
 omega
set_option maxRecDepth 100000 in
theorem w_search (l : AttrL) (k : List UInt8) (k0 : Option (List UInt8)) (hl : l.length ≤ 1000000) (hs : attrsOk k0 l = true) : Pure Tryz.prog 165 [.sl 2 (l.map attrV),.str k,.fn (.func 166) [] []] (fun x => x = .tup [.int .i64 (posK k l),.bool (hasK k l)]):=by
 have hpl:=pos_le k l
 refine pure_wk (pure_fn 300 Tryz.func165 rfl rfl rfl fun B => ?_)
 show Goes _ _ _ _
 refine goes_while (ι:=Nat × Nat) (κ:=Unit) (fun i => i.1 ≤ posK k l ∧ posK k l ≤ i.2 ∧ i.2 ≤ l.length) (fun i => i.2 - i.1)
  (fun i => [(9,.int .i64 i.1),(10,.int .i64 i.2),(8,.int .i64 (l.map attrV).length),(0,.sl 2 (l.map attrV)),(1,.str k),(2,.fn (.func 166) [] [])]) (fun _ => []) (0,(l.map attrV).length) (fun _ => True)
  (fun _ => [(9,.int .i64 (posK k l)),(8,.int .i64 (l.map attrV).length),(0,.sl 2 (l.map attrV)),(1,.str k),(2,.fn (.func 166) [] [])]) (fun _ => []) 300 (fun _ => rfl) (fun _ => rfl) (fun _ => rfl) (fun _ => rfl) ⟨⟨Nat.zero_le _,by simpa using hpl,by simp⟩,?_,trivial⟩ ?_ ?_
 ·exact ⟨⟨rfl,rfl⟩,⟨rfl,rfl⟩,⟨rfl,rfl⟩,⟨rfl,rfl⟩,⟨rfl,rfl⟩,⟨rfl,rfl⟩,trivial⟩
 ·rintro ⟨⟩ _
  refine ⟨fun q1 => go 300 ?_,fun q1 => go 300 ?_⟩
  ·have hp : posK k l < l.length:=by have:=lt_of q1;simp at this;omega
   have hx : (l.map attrV)[posK k l]? = some (attrV l[posK k l]):=by simp [hp]
   refine ⟨Int.natCast_nonneg _,_,hx,?_⟩
   show CallThen _ _ _ _ _ _
   refine call_pure (w_cmpAttr l[posK k l] k) rfl ?_
   rintro x rfl
   refine ⟨trivial,rfl,rfl,rfl,_,Wk.refl _,rfl,?_⟩
   have hgd : l.getD (posK k l) ([],[]) = l[posK k l]:=by simp [List.getD_eq_getElem?_getD,hp]
   have e : hasK k l = decide (Lib.compareBytes l[posK k l].1 k = 0):=by
    unfold hasK
    rw [decide_eq_true hp,Bool.true_and,hgd]
    exact decide_eq_decide.2 (cmp_zero _ _).symm
   rw [e]
  ·have hp : ¬ posK k l < l.length:=by have:=not_lt_of q1;simp at this;omega
   refine ⟨trivial,rfl,rfl,rfl,.tup [.int .i64 (posK k l),.bool false],Wk.tup ⟨.refl _,Wk.ff,trivial⟩,rfl,?_⟩
   have e : hasK k l = false:=by unfold hasK;rw [decide_eq_false hp];rfl
   rw [e]
 ·rintro ⟨i,j⟩ ⟨k1,k2,k3⟩ next post
  simp only at k1 k2 k3
  refine ⟨fun hlt => go 300 ?_,fun hge => go 300 ?_⟩
  ·have hij : i < j:=by have:=lt_of hlt;omega
   refine ⟨by constructor <;> simp only <;> omega,?_⟩
   show Goes _ _ _ _
   refine goes_shr 2 rfl rfl rfl rfl rfl (by decide) ?_
   show Goes _ _ _ _
   refine goes_wkSlot 11 (v':=.int .i64 (((i + j) / 2 : Nat) : Int)) rfl rfl rfl (Wk.of_eq (congrArg (V.int .i64) (half_eq i j (by omega)))) ?_
   refine go 300 ?_
   obtain ⟨m,hm⟩ : ∃ m,(i + j) / 2 = m:=⟨_,rfl⟩
   have hml : m < l.length:=by omega
   have hx : (l.map attrV)[m]? = some (attrV l[m]):=by simp [hml]
   rw [hm]
   refine ⟨Int.natCast_nonneg _,_,hx,?_⟩
   show CallThen _ _ _ _ _ _
   refine call_pure (w_cmpAttr l[m] k) rfl ?_
   rintro x rfl
   have hpi:=pos_iff k hs m hml
   refine ⟨fun q2 => go 300 ?_,fun q2 => go 300 ?_⟩
   ·have q2:=hpi.1 ((cmp_less _ _).1 (lt_of q2))
    refine ⟨by constructor <;> omega,?_⟩
    show Goes _ _ _ _
    refine next (m + 1,j) _ _ ⟨⟨q2,k2,k3⟩,by simp only;omega,⟨⟨rfl,rfl⟩,⟨rfl,rfl⟩,⟨rfl,rfl⟩,⟨rfl,rfl⟩,⟨rfl,rfl⟩,⟨rfl,rfl⟩,trivial⟩,trivial⟩
   ·have q2 : ¬ m < posK k l:=fun h => by
     have:=(cmp_less _ _).2 (hpi.2 h)
     have:=not_lt_of q2
     omega
    show Goes _ _ _ _
    refine next (i,m) _ _ ⟨⟨k1,by simp only;omega,by simp only;omega⟩,by simp only;omega,⟨⟨rfl,rfl⟩,⟨rfl,rfl⟩,⟨rfl,rfl⟩,⟨rfl,rfl⟩,⟨rfl,rfl⟩,⟨rfl,rfl⟩,trivial⟩,trivial⟩
  ·have hij : i = posK k l:=by have:=not_lt_of hge;omega
   subst hij
   exact post () _ _ _ rfl ⟨trivial,⟨⟨rfl,rfl⟩,⟨rfl,rfl⟩,⟨rfl,rfl⟩,⟨rfl,rfl⟩,⟨rfl,rfl⟩,trivial⟩,trivial⟩
end Bow
/- W36: the program's setAttr. -/
namespace Bow
open Go Go.Proofs
set_option maxHeartbeats 1000000 in
set_option maxRecDepth 100000 in
theorem w_setAttr (o : OpT) (y : Tree) (k0 : Option (List UInt8)) (hs : attrsOk k0 y.attrs = true) (hl : y.attrs.length ≤ 900000) : Fun Tryz.prog 127 [some (.box (nodeV y).cells)] [.ptr (.loc 0) 0,opV o] (fun _ T => T = [some (.box (nodeV (setAT o y)).cells)]):=by
 refine fun_keep 1 rfl (fun_fn 300 Tryz.func127 rfl rfl rfl fun imps B hi => ?_)
 obtain ⟨r,rfl⟩:=List.length_eq_one_iff.1 hi
 have hpl:=pos_le o.key y.attrs
 have hpl' : ((posK o.key y.attrs : Nat) : Int) ≤ (y.attrs.map attrV).length:=by simp;omega
 have hsr:=w_search y.attrs o.key k0 (by omega) hs
 show Goes _ _ _ _
 refine goes_draw 300 ⟨_,hsr,rfl,?_⟩
 refine ⟨by kernel_rfl,?_⟩
 refine ⟨fun q1 => go 300 ?_,fun q1 => go 300 ?_⟩
 ·have q1 : hasK o.key y.attrs = true:=by simpa using q1
  have hp : posK o.key y.attrs < y.attrs.length:=by
   unfold hasK at q1
   simp only [Bool.and_eq_true,decide_eq_true_eq] at q1
   exact q1.1
  have hpl'' : ((posK o.key y.attrs : Nat) : Int) + 1 ≤ (y.attrs.map attrV).length:=by simp;omega
  have hp0 : (0 : Int) ≤ ((posK o.key y.attrs : Nat) : Int) + 1:=by omega
  refine ⟨by constructor <;> omega,?_⟩
  refine ⟨fun q2 => go 300 ?_,fun q2 => go 300 ?_⟩
  ·have q2 : o.gone = false:=by simpa using q2
   refine ⟨⟨rfl,trivial⟩,?_⟩
   show Goes _ _ _ _
   have hc:=w_ConcatAttr [(((y.attrs.map attrV).drop (Int.toNat 0)).take (((posK o.key y.attrs : Nat) : Int).toNat - Int.toNat 0)),[attrV (o.key,o.value)],(((y.attrs.map attrV).drop (((posK o.key y.attrs : Nat) : Int) + 1).toNat).take (((y.attrs.map attrV).length : Int).toNat - (((posK o.key y.attrs : Nat) : Int) + 1).toNat))] (by simp;omega) (by simp)
   refine goes_draw 300 ⟨by decide,Int.natCast_nonneg _,hpl',hp0,hpl'',Int.le_refl _,?_⟩
   refine ⟨by kernel_rfl,rfl,rfl,⟨rfl,rfl,rfl,trivial⟩,rfl,rfl,rfl,_,hc,rfl,?_⟩
   refine ⟨by kernel_rfl,?_⟩
   refine ⟨trivial,rfl,rfl,[some (.box [.int .u64 y.id,.bool y.leaf,.str y.label,.sl 2 [(((y.attrs.map attrV).drop (Int.toNat 0)).take (((posK o.key y.attrs : Nat) : Int).toNat - Int.toNat 0)),[attrV (o.key,o.value)],(((y.attrs.map attrV).drop (((posK o.key y.attrs : Nat) : Int) + 1).toNat).take (((y.attrs.map attrV).length : Int).toNat - (((posK o.key y.attrs : Nat) : Int) + 1).toNat))].flatten,.str y.text,.sl 6 y.subV])],rfl,rfl,⟨⟨rfl,rfl⟩,trivial⟩,?_⟩
   have e : [(((y.attrs.map attrV).drop (Int.toNat 0)).take (((posK o.key y.attrs : Nat) : Int).toNat - Int.toNat 0)),[attrV (o.key,o.value)],(((y.attrs.map attrV).drop (((posK o.key y.attrs : Nat) : Int) + 1).toNat).take (((y.attrs.map attrV).length : Int).toNat - (((posK o.key y.attrs : Nat) : Int) + 1).toNat))].flatten = (setA o y.attrs).map attrV:=by
    unfold setA midA
    rw [q1,q2]
    rw [List.take_of_length_le (l:=List.drop (((posK o.key y.attrs : Nat) : Int) + 1).toNat (y.attrs.map attrV)) (by simp)]
    have e1 : (((posK o.key y.attrs : Nat) : Int) + 1).toNat = posK o.key y.attrs + 1:=by omega
    rw [e1]
    simp [List.map_take,List.map_drop]
   rw [e,setAT,withAttrs_V]
   rfl
  ·have q2 : o.gone = true:=by simpa using q2
   show Goes _ _ _ _
   have hc:=w_ConcatAttr [(((y.attrs.map attrV).drop (Int.toNat 0)).take (((posK o.key y.attrs : Nat) : Int).toNat - Int.toNat 0)),[],(((y.attrs.map attrV).drop (((posK o.key y.attrs : Nat) : Int) + 1).toNat).take (((y.attrs.map attrV).length : Int).toNat - (((posK o.key y.attrs : Nat) : Int) + 1).toNat))] (by simp;omega) (by simp)
   have hc:=pure_args (args':=[.sl 1 ([(((y.attrs.map attrV).drop (Int.toNat 0)).take (((posK o.key y.attrs : Nat) : Int).toNat - Int.toNat 0)),[],(((y.attrs.map attrV).drop (((posK o.key y.attrs : Nat) : Int) + 1).toNat).take (((y.attrs.map attrV).length : Int).toNat - (((posK o.key y.attrs : Nat) : Int) + 1).toNat))].map (V.sl 2))]) (args:=[.sl 1 [.sl 2 (((y.attrs.map attrV).drop (Int.toNat 0)).take (((posK o.key y.attrs : Nat) : Int).toNat - Int.toNat 0)),.nilsl,.sl 2 (((y.attrs.map attrV).drop (((posK o.key y.attrs : Nat) : Int) + 1).toNat).take (((y.attrs.map attrV).length : Int).toNat - (((posK o.key y.attrs : Nat) : Int) + 1).toNat))]]) hc ⟨Wk.sl ⟨⟨⟨.refl _,trivial⟩,⟨rfl,rfl⟩⟩,⟨⟨Wk.nil 2,trivial⟩,⟨rfl,rfl⟩⟩,⟨⟨.refl _,trivial⟩,⟨rfl,rfl⟩⟩,trivial⟩,trivial⟩ rfl rfl
   refine goes_draw 300 ⟨by decide,Int.natCast_nonneg _,hpl',hp0,hpl'',Int.le_refl _,?_⟩
   refine ⟨by kernel_rfl,⟨rfl,rfl,rfl,trivial⟩,rfl,rfl,rfl,_,hc,rfl,?_⟩
   refine ⟨by kernel_rfl,?_⟩
   refine ⟨trivial,rfl,rfl,[some (.box [.int .u64 y.id,.bool y.leaf,.str y.label,.sl 2 [(((y.attrs.map attrV).drop (Int.toNat 0)).take (((posK o.key y.attrs : Nat) : Int).toNat - Int.toNat 0)),[],(((y.attrs.map attrV).drop (((posK o.key y.attrs : Nat) : Int) + 1).toNat).take (((y.attrs.map attrV).length : Int).toNat - (((posK o.key y.attrs : Nat) : Int) + 1).toNat))].flatten,.str y.text,.sl 6 y.subV])],rfl,rfl,⟨⟨rfl,rfl⟩,trivial⟩,?_⟩
   have e : [(((y.attrs.map attrV).drop (Int.toNat 0)).take (((posK o.key y.attrs : Nat) : Int).toNat - Int.toNat 0)),[],(((y.attrs.map attrV).drop (((posK o.key y.attrs : Nat) : Int) + 1).toNat).take (((y.attrs.map attrV).length : Int).toNat - (((posK o.key y.attrs : Nat) : Int) + 1).toNat))].flatten = (setA o y.attrs).map attrV:=by
    unfold setA midA
    rw [q1,q2]
    rw [List.take_of_length_le (l:=List.drop (((posK o.key y.attrs : Nat) : Int) + 1).toNat (y.attrs.map attrV)) (by simp)]
    have e1 : (((posK o.key y.attrs : Nat) : Int) + 1).toNat = posK o.key y.attrs + 1:=by omega
    rw [e1]
    simp [List.map_take,List.map_drop]
   rw [e,setAT,withAttrs_V]
   rfl
 ·have q1 : hasK o.key y.attrs = false:=by simpa using q1
  have hpl'':=hpl'
  have hp0 : (0 : Int) ≤ ((posK o.key y.attrs : Nat) : Int):=Int.natCast_nonneg _
  refine ⟨fun q2 => go 300 ?_,fun q2 => go 300 ?_⟩
  ·have q2 : o.gone = false:=by simpa using q2
   refine ⟨⟨rfl,trivial⟩,?_⟩
   show Goes _ _ _ _
   have hc:=w_ConcatAttr [(((y.attrs.map attrV).drop (Int.toNat 0)).take (((posK o.key y.attrs : Nat) : Int).toNat - Int.toNat 0)),[attrV (o.key,o.value)],(((y.attrs.map attrV).drop ((posK o.key y.attrs : Nat) : Int).toNat).take (((y.attrs.map attrV).length : Int).toNat - ((posK o.key y.attrs : Nat) : Int).toNat))] (by simp;omega) (by simp)
   refine goes_draw 300 ⟨by decide,Int.natCast_nonneg _,hpl',hp0,hpl'',Int.le_refl _,?_⟩
   refine ⟨by kernel_rfl,rfl,rfl,⟨rfl,rfl,rfl,trivial⟩,rfl,rfl,rfl,_,hc,rfl,?_⟩
   refine ⟨by kernel_rfl,?_⟩
   refine ⟨trivial,rfl,rfl,[some (.box [.int .u64 y.id,.bool y.leaf,.str y.label,.sl 2 [(((y.attrs.map attrV).drop (Int.toNat 0)).take (((posK o.key y.attrs : Nat) : Int).toNat - Int.toNat 0)),[attrV (o.key,o.value)],(((y.attrs.map attrV).drop ((posK o.key y.attrs : Nat) : Int).toNat).take (((y.attrs.map attrV).length : Int).toNat - ((posK o.key y.attrs : Nat) : Int).toNat))].flatten,.str y.text,.sl 6 y.subV])],rfl,rfl,⟨⟨rfl,rfl⟩,trivial⟩,?_⟩
   have e : [(((y.attrs.map attrV).drop (Int.toNat 0)).take (((posK o.key y.attrs : Nat) : Int).toNat - Int.toNat 0)),[attrV (o.key,o.value)],(((y.attrs.map attrV).drop ((posK o.key y.attrs : Nat) : Int).toNat).take (((y.attrs.map attrV).length : Int).toNat - ((posK o.key y.attrs : Nat) : Int).toNat))].flatten = (setA o y.attrs).map attrV:=by
    unfold setA midA
    rw [q1,q2]
    rw [List.take_of_length_le (l:=List.drop ((posK o.key y.attrs : Nat) : Int).toNat (y.attrs.map attrV)) (by simp)]
    simp [List.map_take,List.map_drop]
   rw [e,setAT,withAttrs_V]
   rfl
  ·have q2 : o.gone = true:=by simpa using q2
   show Goes _ _ _ _
   have hc:=w_ConcatAttr [(((y.attrs.map attrV).drop (Int.toNat 0)).take (((posK o.key y.attrs : Nat) : Int).toNat - Int.toNat 0)),[],(((y.attrs.map attrV).drop ((posK o.key y.attrs : Nat) : Int).toNat).take (((y.attrs.map attrV).length : Int).toNat - ((posK o.key y.attrs : Nat) : Int).toNat))] (by simp;omega) (by simp)
   have hc:=pure_args (args':=[.sl 1 ([(((y.attrs.map attrV).drop (Int.toNat 0)).take (((posK o.key y.attrs : Nat) : Int).toNat - Int.toNat 0)),[],(((y.attrs.map attrV).drop ((posK o.key y.attrs : Nat) : Int).toNat).take (((y.attrs.map attrV).length : Int).toNat - ((posK o.key y.attrs : Nat) : Int).toNat))].map (V.sl 2))]) (args:=[.sl 1 [.sl 2 (((y.attrs.map attrV).drop (Int.toNat 0)).take (((posK o.key y.attrs : Nat) : Int).toNat - Int.toNat 0)),.nilsl,.sl 2 (((y.attrs.map attrV).drop ((posK o.key y.attrs : Nat) : Int).toNat).take (((y.attrs.map attrV).length : Int).toNat - ((posK o.key y.attrs : Nat) : Int).toNat))]]) hc ⟨Wk.sl ⟨⟨⟨.refl _,trivial⟩,⟨rfl,rfl⟩⟩,⟨⟨Wk.nil 2,trivial⟩,⟨rfl,rfl⟩⟩,⟨⟨.refl _,trivial⟩,⟨rfl,rfl⟩⟩,trivial⟩,trivial⟩ rfl rfl
   refine goes_draw 300 ⟨by decide,Int.natCast_nonneg _,hpl',hp0,hpl'',Int.le_refl _,?_⟩
   refine ⟨by kernel_rfl,⟨rfl,rfl,rfl,trivial⟩,rfl,rfl,rfl,_,hc,rfl,?_⟩
   refine ⟨by kernel_rfl,?_⟩
   refine ⟨trivial,rfl,rfl,[some (.box [.int .u64 y.id,.bool y.leaf,.str y.label,.sl 2 [(((y.attrs.map attrV).drop (Int.toNat 0)).take (((posK o.key y.attrs : Nat) : Int).toNat - Int.toNat 0)),[],(((y.attrs.map attrV).drop ((posK o.key y.attrs : Nat) : Int).toNat).take (((y.attrs.map attrV).length : Int).toNat - ((posK o.key y.attrs : Nat) : Int).toNat))].flatten,.str y.text,.sl 6 y.subV])],rfl,rfl,⟨⟨rfl,rfl⟩,trivial⟩,?_⟩
   have e : [(((y.attrs.map attrV).drop (Int.toNat 0)).take (((posK o.key y.attrs : Nat) : Int).toNat - Int.toNat 0)),[],(((y.attrs.map attrV).drop ((posK o.key y.attrs : Nat) : Int).toNat).take (((y.attrs.map attrV).length : Int).toNat - ((posK o.key y.attrs : Nat) : Int).toNat))].flatten = (setA o y.attrs).map attrV:=by
    unfold setA midA
    rw [q1,q2]
    rw [List.take_of_length_le (l:=List.drop ((posK o.key y.attrs : Nat) : Int).toNat (y.attrs.map attrV)) (by simp)]
    simp
   rw [e,setAT,withAttrs_V]
   rfl
end Bow
/- W37: the program's apply, Apply. -/
namespace Bow
open Go Go.Proofs
theorem w_apply1 (o : OpT) (y : Tree) (k0 : Option (List UInt8)) (hs : attrsOk k0 y.attrs = true) (hl : y.attrs.length ≤ 900000) : Fun Tryz.prog 126 [some (.box (nodeV y).cells)] [.ptr (.loc 0) 0,.iptr (opV o).cells 0] (fun _ T => T = [some (.box (nodeV (setAT o y)).cells)]):=by
 refine fun_fn 100 Tryz.func126 rfl rfl rfl fun imps B hi => ?_
 obtain ⟨r,rfl⟩:=List.length_eq_one_iff.1 hi
 show CallThen _ _ _ _ _ _
 refine call_sub [0] (w_setAttr o y k0 hs hl) rfl rfl ⟨⟨rfl,rfl⟩,trivial⟩ rfl rfl rfl ?_
 rintro x T1 rfl
 refine ⟨rfl,?_⟩
 exact ⟨trivial,rfl,rfl,rfl⟩
set_option maxRecDepth 100000 in
theorem w_apply_att (t y : Tree) (o : OpT) (ht : t.weight ≤ 900000) (ho : o.Ok) (hk : o.kind = 4) (hy : atT t o.path = some y) (hs : attrsOk none y.attrs = true) : Pure Tryz.prog 87 [nodeV t,opV o] (fun x => x = nodeV (changeT (setAT o) t o.path)):=by
 have hp:=ho.lt.path
 have hyw:=atT_weight hy
 have hya:=attrs_le_weight y
 refine pure_fn 300 Tryz.func87 rfl rfl rfl fun B => ?_
 refine ⟨fun g1 => absurd (hk.symm.trans (eq_of g1)) (by decide),fun g1 => go 300 ?_⟩
 refine ⟨fun g1 => absurd (hk.symm.trans (eq_of g1)) (by decide),fun g1 => go 300 ?_⟩
 refine ⟨fun g1 => absurd (hk.symm.trans (eq_of g1)) (by decide),fun g1 => go 300 ?_⟩
 refine ⟨fun g1 => go 300 ?_,fun g1 => absurd hk (ne_of g1)⟩
 show CallThen _ _ _ _ _ _
 refine call_freeze 1 rfl rfl ?_
 refine call_pure (w_change1 126 (opV o).cells (setAT o) y (w_apply1 o y none hs (by omega)) o.path t hp (by omega) hy) rfl ?_
 rintro z rfl
 exact ⟨trivial,rfl,rfl,rfl,rfl⟩
theorem w_applyT (t : Tree) (o : OpT) (ht : t.weight ≤ 900000) (ho : o.Ok) (h : ValidE t o = 0) : Pure Tryz.prog 87 [nodeV t,opV o] (fun x => x = nodeV (applyT t o)):=by
 obtain ⟨hr,hf,_⟩:=valid_right h
 have hra : t.rightA = true:=by
  unfold rightT at hr
  rw [Bool.and_eq_true] at hr
  exact hr.2
 have hto : o.kind = 3 → ∀ x ∈ o.to,inI x:=fun hk x hx => by
  have:=may_step (good_to hf hk) x hx
  constructor <;> omega
 cases good_of h with
 | ins y hk hy hl h0 h1 h2 =>
  have e : applyT t o = changeT (insT o.at_ (freshT o)) t o.path:=by unfold applyT;rw [hk];rfl
  rw [e]
  exact w_apply_k t o _ ht ho (fun h => absurd (hk.symm.trans h) (by decide)) (.ins y hk hy h0 h1)
 | del x hk hne hx =>
  have e : applyT t o = changeT (delT (lastP o.path)) t o.path.dropLast:=by unfold applyT;rw [hk];rfl
  rw [e]
  exact w_apply_k t o _ ht ho (fun h => absurd (hk.symm.trans h) (by decide)) (.del x hk hne hx)
 | mov x z hk hne hx hw hz hl h0 h1 =>
  have e : applyT t o = moveT x t o:=by unfold applyT;rw [hk,hx];rfl
  rw [e]
  exact w_apply_k t o _ ht ho (fun _ => hto hk) (.mov x z hk hne hx hw hz h0 h1)
 | att y hk hy h1 h2 =>
  have e : applyT t o = changeT (setAT o) t o.path:=by unfold applyT;rw [hk];rfl
  rw [e]
  exact w_apply_att t y o ht ho hk hy (right_attrs (right_at hra hy))
 | lab y hk hy h2 =>
  have e : applyT t o = changeT (relabelT o.label) t o.path:=by unfold applyT;rw [hk];rfl
  rw [e]
  exact w_apply_k t o _ ht ho (fun h => absurd (hk.symm.trans h) (by decide)) (.lab y hk hy)
 | edt y hk hy hl he =>
  have e : applyT t o = changeT (retextT o.pieces) t o.path:=by unfold applyT;rw [hk];rfl
  rw [e]
  exact w_apply_k t o _ ht ho (fun h => absurd (hk.symm.trans h) (by decide)) (.edt y hk hy)
end Bow
/- W38: the reference's Apply. -/
namespace Bow
open Go Go.Proofs
end Bow
/- SP15: a tree that was right stays right, in plain Lean. -/
namespace Bow
open Go
theorem rightN_iff (t : Tree) : rightN t = true ↔ t.label.length ≤ 64 ∧ (t.leaf = true → t.subs = []) ∧ (t.leaf = false → t.text = []) ∧ attrsOk none t.attrs = true:=by
 unfold rightN headOk
 constructor
 ·intro h
  rw [Bool.and_eq_true,Bool.and_eq_true,Bool.and_eq_true] at h
  obtain ⟨⟨h1,h2,h3⟩,h4⟩:=h
  refine ⟨by simp at h1;omega,fun hl => ?_,fun hl => ?_,h4⟩
  ·rw [hl] at h2
   cases hs : t.subs with
   | nil => rfl
   | cons a l => rw [hs] at h2;simp at h2
  ·rw [hl] at h3
   simpa using h3
 ·rintro ⟨h1,h2,h3,h4⟩
  rw [h4,decide_eq_false (by omega : ¬ (64 : Int) < t.label.length)]
  cases hl : t.leaf with
  | false => rw [h3 hl];simp
  | true => rw [h2 hl];simp
theorem rightN_subs (t : Tree) (ss : List Tree) (h : rightN t = true) (hl : t.leaf = true → ss = []) : rightN (t.withSubs ss) = true:=by
 obtain ⟨h1,h2,h3,h4⟩:=(rightN_iff t).1 h
 refine (rightN_iff _).2 ?_
 obtain ⟨i,lf,b,a,c,us⟩:=t
 exact ⟨h1,hl,h3,h4⟩
theorem rightN_leaf {t : Tree} (h : rightN t = true) (hl : t.leaf = true) : t.subs = []:=((rightN_iff t).1 h).2.1 hl
theorem rightA_N {t : Tree} (h : t.rightA = true) : rightN t = true:=by
 rw [rightA_eq,Bool.and_eq_true] at h
 exact h.1
theorem rightA_subs {t : Tree} (h : t.rightA = true) : ∀ s ∈ t.subs,s.rightA = true:=by
 rw [rightA_eq,Bool.and_eq_true,rightsA_all] at h
 exact List.all_eq_true.1 h.2
theorem rightA_mk {t : Tree} (h1 : rightN t = true) (h2 : ∀ s ∈ t.subs,s.rightA = true) : t.rightA = true:=by
 rw [rightA_eq,h1,rightsA_all,Bool.true_and]
 exact List.all_eq_true.2 h2
theorem change_rightA {F : Tree → Tree} {y : Tree} : ∀ {p : List Int} {t : Tree},t.rightA = true → atT t p = some y → (F y).rightA = true → (changeT F t p).rightA = true
 | [],t,_,h,hF => by
  rw [atT] at h
  injection h with h
  subst h
  exact hF
 | i :: p,t,ht,h,hF => by
  rw [atT] at h
  cases hs : subT t i with
  | none => rw [hs] at h;cases h
  | some s =>
   rw [hs] at h
   obtain ⟨h1,h2,h3⟩:=subT_some hs
   have ih:=change_rightA (F:=F) (p:=p) (rightA_subs ht s h3) h hF
   rw [changeT,hs]
   simp only
   refine rightA_mk (rightN_subs t _ (rightA_N ht) fun hl => ?_) fun u hu => ?_
   ·rw [rightN_leaf (rightA_N ht) hl] at h3
    cases h3
   ·rw [withSubs_subs] at hu
    rcases List.mem_or_eq_of_mem_set hu with hu | rfl
    ·exact rightA_subs ht u hu
    ·exact ih
theorem ins_rightA (n : Int) {x y : Tree} (hy : y.rightA = true) (hl : y.leaf = false) (hx : x.rightA = true) : (insT n x y).rightA = true:=by
 refine rightA_mk (rightN_subs y _ (rightA_N hy) fun h => by rw [hl] at h;cases h) fun u hu => ?_
 unfold insT at hu
 rw [withSubs_subs] at hu
 rcases List.mem_append.1 hu with hu | hu
 ·exact rightA_subs hy u (List.mem_of_mem_take hu)
 ·rcases List.mem_cons.1 hu with rfl | hu
  ·exact hx
  ·exact rightA_subs hy u (List.mem_of_mem_drop hu)
theorem del_rightA (n : Int) {y : Tree} (hy : y.rightA = true) : (delT n y).rightA = true:=by
 refine rightA_mk (rightN_subs y _ (rightA_N hy) fun h => by rw [rightN_leaf (rightA_N hy) h];simp) fun u hu => ?_
 unfold delT at hu
 rw [withSubs_subs] at hu
 rcases List.mem_append.1 hu with hu | hu
 ·exact rightA_subs hy u (List.mem_of_mem_take hu)
 ·exact rightA_subs hy u (List.mem_of_mem_drop hu)
theorem less_ord {k s : List UInt8} (h : Op.bytesLess k s = true) : ordOk (some k) s = true:=by
 show (!leS s k) = true
 unfold leS
 rw [less_asymm h,decide_eq_false fun e => less_ne h e.symm]
 rfl
theorem ord_trans {k0 : Option (List UInt8)} {k s : List UInt8} (h1 : ordOk k0 k = true) (h2 : Op.bytesLess k s = true) : ordOk k0 s = true:=by
 cases k0 with
 | none => rfl
 | some q => exact less_ord (less_trans (ordOk_less h1) h2)
theorem attrOk_mk {k0 : Option (List UInt8)} {a : List UInt8 × List UInt8} (h1 : keyOk a.1 = true) (h2 : a.2.length ≤ 256) (h3 : ordOk k0 a.1 = true) : attrOk k0 a = true:=by
 unfold attrOk
 rw [h1,h3,decide_eq_true (by omega)]
 rfl
theorem attrOk_parts {k0 : Option (List UInt8)} {a : List UInt8 × List UInt8} (h : attrOk k0 a = true) : keyOk a.1 = true ∧ a.2.length ≤ 256 ∧ ordOk k0 a.1 = true:=by
 unfold attrOk at h
 simp only [Bool.and_eq_true,decide_eq_true_eq] at h
 exact ⟨h.1,by omega,h.2.2⟩
theorem attrsOk_weak {k0 : Option (List UInt8)} {k : List UInt8} (h : ordOk k0 k = true) : ∀ {l : AttrL},attrsOk (some k) l = true → attrsOk k0 l = true
 | [],_ => rfl
 | a :: l,hl => by
  rw [attrsOk,Bool.and_eq_true] at hl ⊢
  obtain ⟨h1,h2,h3⟩:=attrOk_parts hl.1
  exact ⟨attrOk_mk h1 h2 (ord_trans h (ordOk_less h3)),hl.2⟩
theorem refA_true_ok (o : OpT) : ∀ {l : AttrL} {k0 : Option (List UInt8)},attrsOk k0 l = true → attrsOk k0 (refA o true l) = true
 | [],_,_ => rfl
 | a :: l,k0,h => by
  have ih:=refA_true_ok o (attrsOk_tail h)
  rw [attrsOk,Bool.and_eq_true] at h
  obtain ⟨h1,h2,h3⟩:=attrOk_parts h.1
  rw [refA]
  simp only [Bool.not_true,Bool.false_and,cond_false,List.nil_append,Bool.true_or]
  cases decide (a.1 = o.key) with
  | true => exact attrsOk_weak h3 ih
  | false =>
   show attrsOk k0 (a :: refA o true l) = true
   rw [attrsOk,h.1,ih]
   rfl
theorem refA_false_ok (o : OpT) (hk : keyOk o.key = true) (hv : o.value.length ≤ 256) : ∀ {l : AttrL} {k0 : Option (List UInt8)},attrsOk k0 l = true → ordOk k0 o.key = true → attrsOk k0 (refA o false l) = true
 | [],k0,_,ho => by
  show attrsOk k0 [(o.key,o.value)] = true
  rw [attrsOk,attrOk_mk hk hv ho]
  rfl
 | a :: l,k0,h,ho => by
  have ht:=attrsOk_tail h
  rw [attrsOk,Bool.and_eq_true] at h
  obtain ⟨h1,h2,h3⟩:=attrOk_parts h.1
  rw [refA]
  cases ha : Op.bytesLess a.1 o.key with
  | true =>
   rw [decide_eq_false (less_ne ha)]
   show attrsOk k0 (a :: refA o false l) = true
   rw [attrsOk,h.1,refA_false_ok o hk hv ht (less_ord ha)]
   rfl
  | false =>
   by_cases he : a.1 = o.key
   ·rw [decide_eq_true he]
    show attrsOk k0 ((o.key,o.value) :: refA o true l) = true
    rw [attrsOk,attrOk_mk hk hv ho]
    show attrsOk (some o.key) (refA o true l) = true
    rw [← he]
    exact refA_true_ok o ht
   ·rw [decide_eq_false he]
    show attrsOk k0 ((o.key,o.value) :: a :: refA o true l) = true
    have hka : Op.bytesLess o.key a.1 = true:=by
     cases hk' : Op.bytesLess o.key a.1 with
     | true => rfl
     | false => exact absurd (less_tri ha hk') he
    rw [attrsOk,attrOk_mk hk hv ho,attrsOk,attrOk_mk h1 h2 (less_ord hka)]
    exact refA_true_ok o ht
theorem withAttrs_rightA {y : Tree} {a : AttrL} (hy : y.rightA = true) (ha : attrsOk none a = true) : (y.withAttrs a).rightA = true:=by
 have h1:=rightA_N hy
 have h2:=rightA_subs hy
 obtain ⟨q1,q2,q3,q4⟩:=(rightN_iff y).1 h1
 obtain ⟨i,lf,b,a',c,us⟩:=y
 exact rightA_mk ((rightN_iff _).2 ⟨q1,q2,q3,ha⟩) h2
theorem setAT_rightA {o : OpT} {y : Tree} (hy : y.rightA = true) (hk : keyOk o.key = true) (hv : o.gone = true ∨ o.value.length ≤ 256) : (setAT o y).rightA = true:=by
 unfold setAT
 refine withAttrs_rightA hy ?_
 rw [← attr_law o (right_attrs hy)]
 cases hg : o.gone with
 | true => exact refA_true_ok o (right_attrs hy)
 | false => exact refA_false_ok o hk (hv.resolve_left (by rw [hg];simp)) (right_attrs hy) rfl
theorem relabel_rightA {s : List UInt8} {y : Tree} (hy : y.rightA = true) (hs : s.length ≤ 64) : (relabelT s y).rightA = true:=by
 have h1:=rightA_N hy
 have h2:=rightA_subs hy
 obtain ⟨q1,q2,q3,q4⟩:=(rightN_iff y).1 h1
 obtain ⟨i,lf,b,a',c,us⟩:=y
 exact rightA_mk ((rightN_iff _).2 ⟨hs,q2,q3,q4⟩) h2
theorem retext_rightA {l : List PieceT} {y : Tree} (hy : y.rightA = true) (hl : y.leaf = true) : (retextT l y).rightA = true:=by
 have h1:=rightA_N hy
 have h2:=rightA_subs hy
 obtain ⟨q1,q2,q3,q4⟩:=(rightN_iff y).1 h1
 obtain ⟨i,lf,b,a',c,us⟩:=y
 exact rightA_mk ((rightN_iff _).2 ⟨q1,q2,fun h => absurd (h.symm.trans hl) (by simp),q4⟩) h2
theorem fresh_rightA {o : OpT} (h : o.label.length ≤ 64) : (freshT o).rightA = true:=by
 exact rightA_mk ((rightN_iff _).2 ⟨h,fun _ => rfl,fun _ => rfl,rfl⟩) (fun s hs => by cases hs)
theorem land_of {t x z : Tree} {fr to : List Int} {at_ : Int} (hne : fr ≠ []) (hx : atT t fr = some x) (hw : within fr to = false) (hz : atT t to = some z) (h0 : 0 ≤ at_) (h1 : at_ ≤ z.subs.length) :
  ∃ z',atT (withoutT t fr) (landT fr.dropLast (lastP fr) to at_).1 = some z' ∧ 0 ≤ (landT fr.dropLast (lastP fr) to at_).2 ∧ (landT fr.dropLast (lastP fr) to at_).2 ≤ z'.subs.length ∧ z'.leaf = z.leaf ∧ z'.id = z.id:=by
 obtain ⟨y,y1,y2,y3,y4⟩:=at_parent hne hx
 have hlast:=lastP_eq hne
 rw [hlast] at y2 y3 y4
 have hw' : within (fr.dropLast ++ [lastP fr]) to = false:=by rw [← hlast,List.dropLast_concat_getLast];exact hw
 exact land_at2 y2 h0 fr.dropLast to t y z y1 y3 hw' hz h1
theorem without_rightA {t x : Tree} {fr : List Int} (hne : fr ≠ []) (hx : atT t fr = some x) (ht : t.rightA = true) : (withoutT t fr).rightA = true:=by
 obtain ⟨y,y1,y2,y3,y4⟩:=at_parent hne hx
 exact change_rightA ht y1 (del_rightA _ (right_at ht y1))
theorem change_leaf {F : Tree → Tree} (hF : ∀ y,(F y).leaf = y.leaf) : ∀ (p : List Int) (t : Tree),(changeT F t p).leaf = t.leaf
 | [],t => hF t
 | i :: p,t => by
  rw [changeT]
  cases subT t i with
  | none => rfl
  | some s => exact withSubs_leaf _ _
theorem rightT_parts {t : Tree} (h : rightT t = true) : t.leaf = false ∧ t.rightA = true:=by
 unfold rightT at h
 simpa using h
theorem right_applyT {t : Tree} {o : OpT} (h : ValidE t o = 0) : rightT (applyT t o) = true:=by
 obtain ⟨hr,hf,_⟩:=valid_right h
 obtain ⟨hl,hA⟩:=rightT_parts hr
 have hins : ∀ n x,∀ y,(insT n x y).leaf = y.leaf:=fun n x y => withSubs_leaf _ _
 have hdel : ∀ n,∀ y,(delT n y).leaf = y.leaf:=fun n y => withSubs_leaf _ _
 have key : (applyT t o).leaf = t.leaf ∧ (applyT t o).rightA = true:=by
  cases good_of h with
  | ins y hk hy hl h0 h1 h2 =>
   have e : applyT t o = changeT (insT o.at_ (freshT o)) t o.path:=by unfold applyT;rw [hk];rfl
   rw [e]
   exact ⟨change_leaf (hins _ _) _ _,change_rightA hA hy (ins_rightA _ (right_at hA hy) hl (fresh_rightA h2))⟩
  | del x hk hne hx =>
   have e : applyT t o = withoutT t o.path:=by unfold applyT;rw [hk];rfl
   rw [e]
   exact ⟨change_leaf (hdel _) _ _,without_rightA hne hx hA⟩
  | mov x z hk hne hx hw hz hl h0 h1 =>
   have e : applyT t o = moveT x t o:=by unfold applyT;rw [hk,hx];rfl
   obtain ⟨z',k1,k2,k3,k4,k5⟩:=land_of hne hx hw hz h0 h1
   rw [e,moveT_eq]
   have hwA:=without_rightA hne hx hA
   refine ⟨(change_leaf (hins _ _) _ _).trans (change_leaf (hdel _) _ _),change_rightA hwA k1 (ins_rightA _ (right_at hwA k1) (k4.trans hl) (right_at hA hx))⟩
  | att y hk hy h1 h2 =>
   have e : applyT t o = changeT (setAT o) t o.path:=by unfold applyT;rw [hk];rfl
   rw [e]
   exact ⟨change_leaf (fun y => by cases y;rfl) _ _,change_rightA hA hy (setAT_rightA (right_at hA hy) h1 h2)⟩
  | lab y hk hy h2 =>
   have e : applyT t o = changeT (relabelT o.label) t o.path:=by unfold applyT;rw [hk];rfl
   rw [e]
   exact ⟨change_leaf (fun y => by cases y;rfl) _ _,change_rightA hA hy (relabel_rightA (right_at hA hy) h2)⟩
  | edt y hk hy hl he =>
   have e : applyT t o = changeT (retextT o.pieces) t o.path:=by unfold applyT;rw [hk];rfl
   rw [e]
   exact ⟨change_leaf (fun y => by cases y;rfl) _ _,change_rightA hA hy (retext_rightA (right_at hA hy) hl)⟩
 unfold rightT
 rw [key.1,key.2,hl]
 rfl
end Bow
/- SP16: the identities of a tree, counted, in plain Lean. -/
namespace Bow
open Go
section
variable {m : List Int → Nat}
end
end Bow
/- W39: the reference's Same, IDs. -/
namespace Bow
open Go Go.Proofs
theorem attrs_take {α : Type} {xs ys : List α} {i : Nat} (h1 : i < xs.length) (h2 : i < ys.length) : (xs.drop i = ys.drop i) = (xs[i] = ys[i] ∧ xs.drop (i + 1) = ys.drop (i + 1)) := by
  rw [List.drop_eq_getElem_cons h1, List.drop_eq_getElem_cons h2, List.cons.injEq]
set_option maxRecDepth 100000 in
theorem w_refSameAttrs (xs ys : AttrL) (hl : xs.length ≤ 1000000) : Pure Tryz.prog 59 [.sl 2 (xs.map attrV), .sl 2 (ys.map attrV)] (fun x => x = .bool (decide (xs = ys))) := by
  refine pure_wk (pure_fn 300 Tryz.func59 rfl rfl rfl fun B => ?_)
  refine ⟨fun g1 => go 300 ?_, fun g1 => go 300 ?_⟩
  · have g1 := ne_of' g1
    exact ⟨trivial, rfl, rfl, rfl, leaf_ff (decide_eq_false fun e => g1 (by rw [e]))⟩
  have g1 : xs.length = ys.length := by have := eq_of' g1; simp at this; omega
  show Goes _ _ _ _
  refine goes_iter (ι := Nat) (fun i => i ≤ xs.length ∧ (xs.drop i = ys.drop i ↔ xs = ys)) (fun i => xs.length - i) (fun i => [(5, .int .i64 i), (0, .sl 2 (xs.map attrV)), (1, .sl 2 (ys.map attrV))]) (fun _ => []) 0 300 (fun _ => rfl) (fun _ => rfl) ⟨⟨Nat.zero_le _, by simp⟩, ⟨⟨rfl, rfl⟩, ⟨rfl, rfl⟩, ⟨rfl, rfl⟩, trivial⟩, trivial⟩ ?_
  rintro i ⟨k1, k2⟩ next
  refine ⟨fun hlt => go 300 ?_, fun hge => go 300 ?_⟩
  · have hi : i < xs.length := by simpa using hlt
    have hi' : i < ys.length := by omega
    have hx : (xs.map attrV)[i]? = some (attrV xs[i]) := by simp [hi]
    have hy : (ys.map attrV)[i]? = some (attrV ys[i]) := by simp [hi']
    rw [attrs_take hi hi'] at k2
    show Goes _ _ _ _
    refine goes_draw 300 ⟨Int.natCast_nonneg i, _, hx, Int.natCast_nonneg i, _, hy, ?_⟩
    refine ⟨by kernel_rfl, ?_⟩
    refine ⟨by kernel_rfl, ?_⟩
    refine ⟨fun g2 => go 300 ?_, fun g2 => go 300 ?_⟩
    · refine ⟨trivial, rfl, rfl, rfl, leaf_ff (decide_eq_false fun e => ?_)⟩
      have := (k2.2 e).1
      rw [this] at g2
      simp at g2
    · refine ⟨by constructor <;> omega, ?_⟩
      have he : xs[i] = ys[i] := by
        simp at g2
        exact Prod.ext g2.1 g2.2
      exact next (i + 1) _ _ ⟨⟨hi, by rw [← k2]; exact ⟨fun h => ⟨he, h⟩, fun h => h.2⟩⟩, by omega, ⟨⟨rfl, rfl⟩, ⟨rfl, rfl⟩, ⟨rfl, rfl⟩, trivial⟩, trivial⟩
  · have hi : i = xs.length := by have : xs.length ≤ i := by simpa using hge
                                  omega
    subst hi
    refine ⟨trivial, rfl, rfl, rfl, leaf_tt (decide_eq_true (k2.1 ?_))⟩
    rw [List.drop_eq_nil_of_le (Nat.le_refl _), List.drop_eq_nil_of_le (by omega)]
set_option maxHeartbeats 1000000 in
set_option maxRecDepth 100000 in
theorem w_refSameT (t : Tree) : ∀ u : Tree, t.weight ≤ 1000000 → Pure Tryz.prog 19 [nodeV t, nodeV u] (fun x => x = .bool (sameT true t u)) := by
  induction t using Tree.ind with
  | _ t ih =>
  intro u ht
  have hsl := subs_le_weight t
  have hal := attrs_le_weight t
  have hA := w_refSameAttrs t.attrs u.attrs (by omega)
  have e := sameT_eq true t u
  refine pure_wk (pure_fn 300 Tryz.func19 rfl rfl rfl fun B => ?_)
  repeat' first
    | (refine ⟨fun _ => go 300 ?_, fun _ => go 300 ?_⟩)
    | (show CallThen _ _ _ _ _ _; refine call_pure hA rfl ?_; rintro z rfl)
    | (refine ⟨trivial, rfl, rfl, rfl, leaf_ff ?_⟩)
    | fail
  case h.refine_2.refine_2.refine_2.refine_2.refine_2.refine_2 g1 g2 g3 g4 g5 g6 =>
    have hlen : t.subs.length = u.subs.length := by have := eq_of' g6; rw [subV_len, subV_len] at this; omega
    have e' : sameT true t u = sameTs true t.subs u.subs := by
      rw [e]
      have g1 := eq_of' g1
      simp at g2 g3 g4 g5
      simp [g1, g2, g3, g4, g5]
    show Goes _ _ _ _
    refine goes_iter (ι := Nat) (fun i => i ≤ t.subs.length ∧ sameTs true (t.subs.drop i) (u.subs.drop i) = sameTs true t.subs u.subs) (fun i => t.subs.length - i) (fun i => [(5, .int .i64 i), (2, .ptr (.loc 0) 0), (3, .ptr (.loc 1) 0)]) (fun _ => [some (.box (nodeV t).cells), some (.box (nodeV u).cells)]) 0 300 (fun _ => rfl) (fun _ => rfl) ⟨⟨Nat.zero_le _, rfl⟩, ⟨⟨rfl, rfl⟩, ⟨rfl, rfl⟩, ⟨rfl, rfl⟩, trivial⟩, ⟨⟨rfl, rfl⟩, ⟨rfl, rfl⟩, trivial⟩⟩ ?_
    rintro i ⟨k1, k2⟩ next
    refine ⟨fun hlt => go 300 ?_, fun hge => go 300 ?_⟩
    · have hi : i < t.subs.length := by simpa [subV_eq] using hlt
      have hi' : i < u.subs.length := by omega
      have hx : t.subV[i]? = some (nodeV t.subs[i]) := by simp [subV_eq, hi]
      have hy : u.subV[i]? = some (nodeV u.subs[i]) := by simp [subV_eq, hi']
      have hws := weight_sub (List.getElem_mem hi)
      rw [sameTs_at hi hi'] at k2
      show Goes _ _ _ _
      refine goes_draw 300 ⟨Int.natCast_nonneg i, _, hx, Int.natCast_nonneg i, _, hy, _, ih _ (List.getElem_mem hi) u.subs[i] (by omega), rfl, ?_⟩
      refine ⟨by kernel_rfl, ?_⟩
      refine ⟨fun g => go 300 ?_, fun g => go 300 ?_⟩
      · have g : sameT true t.subs[i] u.subs[i] = false := by simpa using g
        exact ⟨trivial, rfl, rfl, rfl, leaf_ff (by rw [e', ← k2, g]; rfl)⟩
      · have g : sameT true t.subs[i] u.subs[i] = true := by simpa using g
        rw [g, Bool.true_and] at k2
        refine ⟨by constructor <;> omega, ?_⟩
        exact next (i + 1) _ _ ⟨⟨hi, k2⟩, by omega, ⟨⟨rfl, rfl⟩, ⟨rfl, rfl⟩, ⟨rfl, rfl⟩, trivial⟩, ⟨⟨rfl, rfl⟩, ⟨rfl, rfl⟩, trivial⟩⟩
    · have hi : t.subs.length ≤ i := by simpa [subV_eq] using hge
      rw [List.drop_eq_nil_of_le hi, List.drop_eq_nil_of_le (by omega), sameTs] at k2
      exact ⟨trivial, rfl, rfl, rfl, leaf_tt (by rw [e', ← k2])⟩
  case h.refine_2.refine_2.refine_2.refine_2.refine_2.refine_1 g1 g2 g3 g4 g5 g6 =>
    have g6 := ne_of' g6
    rw [subV_len, subV_len] at g6
    cases h : sameT true t u with
    | false => rfl
    | true =>
      rw [e] at h
      simp only [Bool.and_eq_true] at h
      exact absurd (congrArg Nat.cast (sameTs_len h.2.2.2.2.2)) g6
  all_goals (rw [e]; simp_all)
end Bow
/- SP17: a list of operations, in plain Lean. -/
namespace Bow
open Go
def zeroT0 : Tree:=.mk 0 false [] [] [] []
def allR : Tree → List OpT → Nat → Tree × Nat × Int
 | t,[],i => (t,i,0)
 | t,o :: l,i => bif decide (ValidE t o = 0) then allR (applyT t o) l (i + 1) else (zeroT0,i,ValidE t o)
def AllR (t : Tree) (l : List OpT) : Tree × Nat × Int:=bif rightT t then allR t l 0 else (zeroT0,0,2)
def costs : List OpT → Nat
 | [] => 0
 | o :: l => costO o + costs l
theorem zero_weight : zeroT0.weight = 1:=by
 have:=weight_eq zeroT0
 simp [attrLen,weights,Tree.label,Tree.text,Tree.attrs,Tree.subs,zeroT0] at this
 exact this
theorem weight_pos (t : Tree) : 1 ≤ t.weight:=by rw [weight_eq];omega
theorem allR_weight : ∀ (l : List OpT) (t : Tree) (i : Nat),(allR t l i).1.weight ≤ t.weight + costs l
 | [],t,i => by rw [allR,costs];simp
 | o :: l,t,i => by
  rw [allR,costs]
  by_cases h : ValidE t o = 0
  ·rw [decide_eq_true h]
   have:=allR_weight l (applyT t o) (i + 1)
   have:=applyT_weight h
   simp only [cond_true]
   omega
  ·rw [decide_eq_false h]
   have:=zero_weight
   have:=weight_pos t
   simp only [cond_false]
   omega
theorem AllR_weight (t : Tree) (l : List OpT) : (AllR t l).1.weight ≤ t.weight + costs l:=by
 unfold AllR
 cases rightT t with
 | true => exact allR_weight l t 0
 | false =>
  have:=zero_weight
  have:=weight_pos t
  simp only [cond_false]
  omega
theorem valid_of_right {t : Tree} (h : rightT t = true) (o : OpT) : ValidE t o = bif !formedB o then 80 else validE t o:=by
 unfold ValidE
 rw [h]
 rfl
theorem costs_le {n k : Nat} : ∀ {l : List OpT},l.length ≤ k → (∀ o ∈ l,costO o ≤ n) → costs l ≤ k * n
 | [],_,_ => Nat.zero_le _
 | o :: l,hk,h => by
  obtain ⟨k',rfl⟩ : ∃ k',k = k' + 1:=⟨k - 1,by simp at hk;omega⟩
  have:=costs_le (n:=n) (k:=k') (l:=l) (by simpa using hk) fun o' ho => h o' (List.mem_cons_of_mem _ ho)
  have:=h o List.mem_cons_self
  rw [costs,Nat.succ_mul]
  omega
end Bow
/- W43a: ApplyAll, the program's and the reference's. -/
namespace Bow
open Go Go.Proofs
def AllV (r : Tree × Nat × Int) : V:=.tup [nodeV r.1,.int .i64 r.2.1,.int .i64 r.2.2]
theorem allZ (i : Nat) (e : Int) : ∃ y,Wk (.tup [zeroV .nilsl,.int .i64 i,.int .i64 e]) y ∧ y.pureB = true ∧ y = AllV (zeroT0,i,e) :=
 ⟨_,Wk.tup (ys:=[nodeV zeroT0,.int .i64 i,.int .i64 e]) ⟨wk_zero (ss:=[]) (Wk.nil 6),.refl _,.refl _,trivial⟩,rfl,rfl⟩
set_option maxHeartbeats 1000000 in
set_option maxRecDepth 100000 in
theorem w_ApplyAll (t : Tree) (l : List OpT) (hw : t.weight + costs l ≤ 400000) (hl : l.length ≤ 1000000) (hok : ∀ o ∈ l,o.Ok) : Pure Tryz.prog 52 [nodeV t,opsV l] (fun x => x = AllV (AllR t l)):=by
 refine pure_wk (pure_fn 300 Tryz.func52 rfl rfl rfl fun B => ?_)
 show CallThen _ _ _ _ _ _
 refine call_pure (w_RightT t (by omega)) rfl ?_
 rintro x rfl
 refine ⟨fun g => go 300 ?_,fun g => go 300 ?_⟩
 ·have hr : rightT t = false:=by simpa using g
  refine ⟨trivial,rfl,rfl,rfl,?_⟩
  have e : AllR t l = (zeroT0,0,2):=by unfold AllR;rw [hr];rfl
  rw [e]
  exact allZ 0 2
 have hr : rightT t = true:=by simpa using g
 have e : AllR t l = allR t l 0:=by unfold AllR;rw [hr];rfl
 rw [e]
 show Goes _ _ _ _
 refine goes_iter (ι:=Nat × Tree) (fun i => i.1 ≤ l.length ∧ rightT i.2 = true ∧ i.2.weight + costs (l.drop i.1) ≤ 400000 ∧ allR i.2 (l.drop i.1) i.1 = allR t l 0) (fun i => l.length - i.1)
  (fun i => [(16,.int .i64 i.1),(15,.int .i64 (l.map opV).length),(14,opsV l),(1,opsV l),(2,.ptr (.loc 0) 0),(4,.ptr (.loc 1) 0)]) (fun i => [some (.box (nodeV i.2).cells),some (.box (zeroV .nilsl).cells)]) (0,t) 300 (fun _ => rfl) (fun _ => rfl) ⟨⟨Nat.zero_le _,hr,hw,rfl⟩,⟨⟨rfl,rfl⟩,⟨rfl,rfl⟩,⟨rfl,rfl⟩,⟨rfl,rfl⟩,⟨rfl,rfl⟩,⟨rfl,rfl⟩,trivial⟩,⟨⟨rfl,rfl⟩,⟨rfl,rfl⟩,trivial⟩⟩ ?_
 rintro ⟨i,u⟩ ⟨k1,k2,k3,k4⟩ next
 simp only at k1 k2 k3 k4
 refine ⟨fun hlt => go 300 ?_,fun hge => go 300 ?_⟩
 ·have hi : i < l.length:=by simpa using hlt
  have hx : (l.map opV)[i]? = some (opV l[i]):=by simp [hi]
  have ho:=hok _ (List.getElem_mem hi)
  have hvr:=valid_of_right k2 l[i]
  rw [List.drop_eq_getElem_cons hi,allR] at k4
  rw [List.drop_eq_getElem_cons hi,costs] at k3
  refine ⟨Int.natCast_nonneg i,_,hx,?_⟩
  show CallThen _ _ _ _ _ _
  refine call_pure (w_Formed l[i] ho.lt ho.each) rfl ?_
  rintro x rfl
  refine ⟨fun g => go 300 ?_,fun g => go 300 ?_⟩
  ·rw [g] at hvr
   have hvr : ValidE u l[i] = validE u l[i]:=hvr
   show CallThen _ _ _ _ _ _
   refine call_pure (w_valid u l[i] (by omega) ho) rfl ?_
   rintro x rfl
   rw [← hvr]
   by_cases hv : ValidE u l[i] = 0
   ·rw [decide_eq_true hv] at k4
    have hwt:=applyT_weight hv
    refine ⟨fun g => absurd hv (ne_of' g),fun _ => go 300 ?_⟩
    show CallThen _ _ _ _ _ _
    refine call_pure (w_applyT u l[i] (by omega) ho hv) rfl ?_
    rintro x rfl
    refine ⟨by constructor <;> omega,?_⟩
    show Goes _ _ _ _
    exact next (i + 1,applyT u l[i]) _ _ ⟨⟨hi,right_applyT hv,by simp only;omega,k4⟩,by simp only;omega,⟨⟨rfl,rfl⟩,⟨rfl,rfl⟩,⟨rfl,rfl⟩,⟨rfl,rfl⟩,⟨rfl,rfl⟩,⟨rfl,rfl⟩,trivial⟩,⟨⟨rfl,rfl⟩,⟨rfl,rfl⟩,trivial⟩⟩
   ·rw [decide_eq_false hv] at k4
    refine ⟨fun _ => go 300 ?_,fun g => absurd (eq_of' g) hv⟩
    refine ⟨trivial,rfl,rfl,rfl,?_⟩
    rw [← k4]
    exact allZ i (ValidE u l[i])
  ·rw [g] at hvr
   have hvr : ValidE u l[i] = 80:=hvr
   rw [hvr] at k4
   refine ⟨fun _ => go 300 ?_,fun g => absurd (eq_of' g) (by decide)⟩
   refine ⟨trivial,rfl,rfl,rfl,?_⟩
   rw [← k4]
   exact allZ i 80
 ·have hi : i = l.length:=by have:=not_lt_of hge;simp at this;omega
  subst hi
  rw [List.drop_length,allR] at k4
  refine ⟨trivial,rfl,rfl,rfl,?_⟩
  rw [← k4]
  exact ⟨_,Wk.refl _,rfl,by simp [AllV];rfl⟩
end Bow
/- W49: where nodes are behind an operation: shift.moves, of, number, land. -/
namespace Bow
open Go Go.Proofs
set_option maxRecDepth 100000 in
theorem w_moves (o : OpT) (ho : o.Ok) : Pure Tryz.prog 220 [opV o] (fun x => x = .bool (movesO o)):=by
 refine pure_wk (pure_fn 300 Tryz.func220 rfl rfl rfl fun B => ?_)
 show CallThen _ _ _ _ _ _
 refine call_pure (w_Formed o ho.lt ho.each) rfl ?_
 rintro x rfl
 have hW:=w_pathWithin o.path o.to ho.lt.path
 repeat' first
  | (refine ⟨fun _ => go 300 ?_,fun _ => go 300 ?_⟩)
  | (show CallThen _ _ _ _ _ _;refine call_pure hW rfl ?_;rintro z rfl)
  | (refine ⟨trivial,rfl,rfl,rfl,leaf_tt ?_⟩)
  | (refine ⟨trivial,rfl,rfl,rfl,leaf_ff ?_⟩)
  | (refine ⟨trivial,rfl,rfl,rfl,leaf_b ?_⟩)
  | fail
 all_goals (clear hW;simp_all [movesO])
theorem moves_ne {o : OpT} (h : movesO o = true) : o.kind ≠ 1 → o.path ≠ []:=fun hk e => by
 unfold movesO at h
 rw [e,decide_eq_false hk] at h
 simp at h
theorem leaf_i {n m : Int} (h : n = m) : V.int .i64 n = V.int .i64 m:=by rw [h]
def chgV (c : Chg) : V:=.agg [.bool c.takes,.bool c.puts,pathV c.frm,pathV c.to,.int .i64 c.at_,.int .i64 c.gap]
set_option maxRecDepth 100000 in
theorem w_chgOf (o : OpT) (ho : o.Ok) (hne : o.kind ≠ 1 → o.path ≠ []) : Pure Tryz.prog 221 [opV o] (fun x => x = chgV (chgO o)):=by
 refine pure_wk (pure_fn 300 Tryz.func221 rfl rfl rfl fun B => ?_)
 refine ⟨fun g1 => go 300 ?_,fun g1 => go 300 ?_⟩
 ·have hk : o.kind = 1:=eq_of g1
  refine ⟨fun q => absurd hk (ne_of' q),fun _ => go 300 ?_⟩
  have e : chgO o = ⟨!decide (o.kind = 1),!decide (o.kind = 2),[],o.path,0,o.at_⟩:=by unfold chgO;simp [hk]
  rw [e]
  exact ⟨trivial,rfl,rfl,rfl,chgV ⟨!decide (o.kind = 1),!decide (o.kind = 2),[],o.path,0,o.at_⟩,Wk.agg ⟨.refl _,.refl _,Wk.nil 1,.refl _,.refl _,.refl _,trivial⟩,rfl,rfl⟩
 ·have hk : o.kind ≠ 1:=ne_of g1
  refine ⟨fun _ => go 300 ?_,fun q => absurd (eq_of' q) hk⟩
  show CallThen _ _ _ _ _ _
  refine call_pure (w_Parent o.path ho.lt.path (hne hk)) rfl ?_
  rintro x rfl
  have e : chgO o = ⟨!decide (o.kind = 1),!decide (o.kind = 2),o.path.dropLast,o.to,o.path.getLast (hne hk),o.at_⟩:=by unfold chgO;rw [lastP_eq];simp [hk]
  rw [e]
  exact ⟨trivial,rfl,rfl,rfl,_,Wk.refl _,rfl,rfl⟩
set_option maxRecDepth 100000 in
theorem w_number (c : Chg) (p : List Int) (k : Int) (hp : p.length ≤ 1000000) (hk : -1 ≤ k ∧ k ≤ 10000000) : Pure Tryz.prog 223 [chgV c,pathV p,.int .i64 k] (fun x => x = .int .i64 (c.number p k)):=by
 refine pure_fn 300 Tryz.func223 rfl rfl rfl fun B => ?_
 have h1:=w_pathSame p c.frm hp
 have h2:=w_pathSame p c.to hp
 repeat' first
  | (refine ⟨fun _ => go 300 ?_,fun _ => go 300 ?_⟩)
  | (show CallThen _ _ _ _ _ _;refine call_pure h1 rfl ?_;rintro z rfl)
  | (show CallThen _ _ _ _ _ _;refine call_pure h2 rfl ?_;rintro z rfl)
  | (refine ⟨trivial,rfl,rfl,rfl,leaf_i ?_⟩)
  | (refine ⟨by constructor <;> omega,?_⟩)
  | fail
 all_goals (unfold Chg.number;try simp_all)
 all_goals (first | (simp [show ¬ (c.gap ≤ k) by omega,show ¬ (c.at_ < k) by omega];done) | (simp [show ¬ (c.gap ≤ k) by omega];done) | (simp [show ¬ (c.at_ < k) by omega];done))
set_option maxRecDepth 100000 in
theorem w_land (c : Chg) (hp : c.frm.length ≤ 1000000) (hk : -1 ≤ c.gap ∧ c.gap ≤ 10000000) : Pure Tryz.prog 222 [chgV c] (fun x => x = .int .i64 c.land):=by
 refine pure_fn 300 Tryz.func222 rfl rfl rfl fun B => ?_
 have h1:=w_pathSame c.frm c.to hp
 repeat' first
  | (refine ⟨fun _ => go 300 ?_,fun _ => go 300 ?_⟩)
  | (show CallThen _ _ _ _ _ _;refine call_pure h1 rfl ?_;rintro z rfl)
  | (refine ⟨trivial,rfl,rfl,rfl,leaf_i ?_⟩)
  | (refine ⟨by constructor <;> omega,?_⟩)
  | fail
 all_goals (unfold Chg.land;try simp_all)
 all_goals (simp [show ¬ (c.at_ < c.gap) by omega];done)
end Bow
/- W50: where a node is behind an operation: shift.Node. -/
namespace Bow
open Go Go.Proofs
def NodeS (o : OpT) (q : List Int) (x : V) (T : Heap) : Prop :=
  (q = [] ∧ x = .tup [.nilsl, .tt] ∧ T = [some (.box (opV o).cells)]) ∨ (∃ g, x = .tup [.osl (.loc 1) g 0 q.length, .tt] ∧ T = [some (.box (opV o).cells), some (.vec g 1 (q.map intV))])
def NodeM (o : OpT) (q : List Int) (x : V) (T : Heap) : Prop :=
  ∃ g, x = .tup [.osl (.loc 2) g 0 q.length, .tt] ∧ T = [some (.box (opV o).cells), some (.box (chgV (chgO o)).cells), some (.vec g 1 (q.map intV))]
theorem nums_snoc (c : Chg) : ∀ (p q : List Int) (k : Int), c.nums q (p ++ [k]) = c.nums q p ++ [c.number (q ++ p) k]
  | [], q, k => by simp [Chg.nums]
  | x :: p, q, k => by
    rw [List.cons_append, Chg.nums, nums_snoc c p, Chg.nums]
    simp
theorem nums_len (c : Chg) : ∀ (p q : List Int), (c.nums q p).length = p.length
  | [], _ => rfl
  | x :: p, q => by rw [Chg.nums, List.length_cons, nums_len c p, List.length_cons]
theorem nums_take (c : Chg) {p : List Int} {i : Nat} (h : i < p.length) : c.nums [] (p.take (i + 1)) = c.nums [] (p.take i) ++ [c.number (p.take i) p[i]] := by
  rw [List.take_succ_eq_append_getElem h, nums_snoc]
  simp
set_option maxRecDepth 100000 in
theorem w_NodeStay (o : OpT) (p : List Int) (ho : o.Ok) (hp : p.length ≤ 1000000) (hm : movesO o = false) :
    Fun Tryz.prog 207 [] [opV o, pathV p] (NodeS o p) := by
  refine fun_fn 300 Tryz.func207 rfl rfl rfl fun imps B hi => ?_
  have : imps = [] := List.length_eq_zero_iff.1 hi
  subst this
  show CallThen _ _ _ _ _ _
  refine call_pure (w_moves o ho) rfl ?_
  rintro x rfl
  refine ⟨fun g1 => go 300 ?_, fun g1 => absurd hm (by simpa using g1)⟩
  show CallThen _ _ _ _ _ _
  refine call_sub [] (w_CloneInt (p.map intV) (by simpa using hp)) rfl rfl trivial rfl rfl rfl ?_
  rintro x T1 (⟨e, rfl, rfl⟩ | ⟨rfl, rfl⟩)
  · refine ⟨rfl, ?_⟩
    refine ⟨trivial, rfl, rfl, .inl ⟨by simpa using e, rfl, rfl⟩⟩
  · refine ⟨rfl, ?_⟩
    refine ⟨trivial, rfl, rfl, .inr ⟨2, by simp [resV]; rfl, rfl⟩⟩
set_option maxHeartbeats 2000000 in
set_option maxRecDepth 100000 in
theorem w_Node0 (o : OpT) (p : List Int) (ho : o.Ok) (hp : p.length ≤ 1000000) (hpb : ∀ i ∈ p, 0 ≤ i ∧ i ≤ 1048576) (hm : movesO o = true) (hb : ((chgO o).takes && within o.path p) = false) :
    Fun Tryz.prog 207 [] [opV o, pathV p] (NodeM o ((chgO o).nums [] p)) := by
  refine fun_fn 300 Tryz.func207 rfl rfl rfl fun imps B hi => ?_
  have : imps = [] := List.length_eq_zero_iff.1 hi
  subst this
  show CallThen _ _ _ _ _ _
  refine call_pure (w_moves o ho) rfl ?_
  rintro x rfl
  refine ⟨fun g1 => absurd hm (by simpa using g1), fun g1 => go 300 ?_⟩
  have hne : o.kind ≠ 1 → o.path ≠ [] := moves_ne hm
  unfold NodeM
  show CallThen _ _ _ _ _ _
  refine call_pure (w_chgOf o ho hne) rfl ?_
  rintro x rfl
  obtain ⟨c, hc⟩ : ∃ c, chgO o = c := ⟨_, rfl⟩
  rw [hc] at hb ⊢
  rcases Bool.eq_false_or_eq_true c.takes with ht | ht
  · rw [ht, Bool.true_and] at hb
    refine ⟨fun _ => go 300 ?_, fun q => absurd (ht.symm.trans q) (by decide)⟩
    show CallThen _ _ _ _ _ _
    refine call_pure (w_pathWithin o.path p ho.lt.path) rfl ?_
    rintro x rfl
    refine ⟨fun q => absurd (hb.symm.trans q) (by decide), fun _ => go 300 ?_⟩
    show Goes _ _ _ _
    refine goes_own 7 1 rfl ?_
    refine goes_while (ι := Nat × Nat × Nat × List V) (κ := Nat × Nat × List V) (fun i => i.1 ≤ p.length ∧ i.2.2.2 = (c.nums [] (p.take i.1)).map intV ∧ i.2.2.1 = i.1) (fun i => p.length - i.1)
      (fun i => [(9, .int .i64 i.1), (8, .int .i64 0), (7, .osl (.loc 2) i.2.1 0 i.2.2.1), (6, .ptr (.loc 1) 0), (1, pathV p), (2, .ptr (.loc 0) 0)]) (fun i => [some (.box (opV o).cells), some (.box (chgV c).cells), some (.vec i.2.1 1 i.2.2.2)]) (0, 0, 0, [])
      (fun k => k.2.1 = p.length ∧ k.2.2 = (c.nums [] p).map intV) (fun k => [(7, .osl (.loc 2) k.1 0 k.2.1)]) (fun k => [some (.box (opV o).cells), some (.box (chgV c).cells), some (.vec k.1 1 k.2.2)]) 300 (fun _ => rfl) (fun _ => rfl) (fun _ => rfl) (fun _ => rfl) ⟨⟨Nat.zero_le _, rfl, rfl⟩, ⟨⟨rfl, rfl⟩, ⟨rfl, rfl⟩, ⟨rfl, rfl⟩, ⟨rfl, rfl⟩, ⟨rfl, rfl⟩, ⟨rfl, rfl⟩, trivial⟩, ⟨⟨rfl, rfl⟩, ⟨rfl, rfl⟩, ⟨rfl, rfl⟩, trivial⟩⟩ ?_ ?_
    · rintro ⟨g, n, xs⟩ ⟨j1, j2⟩
      simp only at j1 j2
      subst j1 j2
      refine ⟨trivial, rfl, rfl, g, ?_, rfl⟩
      simp [resV, nums_len]
    · rintro ⟨i, g, n, xs⟩ ⟨j1, j2, j3⟩ next post
      simp only at j1 j2 j3
      subst j2
      replace j3 := j3.symm
      subst j3
      refine ⟨fun hlt => go 300 ?_, fun hge => go 300 ?_⟩
      · have hi : i < p.length := by simpa using hlt
        have hx : (p.map intV)[i]? = some (intV p[i]) := by simp [hi]
        have hbd := hpb _ (List.getElem_mem hi)
        have hnum := w_number c (p.take i) p[i] (by simp; omega) ⟨by omega, by omega⟩
        have et : V.sl 1 (((p.map intV).drop (Int.toNat 0)).take (((i : Nat) : Int).toNat - Int.toNat 0)) = pathV (p.take i) := by
          unfold pathV
          simp
        refine ⟨fun q => absurd (lt_of q) (by omega), fun _ => go 300 ?_⟩
        show Goes _ _ _ _
        refine goes_draw 300 ?_
        refine ⟨by decide, Int.natCast_nonneg i, Int.ofNat_le.2 (by simpa using j1), ?_⟩
        refine ⟨Int.natCast_nonneg i, _, hx, ?_⟩
        have hnum' := hnum
        rw [← et] at hnum'
        refine ⟨_, hnum', rfl, ?_⟩
        have hcl : (c.nums [] (p.take i)).length = i := by rw [nums_len]; simp; omega
        refine ⟨rfl, ⟨rfl, trivial⟩, ?_⟩
        refine ⟨rfl, rfl, rfl, rfl, by simp [hcl], room_of (by simp [hcl]; omega) (by decide), ?_⟩
        refine ⟨by kernel_rfl, ?_⟩
        try refine ⟨by kernel_rfl, ?_⟩
        refine ⟨⟨by omega, by omega⟩, ?_⟩
        refine next (i + 1, bump g, i + 1, (c.nums [] (p.take i)).map intV ++ [intV (c.number (p.take i) p[i])]) _ _ ⟨⟨hi, ?_, rfl⟩, ?_, ?_, ?_⟩
        · simp only
          rw [nums_take c hi, List.map_append]
          rfl
        · simp only; omega
        · refine ⟨⟨rfl, rfl⟩, ⟨rfl, rfl⟩, ⟨?_, rfl⟩, ⟨rfl, rfl⟩, ⟨rfl, rfl⟩, ⟨rfl, rfl⟩, trivial⟩
          simp [hcl]
          rfl
        · refine ⟨⟨rfl, rfl⟩, ⟨rfl, rfl⟩, ⟨?_, rfl⟩, trivial⟩
          rfl
      · have hi : i = p.length := by have : p.length ≤ i := by simpa using hge
                                     omega
        subst hi
        rw [List.take_length]
        exact post (g, _, _) _ _ _ rfl ⟨⟨rfl, rfl⟩, ⟨⟨rfl, rfl⟩, trivial⟩, ⟨⟨rfl, rfl⟩, ⟨rfl, rfl⟩, ⟨rfl, rfl⟩, trivial⟩⟩
  · refine ⟨fun q => absurd (ht.symm.trans q) (by decide), fun _ => go 300 ?_⟩
    show Goes _ _ _ _
    refine goes_own 7 1 rfl ?_
    refine goes_while (ι := Nat × Nat × Nat × List V) (κ := Nat × Nat × List V) (fun i => i.1 ≤ p.length ∧ i.2.2.2 = (c.nums [] (p.take i.1)).map intV ∧ i.2.2.1 = i.1) (fun i => p.length - i.1)
      (fun i => [(9, .int .i64 i.1), (8, .int .i64 0), (7, .osl (.loc 2) i.2.1 0 i.2.2.1), (6, .ptr (.loc 1) 0), (1, pathV p), (2, .ptr (.loc 0) 0)]) (fun i => [some (.box (opV o).cells), some (.box (chgV c).cells), some (.vec i.2.1 1 i.2.2.2)]) (0, 0, 0, [])
      (fun k => k.2.1 = p.length ∧ k.2.2 = (c.nums [] p).map intV) (fun k => [(7, .osl (.loc 2) k.1 0 k.2.1)]) (fun k => [some (.box (opV o).cells), some (.box (chgV c).cells), some (.vec k.1 1 k.2.2)]) 300 (fun _ => rfl) (fun _ => rfl) (fun _ => rfl) (fun _ => rfl) ⟨⟨Nat.zero_le _, rfl, rfl⟩, ⟨⟨rfl, rfl⟩, ⟨rfl, rfl⟩, ⟨rfl, rfl⟩, ⟨rfl, rfl⟩, ⟨rfl, rfl⟩, ⟨rfl, rfl⟩, trivial⟩, ⟨⟨rfl, rfl⟩, ⟨rfl, rfl⟩, ⟨rfl, rfl⟩, trivial⟩⟩ ?_ ?_
    · rintro ⟨g, n, xs⟩ ⟨j1, j2⟩
      simp only at j1 j2
      subst j1 j2
      refine ⟨trivial, rfl, rfl, g, ?_, rfl⟩
      simp [resV, nums_len]
    · rintro ⟨i, g, n, xs⟩ ⟨j1, j2, j3⟩ next post
      simp only at j1 j2 j3
      subst j2
      replace j3 := j3.symm
      subst j3
      refine ⟨fun hlt => go 300 ?_, fun hge => go 300 ?_⟩
      · have hi : i < p.length := by simpa using hlt
        have hx : (p.map intV)[i]? = some (intV p[i]) := by simp [hi]
        have hbd := hpb _ (List.getElem_mem hi)
        have hnum := w_number c (p.take i) p[i] (by simp; omega) ⟨by omega, by omega⟩
        have et : V.sl 1 (((p.map intV).drop (Int.toNat 0)).take (((i : Nat) : Int).toNat - Int.toNat 0)) = pathV (p.take i) := by
          unfold pathV
          simp
        refine ⟨fun q => absurd (lt_of q) (by omega), fun _ => go 300 ?_⟩
        show Goes _ _ _ _
        refine goes_draw 300 ?_
        refine ⟨by decide, Int.natCast_nonneg i, Int.ofNat_le.2 (by simpa using j1), ?_⟩
        refine ⟨Int.natCast_nonneg i, _, hx, ?_⟩
        have hnum' := hnum
        rw [← et] at hnum'
        refine ⟨_, hnum', rfl, ?_⟩
        have hcl : (c.nums [] (p.take i)).length = i := by rw [nums_len]; simp; omega
        refine ⟨rfl, ⟨rfl, trivial⟩, ?_⟩
        refine ⟨rfl, rfl, rfl, rfl, by simp [hcl], room_of (by simp [hcl]; omega) (by decide), ?_⟩
        refine ⟨by kernel_rfl, ?_⟩
        try refine ⟨by kernel_rfl, ?_⟩
        refine ⟨⟨by omega, by omega⟩, ?_⟩
        refine next (i + 1, bump g, i + 1, (c.nums [] (p.take i)).map intV ++ [intV (c.number (p.take i) p[i])]) _ _ ⟨⟨hi, ?_, rfl⟩, ?_, ?_, ?_⟩
        · simp only
          rw [nums_take c hi, List.map_append]
          rfl
        · simp only; omega
        · refine ⟨⟨rfl, rfl⟩, ⟨rfl, rfl⟩, ⟨?_, rfl⟩, ⟨rfl, rfl⟩, ⟨rfl, rfl⟩, ⟨rfl, rfl⟩, trivial⟩
          simp [hcl]
          rfl
        · refine ⟨⟨rfl, rfl⟩, ⟨rfl, rfl⟩, ⟨?_, rfl⟩, trivial⟩
          rfl
      · have hi : i = p.length := by have : p.length ≤ i := by simpa using hge
                                     omega
        subst hi
        rw [List.take_length]
        exact post (g, _, _) _ _ _ rfl ⟨⟨rfl, rfl⟩, ⟨⟨rfl, rfl⟩, trivial⟩, ⟨⟨rfl, rfl⟩, ⟨rfl, rfl⟩, ⟨rfl, rfl⟩, trivial⟩⟩
end Bow
/- W51: shift.Node, all; Gap; Undo. -/
namespace Bow
open Go Go.Proofs
theorem moves_parts {o : OpT} (h : movesO o = true) : formedB o = true ∧ (o.kind = 1 ∨ (o.kind = 2 ∧ o.path ≠ []) ∨ (o.kind = 3 ∧ o.path ≠ [] ∧ within o.path o.to = false)) := by
  have hne := moves_ne h
  unfold movesO at h
  rw [Bool.and_eq_true] at h
  refine ⟨h.1, ?_⟩
  have h2 := h.2
  by_cases k1 : o.kind = 1
  · exact .inl k1
  · by_cases k2 : o.kind = 2
    · exact .inr (.inl ⟨k2, hne k1⟩)
    · rw [decide_eq_false k1, decide_eq_false k2] at h2
      by_cases k3 : o.kind = 3
      · rw [decide_eq_true k3] at h2
        simp only [cond_false, cond_true, Bool.and_eq_true, Bool.not_eq_true'] at h2
        exact .inr (.inr ⟨k3, hne k1, h2.2⟩)
      · rw [decide_eq_false k3] at h2
        cases h2
theorem may_len {p : List Int} (h : mayP p = true) : p.length ≤ 64 := by
  unfold mayP at h
  rw [Bool.and_eq_true] at h
  exact of_decide_eq_true h.1
theorem formed_gap {o : OpT} (hf : formedB o = true) (hk : o.kind = 1 ∨ o.kind = 3) : 0 ≤ o.at_ ∧ o.at_ ≤ 1048576 := by
  unfold formedB at hf
  rw [Bool.and_eq_true] at hf
  have hf2 := hf.2
  rcases hk with hk | hk
  · simp only [hk] at hf2
    have hf3 : (gapOk o.at_ && decide ((o.label.length : Int) ≤ 64)) = true := hf2
    unfold gapOk at hf3
    simp only [Bool.and_eq_true, decide_eq_true_eq] at hf3
    exact hf3.1
  · simp only [hk] at hf2
    have hf3 : (gapOk o.at_ && mayP o.to) = true := hf2
    unfold gapOk at hf3
    simp only [Bool.and_eq_true, decide_eq_true_eq] at hf3
    exact hf3.1
def nodeRV : Option (List Int) → V
  | none => .tup [pathV [], .ff]
  | some q => .tup [pathV q, .tt]
set_option maxHeartbeats 4000000 in
set_option maxRecDepth 100000 in
theorem w_NodeT (o : OpT) (p : List Int) (ho : o.Ok) (hp : p.length ≤ 1000) (_hpb : ∀ i ∈ p, 0 ≤ i ∧ i ≤ 1048576) (hm : movesO o = true) (hb : ((chgO o).takes && within o.path p) = true) :
    Pure Tryz.prog 207 [opV o, pathV p] (fun x => x = nodeRV (nodeP o p)) := by
  simp only [Bool.and_eq_true] at hb
  obtain ⟨ht, hwi⟩ := hb
  obtain ⟨hf, hkk⟩ := moves_parts hm
  have hpl := may_step (formed_path hf)
  have hwl := within_len hwi
  refine pure_wk (pure_fn 300 Tryz.func207 rfl rfl rfl fun B => ?_)
  show CallThen _ _ _ _ _ _
  refine call_pure (w_moves o ho) rfl ?_
  rintro x rfl
  refine ⟨fun g1 => absurd hm (by simpa using g1), fun g1 => go 300 ?_⟩
  show CallThen _ _ _ _ _ _
  refine call_pure (w_chgOf o ho (moves_ne hm)) rfl ?_
  rintro x rfl
  refine ⟨fun _ => go 300 ?_, fun q => absurd (ht.symm.trans q) (by decide)⟩
  show CallThen _ _ _ _ _ _
  refine call_pure (w_pathWithin o.path p ho.lt.path) rfl ?_
  rintro x rfl
  refine ⟨fun _ => go 300 ?_, fun q => absurd (hwi.symm.trans q) (by decide)⟩
  rcases Bool.eq_false_or_eq_true (chgO o).puts with hq | hq
  case inr =>
    have e : nodeP o p = none := by unfold nodeP; rw [hm, ht, hwi, hq]; rfl
    rw [e]
    refine ⟨fun _ => go 300 ?_, fun q => absurd q (by rw [hq]; simp)⟩
    exact ⟨trivial, rfl, rfl, rfl, nodeRV none, Wk.tup ⟨Wk.nil 1, .refl _, trivial⟩, rfl, rfl⟩
  have e : nodeP o p = some ((chgO o).nums [] o.to ++ [(chgO o).land] ++ p.drop o.path.length) := by unfold nodeP; rw [hm, ht, hwi, hq]; rfl
  rw [e]
  refine ⟨fun q => absurd q (by rw [hq]; simp), fun _ => go 300 ?_⟩
  have hk3 : o.kind = 3 ∧ o.path ≠ [] ∧ within o.path o.to = false := by
    rcases hkk with k | ⟨k, _⟩ | h
    · unfold chgO at ht; simp [k] at ht
    · unfold chgO at hq; simp [k] at hq
    · exact h
  obtain ⟨hk3, hne, hwt⟩ := hk3
  have htl := may_step (good_to hf hk3)
  have htn : o.to.length ≤ 64 := may_len (good_to hf hk3)
  have hgap := formed_gap hf (.inr hk3)
  have hrec := w_Node0 o o.to ho (by omega) htl hm (by rw [hwt]; simp)
  have hpos : 0 < o.path.length := List.length_pos_iff.2 hne
  have hcf : (chgO o).frm.length ≤ 1000000 := by unfold chgO; simp [hk3]; have := ho.lt.path; omega
  have hcg : (chgO o).gap = o.at_ := rfl
  have hland := w_land (chgO o) hcf ⟨by rw [hcg]; omega, by rw [hcg]; omega⟩
  unfold NodeM at hrec
  obtain ⟨c, hc⟩ : ∃ c, chgO o = c := ⟨_, rfl⟩
  rw [hc] at hrec hland ⊢
  show CallThen _ _ _ _ _ _
  refine call_sub [] hrec rfl rfl trivial rfl rfl rfl ?_
  rintro x T1 ⟨G, rfl, rfl⟩
  refine ⟨rfl, ?_⟩
  show CallThen _ _ _ _ _ _
  refine call_pure hland rfl ?_
  rintro x rfl
  refine ⟨⟨rfl, trivial⟩, rfl, rfl, rfl, by simp, room_of (by simp [nums_len]; omega) (by decide), ?_⟩
  show Goes _ _ _ _
  refine goes_while (ι := Nat × Nat × Nat × List V) (κ := Nat × Nat × List V) (fun i => o.path.length ≤ i.1 ∧ i.1 ≤ p.length ∧ ∃ acc : List Int, i.2.2.2 = acc.map intV ∧ i.2.2.1 = acc.length ∧ acc.length ≤ 1000 + i.1 ∧ acc ++ p.drop i.1 = c.nums [] o.to ++ [c.land] ++ p.drop o.path.length) (fun i => p.length - i.1)
    (fun i => [(9, .int .i64 i.1), (8, .int .i64 (o.path.map intV).length), (7, .osl (.loc 4) i.2.1 0 i.2.2.1), (6, .ptr (.loc 1) 0), (1, pathV p), (2, .ptr (.loc 0) 0)]) (fun i => [some (.box (opV o).cells), some (.box (chgV c).cells), some (.box (opV o).cells), some (.box (chgV c).cells), some (.vec i.2.1 1 i.2.2.2)]) ((o.path.map intV).length, bump G, _, _)
    (fun k => ∃ acc : List Int, k.2.2 = acc.map intV ∧ k.2.1 = acc.length ∧ acc = c.nums [] o.to ++ [c.land] ++ p.drop o.path.length) (fun k => [(7, .osl (.loc 4) k.1 0 k.2.1)]) (fun k => [some (.box (opV o).cells), some (.box (chgV c).cells), some (.box (opV o).cells), some (.box (chgV c).cells), some (.vec k.1 1 k.2.2)]) 300 (fun _ => rfl) (fun _ => rfl) (fun _ => rfl) (fun _ => rfl) ⟨⟨by simp, by simpa using hwl, c.nums [] o.to ++ [c.land], by simp [intV], by simp, by simp [nums_len]; omega, by simp⟩, ⟨⟨rfl, rfl⟩, ⟨rfl, rfl⟩, ⟨rfl, rfl⟩, ⟨rfl, rfl⟩, ⟨rfl, rfl⟩, ⟨rfl, rfl⟩, trivial⟩, ⟨⟨rfl, rfl⟩, ⟨rfl, rfl⟩, ⟨rfl, rfl⟩, ⟨rfl, rfl⟩, ⟨rfl, rfl⟩, trivial⟩⟩ ?_ ?_
  · rintro ⟨g, n, xs⟩ ⟨acc, h1, h2, h3⟩
    simp only at h1 h2 h3
    subst h1 h2 h3
    exact ⟨trivial, rfl, rfl, rfl, by simp, rfl, nodeRV (some _), Wk.refl _, rfl, rfl⟩
  · rintro ⟨i, g, n, xs⟩ ⟨j0, j1, acc, j4, j5, j2, j3⟩ next post
    simp only at j0 j1 j2 j3 j4 j5
    subst j4
    subst j5
    refine ⟨fun hlt => go 300 ?_, fun hge => go 300 ?_⟩
    · have hi : i < p.length := by simpa using hlt
      have hx : (p.map intV)[i]? = some (intV p[i]) := by simp [hi]
      rw [List.drop_eq_getElem_cons hi] at j3
      refine ⟨fun _ => go 300 ?_, fun q => absurd (not_lt_of q) (by simp; omega)⟩
      refine ⟨Int.natCast_nonneg i, _, hx, ⟨rfl, trivial⟩, rfl, rfl, rfl, by simp, room_of (by simp; omega) (by decide), ?_⟩
      refine ⟨by constructor <;> omega, ?_⟩
      show Goes _ _ _ _
      refine next (i + 1, bump g, _, _) _ _ ⟨⟨by simp only; omega, hi, acc ++ [p[i]], ?_, ?_, ?_, ?_⟩, ?_, ⟨⟨rfl, rfl⟩, ⟨rfl, rfl⟩, ⟨rfl, rfl⟩, ⟨rfl, rfl⟩, ⟨rfl, rfl⟩, ⟨rfl, rfl⟩, trivial⟩, ⟨⟨rfl, rfl⟩, ⟨rfl, rfl⟩, ⟨rfl, rfl⟩, ⟨rfl, rfl⟩, ⟨rfl, rfl⟩, trivial⟩⟩
      · simp [intV]
      · simp
      · simp; omega
      · rw [← j3]; simp
      · simp only; omega
    · have hi : i = p.length := by have : p.length ≤ i := by simpa using hge
                                   omega
      subst hi
      rw [List.drop_length, List.append_nil] at j3
      exact post (g, _, _) _ _ _ rfl ⟨⟨acc, rfl, rfl, j3⟩, ⟨⟨rfl, rfl⟩, trivial⟩, ⟨⟨rfl, rfl⟩, ⟨rfl, rfl⟩, ⟨rfl, rfl⟩, ⟨rfl, rfl⟩, ⟨rfl, rfl⟩, trivial⟩⟩
theorem w_Node (o : OpT) (p : List Int) (ho : o.Ok) (hp : p.length ≤ 1000) (hpb : ∀ i ∈ p, 0 ≤ i ∧ i ≤ 1048576) : Pure Tryz.prog 207 [opV o, pathV p] (fun x => x = nodeRV (nodeP o p)) := by
  rcases Bool.eq_false_or_eq_true (movesO o) with hm | hm
  · rcases Bool.eq_false_or_eq_true ((chgO o).takes && within o.path p) with hb | hb
    · exact w_NodeT o p ho hp hpb hm hb
    · have e : nodeP o p = some ((chgO o).nums [] p) := by unfold nodeP; simp only [hm, hb]; rfl
      rw [e]
      refine pure_wk (pure_of_fun (Fun.mono (w_Node0 o p ho (by omega) hpb hm hb) fun x T h => ?_))
      obtain ⟨g, rfl, rfl⟩ := h
      exact ⟨rfl, by simp, rfl, nodeRV (some _), Wk.refl _, rfl, rfl⟩
  · have e : nodeP o p = some p := by unfold nodeP; rw [hm]; rfl
    rw [e]
    refine pure_wk (pure_of_fun (Fun.mono (w_NodeStay o p ho (by omega) hm) fun x T h => ?_))
    rcases h with ⟨rfl, rfl, rfl⟩ | ⟨g, rfl, rfl⟩
    · exact ⟨rfl, nodeRV (some []), Wk.tup ⟨Wk.nil 1, .refl _, trivial⟩, rfl, rfl⟩
    · exact ⟨rfl, by simp, rfl, nodeRV (some _), Wk.refl _, rfl, rfl⟩
end Bow
/- W52: shift.Gap, Undo; square.sound, drop, shifted, won. -/
namespace Bow
open Go Go.Proofs
def gapV (r : List Int × Int × Bool) : V:=.tup [pathV r.1,.int .i64 r.2.1,.bool r.2.2]
theorem gap_leaf {q : List Int} {n : Int} {r : List Int × Int × Bool} (h : r = (q,n,true)) : ∃ y,Wk (.tup [pathV q,.int .i64 n,.tt]) y ∧ y.pureB = true ∧ y = gapV r:=by
 subst h
 exact ⟨gapV (q,n,true),Wk.tup ⟨.refl _,.refl _,Wk.tt,trivial⟩,rfl,rfl⟩
set_option maxHeartbeats 4000000 in
set_option maxRecDepth 100000 in
theorem w_Gap (a : OpT) (p : List Int) (at_ : Int) (first : Bool) (ho : a.Ok) (hp : p.length ≤ 1000) (hpb : ∀ i ∈ p,0 ≤ i ∧ i ≤ 1048576) (hat : 0 ≤ at_ ∧ at_ ≤ 10000000) :
  Pure Tryz.prog 226 [opV a,pathV p,.int .i64 at_,.bool first] (fun x => x = gapV (gapP a p at_ first)):=by
 refine pure_wk (pure_fn 300 Tryz.func226 rfl rfl rfl fun B => ?_)
 show CallThen _ _ _ _ _ _
 refine call_pure (w_Node a p ho hp hpb) rfl ?_
 rintro x rfl
 have hmv:=w_moves a ho
 cases hn : nodeP a p with
 | none =>
  have e : gapP a p at_ first = ([],0,false):=by unfold gapP;rw [hn]
  rw [e]
  exact ⟨trivial,rfl,rfl,rfl,gapV ([],0,false),Wk.tup ⟨.refl _,.refl _,Wk.ff,trivial⟩,rfl,rfl⟩
 | some q =>
  show CallThen _ _ _ _ _ _
  refine call_pure hmv rfl ?_
  rintro x rfl
  refine ⟨fun g1 => go 300 ?_,fun g1 => go 300 ?_⟩
  ·have hm : movesO a = false:=by simpa using g1
   refine ⟨trivial,rfl,rfl,rfl,gap_leaf ?_⟩
   unfold gapP
   rw [hn,hm]
   rfl
  have hm : movesO a = true:=by simpa using g1
  show CallThen _ _ _ _ _ _
  refine call_pure (w_chgOf a ho (moves_ne hm)) rfl ?_
  rintro x rfl
  have e : gapP a p at_ first = (q,(bif (chgO a).takes && (decide ((chgO a).at_ < at_) && decide (p = (chgO a).frm)) then at_ - 1 else at_) + (bif (chgO a).puts && (decide (p = (chgO a).to) && (decide ((chgO a).gap < at_) || (decide (at_ = (chgO a).gap) && !first))) then 1 else 0),true):=by
   unfold gapP
   rw [hn,hm]
   rfl
  rw [e]
  obtain ⟨c,hc⟩ : ∃ c,chgO a = c:=⟨_,rfl⟩
  rw [hc]
  have h1:=w_pathSame p c.frm (by omega)
  have h2:=w_pathSame p c.to (by omega)
  repeat' first
   | (refine ⟨fun _ => go 300 ?_,fun _ => go 300 ?_⟩)
   | (show CallThen _ _ _ _ _ _;refine call_pure h1 rfl ?_;rintro z rfl)
   | (show CallThen _ _ _ _ _ _;refine call_pure h2 rfl ?_;rintro z rfl)
   | (refine ⟨trivial,rfl,rfl,rfl,gap_leaf ?_⟩)
   | (refine ⟨by constructor <;> omega,?_⟩)
   | fail
  all_goals (clear hmv h1 h2 e;simp_all)
  all_goals ((try simp only [Bool.cond_decide]);(repeat' split) <;> first | omega | (simp_all;done) | skip)
  all_goals (first | (simp [show ¬ (c.at_ < at_) by omega];done) | (simp [show ¬ (c.at_ < c.gap) by omega];done) | (simp [show ¬ (c.at_ < at_) by omega,show ¬ (c.gap < at_) by omega];done))
theorem wk_zeroOp : Wk (.agg [.int .u8 0,.nilsl,.int .i64 0,.nilsl,.int .u64 0,.ff,.str [],.str [],.str [],.ff,.nilsl]) (opV (noOp 0)) :=
 Wk.agg ⟨.refl _,Wk.nil 1,.refl _,Wk.nil 1,.refl _,Wk.ff,.refl _,.refl _,.refl _,Wk.ff,Wk.nil 3,trivial⟩
set_option maxRecDepth 100000 in
theorem w_sound (o : OpT) (ho : o.Ok) : Pure Tryz.prog 201 [opV o] (fun x => x = .bool (soundO o)):=by
 refine pure_wk (pure_fn 300 Tryz.func201 rfl rfl rfl fun B => ?_)
 show CallThen _ _ _ _ _ _
 refine call_pure (w_Formed o ho.lt ho.each) rfl ?_
 rintro x rfl
 have hW:=w_pathWithin o.path o.to ho.lt.path
 repeat' first
  | (refine ⟨fun _ => go 300 ?_,fun _ => go 300 ?_⟩)
  | (show CallThen _ _ _ _ _ _;refine call_pure hW rfl ?_;rintro z rfl)
  | (refine ⟨trivial,rfl,rfl,rfl,leaf_tt ?_⟩)
  | (refine ⟨trivial,rfl,rfl,rfl,leaf_ff ?_⟩)
  | (refine ⟨trivial,rfl,rfl,rfl,leaf_b ?_⟩)
  | fail
 all_goals (unfold soundO;simp_all)
theorem w_drop (p : List Int) : Pure Tryz.prog 208 [pathV p] (fun x => x = opV (dropO p)):=by
 refine pure_wk (pure_fn 300 Tryz.func208 rfl rfl rfl fun B => ?_)
 exact ⟨trivial,rfl,rfl,rfl,opV (dropO p),Wk.agg ⟨.refl _,.refl _,.refl _,Wk.nil 1,.refl _,Wk.ff,.refl _,.refl _,.refl _,Wk.ff,Wk.nil 3,trivial⟩,rfl,rfl⟩
set_option maxRecDepth 100000 in
theorem w_won (b a : OpT) (ha : a.Ok) : Pure Tryz.prog 209 [opV b,opV a] (fun x => x = .bool (wonO b a)):=by
 refine pure_wk (pure_fn 300 Tryz.func209 rfl rfl rfl fun B => ?_)
 have h1:=w_pathSame a.path b.path ha.lt.path
 repeat' first
  | (refine ⟨fun _ => go 300 ?_,fun _ => go 300 ?_⟩)
  | (show CallThen _ _ _ _ _ _;refine call_pure h1 rfl ?_;rintro z rfl)
  | (refine ⟨trivial,rfl,rfl,rfl,leaf_tt ?_⟩)
  | (refine ⟨trivial,rfl,rfl,rfl,leaf_ff ?_⟩)
  | (refine ⟨trivial,rfl,rfl,rfl,leaf_b ?_⟩)
  | fail
 all_goals (unfold wonO;simp_all)
theorem nodeRV_get {r : Option (List Int)} : ∃ b : V,nodeRV r = .tup [pathV (r.getD []),b] ∧ (b = .tt ∨ b = .ff):=by
 cases r with
 | none => exact ⟨.ff,rfl,.inr rfl⟩
 | some q => exact ⟨.tt,rfl,.inl rfl⟩
set_option maxHeartbeats 4000000 in
set_option maxRecDepth 100000 in
theorem w_shifted (b a : OpT) (prior : Bool) (ha : a.Ok) (_hb : b.Ok) (hf : formedB b = true) :
  Pure Tryz.prog 212 [opV b,opV a,.bool prior] (fun x => x = opV (shiftedO b a prior)):=by
 have hpl:=may_len (formed_path hf)
 have hps:=may_step (formed_path hf)
 refine pure_fn 300 Tryz.func212 rfl rfl rfl fun B => ?_
 show CallThen _ _ _ _ _ _
 refine call_pure (w_Node a b.path ha (by omega) hps) rfl ?_
 rintro x rfl
 obtain ⟨v,e,hv⟩:=nodeRV_get (r:=nodeP a b.path)
 rw [e]
 rcases hv with rfl | rfl
 all_goals
  refine ⟨fun g1 => go 300 ?_,fun g1 => go 300 ?_⟩
  ·have hk : b.kind = 1:=eq_of g1
   have hg:=formed_gap hf (.inl hk)
   show CallThen _ _ _ _ _ _
   refine call_pure (w_Gap a b.path b.at_ prior ha (by omega) hps ⟨by omega,by omega⟩) rfl ?_
   rintro x rfl
   refine ⟨trivial,rfl,rfl,rfl,?_⟩
   unfold shiftedO
   rw [decide_eq_true hk]
   rfl
  have hk1 : b.kind ≠ 1:=ne_of g1
  refine ⟨fun g2 => go 300 ?_,fun g2 => go 300 ?_⟩
  ·have hk : b.kind = 3:=eq_of g2
   have hg:=formed_gap hf (.inr hk)
   have htl:=may_len (good_to hf hk)
   have hts:=may_step (good_to hf hk)
   show CallThen _ _ _ _ _ _
   refine call_pure (w_Gap a b.to b.at_ prior ha (by omega) hts ⟨by omega,by omega⟩) rfl ?_
   rintro x rfl
   refine ⟨trivial,rfl,rfl,rfl,?_⟩
   unfold shiftedO
   rw [decide_eq_false hk1,decide_eq_true hk]
   rfl
  ·have hk3 : b.kind ≠ 3:=ne_of g2
   refine ⟨trivial,rfl,rfl,rfl,?_⟩
   unfold shiftedO
   rw [decide_eq_false hk1,decide_eq_false hk3]
   rfl
set_option maxHeartbeats 4000000 in
set_option maxRecDepth 100000 in
theorem w_UndoM (o : OpT) (ho : o.Ok) : Pure Tryz.prog 211 [opV o] (fun x => x = opV (undoO o)):=by
 refine pure_wk (pure_fn 300 Tryz.func211 rfl rfl rfl fun B => ?_)
 have z : undoO o = noOp 0 → ∃ y,Wk (.agg [.int .u8 0,.nilsl,.int .i64 0,.nilsl,.int .u64 0,.ff,.str [],.str [],.str [],.ff,.nilsl]) y ∧ y.pureB = true ∧ y = opV (undoO o):=fun h => ⟨opV (noOp 0),wk_zeroOp,rfl,by rw [h]⟩
 refine ⟨fun g1 => go 300 ?_,fun g1 => go 300 ?_⟩
 ·have hk : o.kind ≠ 3:=ne_of' g1
  exact ⟨trivial,rfl,rfl,rfl,z (by unfold undoO;rw [decide_eq_false hk];rfl)⟩
 have hk : o.kind = 3:=eq_of' g1
 show CallThen _ _ _ _ _ _
 refine call_pure (w_moves o ho) rfl ?_
 rintro x rfl
 refine ⟨fun g2 => go 300 ?_,fun g2 => go 300 ?_⟩
 ·have hm : movesO o = false:=by simpa using g2
  exact ⟨trivial,rfl,rfl,rfl,z (by unfold undoO;rw [hm];simp)⟩
 have hm : movesO o = true:=by simpa using g2
 obtain ⟨hf,hkk⟩:=moves_parts hm
 have hpl:=may_len (formed_path hf)
 have hps:=may_step (formed_path hf)
 have hfrm : (chgO o).frm = o.path.dropLast:=by unfold chgO;simp [hk]
 have hfs : ∀ i ∈ (chgO o).frm,0 ≤ i ∧ i ≤ 1048576:=fun i hi => hps i (by rw [hfrm] at hi;exact List.dropLast_subset _ hi)
 have hfl : (chgO o).frm.length ≤ 1000:=by rw [hfrm];simp;omega
 have hgap:=formed_gap hf (.inr hk)
 have hne:=moves_ne hm (by rw [hk];decide)
 have hat : 0 ≤ (chgO o).at_ ∧ (chgO o).at_ ≤ 1048576:=by
  have : (chgO o).at_ = lastP o.path:=by unfold chgO;simp [hk]
  rw [this,← lastP_eq hne]
  exact hps _ (List.getLast_mem hne)
 have hcg : (chgO o).gap = o.at_:=rfl
 have hland:=w_land (chgO o) (by omega) ⟨by rw [hcg];omega,by rw [hcg];omega⟩
 show CallThen _ _ _ _ _ _
 refine call_pure (w_chgOf o ho (moves_ne hm)) rfl ?_
 rintro x rfl
 show CallThen _ _ _ _ _ _
 refine call_pure (w_Node o o.path ho (by omega) hps) rfl ?_
 rintro x rfl
 obtain ⟨v,e,hv⟩:=nodeRV_get (r:=nodeP o o.path)
 rw [e]
 have fin : ∀ n : Int,n = (chgO o).at_ + (bif decide ((chgO o).frm = (chgO o).to) && decide ((chgO o).land < (chgO o).at_) then 1 else 0) →
   ∃ y,Wk (.agg [.int .u8 3,pathV ((nodeP o o.path).getD []),.int .i64 n,pathV ((nodeP o (chgO o).frm).getD []),.int .u64 0,.ff,.str [],.str [],.str [],.ff,.nilsl]) y ∧ y.pureB = true ∧ y = opV (undoO o):=fun n hn =>
  ⟨opV (undoO o),by
   have : undoO o = { noOp 3 with path:=(nodeP o o.path).getD [],to:=(nodeP o (chgO o).frm).getD [],at_:=n }:=by unfold undoO;rw [decide_eq_true hk,hm,hn];rfl
   rw [this]
   exact Wk.agg ⟨.refl _,.refl _,.refl _,.refl _,.refl _,Wk.ff,.refl _,.refl _,.refl _,Wk.ff,Wk.nil 3,trivial⟩,rfl,rfl⟩
 rcases hv with rfl | rfl
 all_goals
  show CallThen _ _ _ _ _ _
  refine call_pure (w_Node o (chgO o).frm ho hfl hfs) rfl ?_
  rintro x rfl
  obtain ⟨v2,e2,hv2⟩:=nodeRV_get (r:=nodeP o (chgO o).frm)
  rw [e2]
  rcases hv2 with rfl | rfl
  all_goals
   show CallThen _ _ _ _ _ _
   refine call_pure (w_pathSame (chgO o).frm (chgO o).to (by omega)) rfl ?_
   rintro x rfl
   refine ⟨fun q1 => go 300 ?_,fun q1 => go 300 ?_⟩
   ·show CallThen _ _ _ _ _ _
    refine call_pure hland rfl ?_
    rintro x rfl
    refine ⟨fun q2 => go 300 ?_,fun q2 => go 300 ?_⟩
    ·refine ⟨by constructor <;> omega,?_⟩
     exact ⟨trivial,rfl,rfl,rfl,fin _ (by rw [q1,q2];rfl)⟩
    ·exact ⟨trivial,rfl,rfl,rfl,fin _ (by rw [q1,q2];simp)⟩
   ·exact ⟨trivial,rfl,rfl,rfl,fin _ (by rw [q1];simp)⟩
end Bow
/- W53: square.row (but for two edits), Behind, Both. -/
namespace Bow
open Go Go.Proofs
theorem nodeP_len (o : OpT) (p : List Int) : ((nodeP o p).getD []).length ≤ p.length + o.to.length + 1:=by
 unfold nodeP
 cases movesO o with
 | false => simp;omega
 | true =>
  cases (chgO o).takes && within o.path p with
  | false => simp [nums_len];omega
  | true =>
   cases (chgO o).puts with
   | false => simp
   | true => simp [nums_len];omega
theorem gapP_len (o : OpT) (p : List Int) (n : Int) (f : Bool) : (gapP o p n f).1.length ≤ p.length + o.to.length + 1:=by
 have h:=nodeP_len o p
 unfold gapP
 cases hn : nodeP o p with
 | none => simp
 | some q =>
  rw [hn] at h
  simp only [Option.getD_some] at h
  cases movesO o <;> simpa using h
theorem drop_ok {p : List Int} (h : p.length ≤ 1000000) : (dropO p).Ok:=⟨⟨h,Nat.zero_le _,Nat.zero_le _,Nat.zero_le _,Nat.zero_le _,Nat.zero_le _⟩,Nat.zero_le _⟩
theorem shifted_ok {b a : OpT} {prior : Bool} (_ha : a.Ok) (hb : b.Ok) (hp : b.path.length ≤ 1000) (ht : b.to.length ≤ 1000) (hat : a.to.length ≤ 1000) : (shiftedO b a prior).Ok:=by
 have h1:=nodeP_len a b.path
 have h2:=gapP_len a b.to b.at_ prior
 unfold shiftedO
 cases decide (b.kind = 1) with
 | true => exact ⟨⟨by show ((nodeP a b.path).getD []).length ≤ _;omega,hb.lt.to,hb.lt.label,hb.lt.key,hb.lt.value,hb.lt.pieces⟩,hb.puts⟩
 | false =>
  cases decide (b.kind = 3) with
  | true => exact ⟨⟨by show ((nodeP a b.path).getD []).length ≤ _;omega,by show (gapP a b.to b.at_ prior).1.length ≤ _;omega,hb.lt.label,hb.lt.key,hb.lt.value,hb.lt.pieces⟩,hb.puts⟩
  | false => exact ⟨⟨by show ((nodeP a b.path).getD []).length ≤ _;omega,hb.lt.to,hb.lt.label,hb.lt.key,hb.lt.value,hb.lt.pieces⟩,hb.puts⟩
theorem number_steps {c : Chg} (h : 0 ≤ c.at_) {p : List Int} {k : Int} (hk : 0 ≤ k ∧ k ≤ 1048575) : 0 ≤ c.number p k ∧ c.number p k ≤ 1048576:=by
 unfold Chg.number
 by_cases h1 : c.at_ < k
 ·cases c.takes <;> cases c.puts <;> cases decide (p = c.frm) <;> cases decide (c.gap ≤ k) <;> cases decide (p = c.to) <;> simp [h1] <;> omega
 ·cases c.takes <;> cases c.puts <;> cases decide (p = c.frm) <;> cases decide (c.gap ≤ k) <;> cases decide (p = c.to) <;> simp [h1] <;> omega
theorem nums_steps {c : Chg} (h : 0 ≤ c.at_) : ∀ (p q : List Int),(∀ i ∈ p,0 ≤ i ∧ i ≤ 1048575) → ∀ i ∈ c.nums q p,0 ≤ i ∧ i ≤ 1048576
 | [],_,_,i,hi => by cases hi
 | k :: p,q,hp,i,hi => by
  rw [Chg.nums] at hi
  rcases List.mem_cons.1 hi with rfl | hi
  ·exact number_steps h (hp k List.mem_cons_self)
  ·exact nums_steps h p _ (fun j hj => hp j (List.mem_cons_of_mem _ hj)) i hi
theorem may_strict {p : List Int} (h : mayP p = true) : ∀ i ∈ p,0 ≤ i ∧ i ≤ 1048575:=by
 unfold mayP at h
 rw [Bool.and_eq_true] at h
 intro i hi
 have:=List.all_eq_true.1 h.2 i hi
 unfold stepOk at this
 simp only [Bool.and_eq_true,decide_eq_true_eq] at this
 omega
theorem chg_at {o : OpT} (h : movesO o = true) : 0 ≤ (chgO o).at_:=by
 obtain ⟨hf,hkk⟩:=moves_parts h
 have hne:=moves_ne h
 by_cases k1 : o.kind = 1
 ·unfold chgO;simp [k1]
 ·have : (chgO o).at_ = lastP o.path:=by unfold chgO;simp [k1]
  rw [this,← lastP_eq (hne k1)]
  exact (may_step (formed_path hf) _ (List.getLast_mem (hne k1))).1
theorem node_steps {a : OpT} {p : List Int} (hp : ∀ i ∈ p,0 ≤ i ∧ i ≤ 1048575) : ∀ i ∈ (nodeP a p).getD [],0 ≤ i ∧ i ≤ 1048576:=by
 intro i hi
 unfold nodeP at hi
 cases hm : movesO a with
 | false =>
  rw [hm] at hi
  have:=hp i hi
  omega
 | true =>
  rw [hm] at hi
  have hat:=chg_at hm
  obtain ⟨hf,hkk⟩:=moves_parts hm
  cases ht : (chgO a).takes && within a.path p with
  | false =>
   rw [ht] at hi
   exact nums_steps hat p [] hp i hi
  | true =>
   rw [ht] at hi
   cases hq : (chgO a).puts with
   | false => rw [hq] at hi;cases hi
   | true =>
    rw [hq] at hi
    rw [Bool.and_eq_true] at ht
    have hk3 : a.kind = 3:=by
     rcases hkk with k | ⟨k,_⟩ | h
     ·have:=ht.1;unfold chgO at this;simp [k] at this
     ·unfold chgO at hq;simp [k] at hq
     ·exact h.1
    have hts:=may_strict (good_to hf hk3)
    have hgap:=formed_gap hf (.inr hk3)
    have hi : i ∈ (chgO a).nums [] a.to ++ [(chgO a).land] ++ p.drop a.path.length:=hi
    rcases List.mem_append.1 hi with hi | hi
    ·rcases List.mem_append.1 hi with hi | hi
     ·exact nums_steps hat a.to [] hts i hi
     ·rw [List.mem_singleton] at hi
      have e : (chgO a).gap = a.at_:=rfl
      rw [hi]
      unfold Chg.land
      by_cases h1 : (chgO a).at_ < (chgO a).gap
      ·cases decide ((chgO a).frm = (chgO a).to) <;> simp [h1] <;> omega
      ·simp [h1];omega
    ·have:=hp i (List.mem_of_mem_drop hi)
     omega
theorem w_NodeB (o : OpT) (p : List Int) (ho : o.Ok) (hp : p.length ≤ 1000) (hpb : ∀ i ∈ p,0 ≤ i ∧ i ≤ 1048576) : Pure Tryz.prog 207 [opV o,pathV p] (fun x => ∃ q b,(nodeP o p).getD [] = q ∧ x = .tup [pathV q,.bool b]):=by
 refine pure_wk ((w_Node o p ho hp hpb).mono fun x h => ?_)
 subst h
 cases nodeP o p with
 | none => exact ⟨.tup [pathV [],.bool false],Wk.tup ⟨.refl _,Wk.ff,trivial⟩,rfl,[],false,rfl,rfl⟩
 | some q => exact ⟨.tup [pathV q,.bool true],Wk.tup ⟨.refl _,Wk.tt,trivial⟩,rfl,q,true,rfl,rfl⟩
def RowQ (b a : OpT) (l : List OpT) (x : V) (T : Heap) : Prop :=
 (l = [] ∧ x = .tup [.nilsl,.int .i64 0] ∧ T = [some (.box (opV b).cells),some (.box (opV a).cells)]) ∨
 (∃ g,x = .tup [.osl (.loc 2) g 0 l.length,.int .i64 0] ∧ T = [some (.box (opV b).cells),some (.box (opV a).cells),some (.vec g 11 (l.map opV))])
set_option maxHeartbeats 8000000 in
set_option maxRecDepth 100000 in
theorem w_row (b a : OpT) (prior : Bool) (ha : a.Ok) (hb : b.Ok) (sa : soundO a = true) (sb : soundO b = true) (he : bothEdit b a = false) (hto : a.to.length ≤ 1000 ∧ b.to.length ≤ 1000) :
  Fun Tryz.prog 202 [] [opV b,opV a,.bool prior] (RowQ b a (rowO b a prior)):=by
 have fa : formedB a = true:=by unfold soundO at sa;rw [Bool.and_eq_true] at sa;exact sa.1
 have fb : formedB b = true:=by unfold soundO at sb;rw [Bool.and_eq_true] at sb;exact sb.1
 have pa:=may_len (formed_path fa)
 have pb:=may_len (formed_path fb)
 have qa:=may_step (formed_path fa)
 have qb:=may_step (formed_path fb)
 have hnb:=nodeP_len a b.path
 have hna:=nodeP_len a a.path
 refine fun_fn 300 Tryz.func202 rfl rfl rfl fun imps B hi => ?_
 have : imps = []:=List.length_eq_zero_iff.1 hi
 subst this
 have leafN : rowO b a prior = [] → RowQ b a (rowO b a prior) (.tup [.nilsl,.int .i64 0]) [some (.box (opV b).cells),some (.box (opV a).cells)]:=fun h1 => .inl ⟨h1,rfl,rfl⟩
 have leaf1 : ∀ {g : Nat} (o : OpT),rowO b a prior = [o] → RowQ b a (rowO b a prior) (.tup [.osl (.loc 2) g 0 1,.int .i64 0]) [some (.box (opV b).cells),some (.box (opV a).cells),some (.vec g 11 [opV o])]:=fun o h1 => .inr ⟨_,by rw [h1];rfl,by rw [h1];rfl⟩
 have leaf2 : ∀ {g : Nat} (o o' : OpT),rowO b a prior = [o,o'] → RowQ b a (rowO b a prior) (.tup [.osl (.loc 2) g 0 2,.int .i64 0]) [some (.box (opV b).cells),some (.box (opV a).cells),some (.vec g 11 [opV o,opV o'])]:=fun o o' h1 => .inr ⟨_,by rw [h1];rfl,by rw [h1];rfl⟩
 have hsh:=w_shifted b a prior ha hb fb
 have c1:=w_pathWithin a.path b.path (by omega)
 have c2:=w_pathWithin a.path b.to (by omega)
 have c3:=w_pathWithin b.path a.path (by omega)
 have c4:=w_pathWithin b.path a.to (by omega)
 have c5:=w_pathSame b.path a.path (by omega)
 have c6:=w_pathSame a.path b.path (by omega)
 refine ⟨fun g1 => go 300 ?_,fun g1 => go 300 ?_⟩
 ·have k1 : a.kind = 2:=eq_of g1
  show CallThen _ _ _ _ _ _
  refine call_pure c1 rfl ?_
  rintro x rfl
  refine ⟨fun g2 => go 300 ?_,fun g2 => go 300 ?_⟩
  ·exact ⟨trivial,rfl,rfl,leafN (by unfold rowO;rw [decide_eq_true k1,g2];rfl)⟩
  refine ⟨fun g3 => go 300 ?_,fun g3 => go 300 ?_⟩
  ·have k3 : b.kind = 3:=eq_of g3
   show CallThen _ _ _ _ _ _
   refine call_pure c2 rfl ?_
   rintro x rfl
   refine ⟨fun g4 => go 300 ?_,fun g4 => go 300 ?_⟩
   ·show CallThen _ _ _ _ _ _
    refine call_pure (w_NodeB a b.path ha (by omega) qb) rfl ?_
    rintro x ⟨q1,v,hq1,rfl⟩
    show CallThen _ _ _ _ _ _
    refine call_pure (w_drop q1) rfl ?_
    rintro x rfl
    refine ⟨⟨rfl,trivial⟩,?_⟩
    exact ⟨trivial,rfl,rfl,leaf1 (dropO q1) (by unfold rowO;rw [decide_eq_true k1,g2,decide_eq_true k3,g4,hq1];rfl)⟩
   ·show CallThen _ _ _ _ _ _
    refine call_pure hsh rfl ?_
    rintro x rfl
    refine ⟨⟨rfl,trivial⟩,?_⟩
    exact ⟨trivial,rfl,rfl,leaf1 (shiftedO b a prior) (by unfold rowO;rw [decide_eq_true k1,g2,decide_eq_true k3,g4];rfl)⟩
  ·have k3 : b.kind ≠ 3:=ne_of g3
   show CallThen _ _ _ _ _ _
   refine call_pure hsh rfl ?_
   rintro x rfl
   refine ⟨⟨rfl,trivial⟩,?_⟩
   exact ⟨trivial,rfl,rfl,leaf1 (shiftedO b a prior) (by unfold rowO;rw [decide_eq_true k1,g2,decide_eq_false k3];rfl)⟩
 have k1 : a.kind ≠ 2:=ne_of g1
 show CallThen _ _ _ _ _ _
 refine call_pure (w_won b a ha) rfl ?_
 rintro x rfl
 refine ⟨fun g2 => go 300 ?_,fun g2 => go 300 ?_⟩
 ·refine ⟨fun g3 => go 300 ?_,fun g3 => go 300 ?_⟩
  ·have g3 : prior = false:=by simpa using g3
   exact ⟨trivial,rfl,rfl,leafN (by unfold rowO;rw [decide_eq_false k1,g2,g3];rfl)⟩
  ·have g3 : prior = true:=by simpa using g3
   show CallThen _ _ _ _ _ _
   refine call_pure hsh rfl ?_
   rintro x rfl
   refine ⟨⟨rfl,trivial⟩,?_⟩
   exact ⟨trivial,rfl,rfl,leaf1 (shiftedO b a prior) (by unfold rowO;rw [decide_eq_false k1,g2];rw [g3];rfl)⟩
 refine ⟨fun g3 => go 300 ?_,fun g3 => go 300 ?_⟩
 ·have k3 : a.kind ≠ 3:=ne_of' g3
  have er : rowO b a prior = [shiftedO b a prior]:=by unfold rowO;rw [decide_eq_false k1,g2,decide_eq_false k3];rfl
  refine ⟨fun g4 => go 300 ?_,fun g4 => go 300 ?_⟩
  ·refine ⟨fun g5 => go 300 ?_,fun g5 => go 300 ?_⟩
   ·show CallThen _ _ _ _ _ _
    refine call_pure c6 rfl ?_
    rintro x rfl
    refine ⟨fun g6 => ?_,fun g6 => go 300 ?_⟩
    ·exfalso
     unfold bothEdit at he
     rw [g4,g5,g6] at he
     cases he
    ·show CallThen _ _ _ _ _ _
     refine call_pure hsh rfl ?_
     rintro x rfl
     refine ⟨⟨rfl,trivial⟩,?_⟩
     exact ⟨trivial,rfl,rfl,leaf1 (shiftedO b a prior) er⟩
   ·show CallThen _ _ _ _ _ _
    refine call_pure hsh rfl ?_
    rintro x rfl
    refine ⟨⟨rfl,trivial⟩,?_⟩
    exact ⟨trivial,rfl,rfl,leaf1 (shiftedO b a prior) er⟩
  ·show CallThen _ _ _ _ _ _
   refine call_pure hsh rfl ?_
   rintro x rfl
   refine ⟨⟨rfl,trivial⟩,?_⟩
   exact ⟨trivial,rfl,rfl,leaf1 (shiftedO b a prior) er⟩
 have k3 : a.kind = 3:=eq_of' g3
 refine ⟨fun g4 => go 300 ?_,fun g4 => go 300 ?_⟩
 ·have k4 : b.kind = 2:=eq_of g4
  show CallThen _ _ _ _ _ _
  refine call_pure c3 rfl ?_
  rintro x rfl
  refine ⟨fun g5 => go 300 ?_,fun g5 => go 300 ?_⟩
  case refine_2 =>
   have er : rowO b a prior = [shiftedO b a prior]:=by unfold rowO;rw [decide_eq_false k1,g2,decide_eq_true k3,decide_eq_true k4,g5];rfl
   show CallThen _ _ _ _ _ _
   refine call_pure hsh rfl ?_
   rintro x rfl
   refine ⟨⟨rfl,trivial⟩,?_⟩
   exact ⟨trivial,rfl,rfl,leaf1 (shiftedO b a prior) er⟩
  show CallThen _ _ _ _ _ _
  refine call_pure c5 rfl ?_
  rintro x rfl
  refine ⟨fun g6 => go 300 ?_,fun g6 => go 300 ?_⟩
  case refine_2 =>
   have g6 : decide (b.path = a.path) = true:=by simpa using g6
   have er : rowO b a prior = [shiftedO b a prior]:=by unfold rowO;rw [decide_eq_false k1,g2,decide_eq_true k3,decide_eq_true k4,g5,g6];rfl
   show CallThen _ _ _ _ _ _
   refine call_pure hsh rfl ?_
   rintro x rfl
   refine ⟨⟨rfl,trivial⟩,?_⟩
   exact ⟨trivial,rfl,rfl,leaf1 (shiftedO b a prior) er⟩
  have g6 : decide (b.path = a.path) = false:=by simpa using g6
  show CallThen _ _ _ _ _ _
  refine call_pure c4 rfl ?_
  rintro x rfl
  refine ⟨fun g7 => go 300 ?_,fun g7 => go 300 ?_⟩
  case refine_2 =>
   have g7 : within b.path a.to = true:=by simpa using g7
   have er : rowO b a prior = [shiftedO b a prior]:=by unfold rowO;rw [decide_eq_false k1,g2,decide_eq_true k3,decide_eq_true k4,g5,g6,g7];rfl
   show CallThen _ _ _ _ _ _
   refine call_pure hsh rfl ?_
   rintro x rfl
   refine ⟨⟨rfl,trivial⟩,?_⟩
   exact ⟨trivial,rfl,rfl,leaf1 (shiftedO b a prior) er⟩
  have g7 : within b.path a.to = false:=by simpa using g7
  have er : rowO b a prior = [dropO ((nodeP a a.path).getD []),dropO ((nodeP (dropO ((nodeP a a.path).getD [])) ((nodeP a b.path).getD [])).getD [])]:=by unfold rowO;rw [decide_eq_false k1,g2,decide_eq_true k3,decide_eq_true k4,g5,g6,g7];rfl
  have hqs:=node_steps (a:=a) (p:=b.path) (may_strict (formed_path fb))
  show CallThen _ _ _ _ _ _
  refine call_pure (w_NodeB a a.path ha (by omega) qa) rfl ?_
  rintro x ⟨p1,v1,hp1,rfl⟩
  show CallThen _ _ _ _ _ _
  refine call_pure (w_NodeB a b.path ha (by omega) qb) rfl ?_
  rintro x ⟨q1,v2,hq1,rfl⟩
  rw [hp1,hq1] at er
  rw [hq1] at hqs hnb
  rw [hp1] at hna
  show CallThen _ _ _ _ _ _
  refine call_pure (w_drop p1) rfl ?_
  rintro x rfl
  show CallThen _ _ _ _ _ _
  have hat64:=may_len (good_to fa k3)
  refine call_pure (w_NodeB (dropO p1) q1 (drop_ok (by omega)) (by omega) hqs) rfl ?_
  rintro x ⟨q2,v3,hq2,rfl⟩
  rw [hq2] at er
  show CallThen _ _ _ _ _ _
  refine call_pure (w_drop p1) rfl ?_
  rintro x rfl
  show CallThen _ _ _ _ _ _
  refine call_pure (w_drop q2) rfl ?_
  rintro x rfl
  refine ⟨⟨rfl,rfl,trivial⟩,?_⟩
  exact ⟨trivial,rfl,rfl,leaf2 _ _ er⟩
 have k4 : b.kind ≠ 2:=ne_of g4
 refine ⟨fun g5 => go 300 ?_,fun g5 => go 300 ?_⟩
 ·have k5 : b.kind = 3:=eq_of g5
  show CallThen _ _ _ _ _ _
  refine call_pure c4 rfl ?_
  rintro x rfl
  refine ⟨fun g6 => go 300 ?_,fun g6 => go 300 ?_⟩
  case refine_2 =>
   have er : rowO b a prior = [shiftedO b a prior]:=by unfold rowO;rw [decide_eq_false k1,g2,decide_eq_true k3,decide_eq_false k4,decide_eq_true k5,g6];rfl
   show CallThen _ _ _ _ _ _
   refine call_pure hsh rfl ?_
   rintro x rfl
   refine ⟨⟨rfl,trivial⟩,?_⟩
   exact ⟨trivial,rfl,rfl,leaf1 (shiftedO b a prior) er⟩
  show CallThen _ _ _ _ _ _
  refine call_pure c2 rfl ?_
  rintro x rfl
  refine ⟨fun g7 => go 300 ?_,fun g7 => go 300 ?_⟩
  case refine_2 =>
   have er : rowO b a prior = [shiftedO b a prior]:=by unfold rowO;rw [decide_eq_false k1,g2,decide_eq_true k3,decide_eq_false k4,decide_eq_true k5,g6,g7];rfl
   show CallThen _ _ _ _ _ _
   refine call_pure hsh rfl ?_
   rintro x rfl
   refine ⟨⟨rfl,trivial⟩,?_⟩
   exact ⟨trivial,rfl,rfl,leaf1 (shiftedO b a prior) er⟩
  refine ⟨fun g8 => go 300 ?_,fun g8 => go 300 ?_⟩
  ·have g8 : prior = false:=by simpa using g8
   exact ⟨trivial,rfl,rfl,leafN (by unfold rowO;rw [decide_eq_false k1,g2,decide_eq_true k3,decide_eq_false k4,decide_eq_true k5,g6,g7,g8];rfl)⟩
  ·have g8 : prior = true:=by simpa using g8
   show Goes _ _ _ _
   refine goes_draw 300 ⟨_,w_UndoM a ha,rfl,rfl,⟨rfl,rfl,trivial⟩,?_⟩
   refine ⟨by kernel_rfl,?_⟩
   refine ⟨by kernel_rfl,?_⟩
   exact ⟨trivial,rfl,rfl,leaf2 (undoO a) b (by unfold rowO;rw [decide_eq_false k1,g2,decide_eq_true k3,decide_eq_false k4,decide_eq_true k5,g6,g7];rw [g8];rfl)⟩
 ·have k5 : b.kind ≠ 3:=ne_of g5
  have er : rowO b a prior = [shiftedO b a prior]:=by unfold rowO;rw [decide_eq_false k1,g2,decide_eq_true k3,decide_eq_false k4,decide_eq_false k5];rfl
  show CallThen _ _ _ _ _ _
  refine call_pure hsh rfl ?_
  rintro x rfl
  refine ⟨⟨rfl,trivial⟩,?_⟩
  exact ⟨trivial,rfl,rfl,leaf1 (shiftedO b a prior) er⟩
end Bow
/- SP23: bounds of two edits that go on alike, in plain Lean. -/
namespace Bow
open Go
structure RowOk (r : List PieceT) : Prop where
 p : ∀ p ∈ r,p.Nn ∧ p.w ≤ 1000000000000
 l : r.length ≤ 1000000000000
theorem rowRun_split : ∀ (r : List PieceT),∃ e,r = e ++ (rowRun r).2
 | [] => ⟨[],rfl⟩
 | p :: r => by
  rw [rowRun]
  cases decide (0 < p.keep) with
  | true => exact ⟨[],rfl⟩
  | false =>
   cases decide (0 < p.drop) with
   | true => exact ⟨[],rfl⟩
   | false =>
    obtain ⟨e,h⟩:=rowRun_split r
    exact ⟨p :: e,by rw [cond_false,cond_false,List.cons_append,← h]⟩
theorem rowRun_ok {r : List PieceT} (h : RowOk r) : RowOk (rowRun r).2 ∧ 0 ≤ (rowRun r).1.1 ∧ (rowRun r).1.1 ≤ 1000000000000:=by
 obtain ⟨e,he⟩:=rowRun_split r
 have h1 : RowOk (rowRun r).2:=by
  have hl:=congrArg List.length he
  rw [List.length_append] at hl
  exact ⟨fun p hp => h.p p (he ▸ List.mem_append_right _ hp),by have:=h.l;omega⟩
 refine ⟨h1,?_⟩
 have key : ∀ (r : List PieceT),(∀ p ∈ r,p.Nn ∧ p.w ≤ 1000000000000) → 0 ≤ (rowRun r).1.1 ∧ (rowRun r).1.1 ≤ 1000000000000:=by
  intro r
  induction r with
  | nil => intro _;exact ⟨by decide,by decide⟩
  | cons p r ih =>
   intro h
   obtain ⟨h2,h3⟩:=h p List.mem_cons_self
   have h4:=h2.k
   have h5:=h2.d
   unfold PieceT.w at h3
   rw [rowRun]
   cases decide (0 < p.keep) with
   | true => exact ⟨h4,by rw [cond_true];simp only;omega⟩
   | false =>
    cases decide (0 < p.drop) with
    | true => exact ⟨h5,by rw [cond_false,cond_true];simp only;omega⟩
    | false => exact ih fun q hq => h q (List.mem_cons_of_mem _ hq)
 exact key r h.p
def rowR : List PieceT → Int
 | [] => 0
 | p :: l => p.keep + p.drop + p.put.length + rowR l
theorem rowR_le : ∀ {l : List PieceT},rowR l ≤ sumW l
 | [] => by simp [rowR,sumW]
 | p :: l => by
  have:=rowR_le (l:=l)
  simp only [rowR,sumW,PieceT.w]
  omega
theorem rowR_nn : ∀ {l : List PieceT},(∀ p ∈ l,p.Nn) → 0 ≤ rowR l
 | [],_ => by simp [rowR]
 | p :: l,h => by
  have h1:=h p List.mem_cons_self
  have:=h1.k
  have:=h1.d
  have:=rowR_nn fun q hq => h q (List.mem_cons_of_mem _ hq)
  simp only [rowR]
  omega
theorem RowOk.nn {r : List PieceT} (h : RowOk r) : ∀ p ∈ r,p.Nn:=fun p hp => (h.p p hp).1
theorem rowPut_len (r : List PieceT) : (rowPut r).2.length = r.length:=by
 cases r with
 | nil => rfl
 | cons p r =>
  rw [rowPut]
  cases decide (0 < p.keep) || p.put.isEmpty <;> rfl
theorem rowTake_len (n : Int) (r : List PieceT) : (rowTake n r).length = r.length:=by
 cases r with
 | nil => rfl
 | cons p r =>
  rw [rowTake]
  cases decide (0 < p.keep) <;> rfl
theorem rowPut_ok {r : List PieceT} (h : RowOk r) : RowOk (rowPut r).2 ∧ rowR (rowPut r).2 = rowR r - (rowPut r).1.length ∧ extN (rowPut r).2 = extN r ∧ ((rowPut r).1.length : Int) ≤ 1000000000000:=by
 cases r with
 | nil => exact ⟨h,by simp [rowPut,rowR],rfl,by simp [rowPut]⟩
 | cons p r =>
  rw [rowPut]
  cases decide (0 < p.keep) || p.put.isEmpty with
  | true => exact ⟨h,by simp,rfl,by simp⟩
  | false =>
   obtain ⟨h1,h2⟩:=h.p p List.mem_cons_self
   have h3:=h1.k
   have h4:=h1.d
   unfold PieceT.w at h2
   refine ⟨⟨fun q hq => ?_,h.l⟩,?_,rfl,?_⟩
   ·rcases List.mem_cons.1 hq with rfl | hq
    ·exact ⟨⟨h3,h4⟩,by unfold PieceT.w;simp only [List.length_nil];omega⟩
    ·exact h.p q (List.mem_cons_of_mem _ hq)
   ·simp only [cond_false,rowR,List.length_nil]
    omega
   ·simp only [cond_false]
    omega
theorem rowRun_R : ∀ {r : List PieceT},(∀ p ∈ r,p.Nn) → rowR (rowRun r).2 ≤ rowR r ∧ extN (rowRun r).2 ≤ extN r
 | [],_ => ⟨Int.le_refl _,Nat.le_refl _⟩
 | p :: r,h => by
  have h1:=h p List.mem_cons_self
  have:=h1.k
  have:=h1.d
  obtain ⟨i1,i2⟩:=rowRun_R fun q hq => h q (List.mem_cons_of_mem _ hq)
  rw [rowRun]
  cases decide (0 < p.keep) with
  | true => exact ⟨Int.le_refl _,Nat.le_refl _⟩
  | false =>
   cases decide (0 < p.drop) with
   | true => exact ⟨Int.le_refl _,Nat.le_refl _⟩
   | false =>
    simp only [cond_false,rowR,extN]
    constructor <;> omega
def RunIs (n : Int) (x s : Bool) (r : List PieceT) : Prop :=
 (s = false ∧ x = false ∧ n = 0 ∧ r = []) ∨ (s = true ∧ ∃ p l,r = p :: l ∧ ((x = false ∧ n = p.keep ∧ 0 < p.keep) ∨ (x = true ∧ n = p.drop ∧ 0 < p.drop ∧ ¬ 0 < p.keep)))
theorem rowRun_is : ∀ (r : List PieceT),RunIs (rowRun r).1.1 (rowRun r).1.2.1 (rowRun r).1.2.2 (rowRun r).2
 | [] => .inl ⟨rfl,rfl,rfl,rfl⟩
 | p :: r => by
  rw [rowRun]
  cases h1 : decide (0 < p.keep) with
  | true => exact .inr ⟨rfl,p,r,rfl,.inl ⟨rfl,rfl,of_decide_eq_true h1⟩⟩
  | false =>
   cases h2 : decide (0 < p.drop) with
   | true => exact .inr ⟨rfl,p,r,rfl,.inr ⟨rfl,rfl,of_decide_eq_true h2,of_decide_eq_false h1⟩⟩
   | false => exact rowRun_is r
theorem rowTake_ok {n m : Int} {x s : Bool} {r : List PieceT} (h : RowOk r) (hr : RunIs m x s r) (hn : 0 ≤ n) (hm : s = true → n ≤ m) : RowOk (rowTake n r) ∧ rowR (rowTake n r) = rowR r - (bif s then n else 0) ∧ (extN (rowTake n r) : Int) = extN r - (bif s then n else 0):=by
 rcases hr with ⟨rfl,-,-,rfl⟩ | ⟨rfl,p,l,rfl,hp⟩
 ·exact ⟨h,by simp [rowTake,rowR],by simp [rowTake,extN]⟩
 ·obtain ⟨h1,h2⟩:=h.p p List.mem_cons_self
  have h3:=h1.k
  have h4:=h1.d
  have h5:=hm rfl
  unfold PieceT.w at h2
  rcases hp with ⟨-,rfl,h6⟩ | ⟨-,rfl,h6,h7⟩
  ·rw [rowTake,decide_eq_true h6]
   refine ⟨⟨fun q hq => ?_,h.l⟩,?_,?_⟩
   ·rcases List.mem_cons.1 hq with rfl | hq
    ·exact ⟨⟨by show 0 ≤ p.keep - n;omega,h4⟩,by unfold PieceT.w;simp only;omega⟩
    ·exact h.p q (List.mem_cons_of_mem _ hq)
   ·simp only [cond_true,rowR]
    omega
   ·simp only [cond_true,extN]
    omega
  ·rw [rowTake,decide_eq_false h7]
   refine ⟨⟨fun q hq => ?_,h.l⟩,?_,?_⟩
   ·rcases List.mem_cons.1 hq with rfl | hq
    ·exact ⟨⟨h3,by show 0 ≤ p.drop - n;omega⟩,by unfold PieceT.w;simp only;omega⟩
    ·exact h.p q (List.mem_cons_of_mem _ hq)
   ·simp only [cond_false,cond_true,rowR]
    omega
   ·simp only [cond_false,cond_true,extN]
    omega
theorem bothR_eq {a b a' b' : List PieceT} {n m : Int} {x1 s1 y1 s2 : Bool} (h : rowRun a = ((n,x1,s1),a')) (h2 : rowRun b = ((m,y1,s2),b')) : bothR a b = bif !s1 && !s2 then ((0,false,false,false),a',b')
  else match bif !s1 then m else bif s2 then min n m else n with
   | k => ((k,x1,y1,true),rowTake k a',rowTake k b'):=by
 unfold bothR
 rw [h,h2]
theorem bothR_ok {a b : List PieceT} (ha : RowOk a) (hb : RowOk b) : RowOk (bothR a b).2.1 ∧ RowOk (bothR a b).2.2 ∧ 0 ≤ (bothR a b).1.1 ∧ (bothR a b).1.1 ≤ 1000000000000 ∧
  ((bothR a b).1.2.2.2 = true → 1 ≤ (bothR a b).1.1 ∧ rowR (bothR a b).2.1 + rowR (bothR a b).2.2 ≤ rowR a + rowR b - (bothR a b).1.1 ∧ extN (bothR a b).2.1 + extN (bothR a b).2.2 < extN a + extN b) ∧
  ((bothR a b).1.2.2.2 = false → rowR (bothR a b).2.1 + rowR (bothR a b).2.2 ≤ rowR a + rowR b):=by
 obtain ⟨oa,na,na'⟩:=rowRun_ok ha
 obtain ⟨ob,nb,nb'⟩:=rowRun_ok hb
 obtain ⟨ra,ea⟩:=rowRun_R ha.nn
 obtain ⟨rb,eb⟩:=rowRun_R hb.nn
 have ia:=rowRun_is a
 have ib:=rowRun_is b
 obtain ⟨⟨⟨n,x1,s1⟩,a'⟩,hra⟩ : ∃ z,rowRun a = z:=⟨_,rfl⟩
 obtain ⟨⟨⟨m,y1,s2⟩,b'⟩,hrb⟩ : ∃ z,rowRun b = z:=⟨_,rfl⟩
 rw [bothR_eq hra hrb]
 rw [hra] at oa na na' ra ea ia
 rw [hrb] at ob nb nb' rb eb ib
 simp only at oa na na' ra ea ia ob nb nb' rb eb ib
 have pa : s1 = true → 1 ≤ n:=by
  rcases ia with ⟨rfl,-⟩ | ⟨-,p,l,-,⟨-,h,h'⟩ | ⟨-,h,h',-⟩⟩
  ·intro h;cases h
  ·intro _;omega
  ·intro _;omega
 have pb : s2 = true → 1 ≤ m:=by
  rcases ib with ⟨rfl,-⟩ | ⟨-,p,l,-,⟨-,h,h'⟩ | ⟨-,h,h',-⟩⟩
  ·intro h;cases h
  ·intro _;omega
  ·intro _;omega
 cases s1 with
 | false =>
  cases s2 with
  | false => exact ⟨oa,ob,Int.le_refl 0,by show (0 : Int) ≤ 1000000000000;omega,fun h => (by cases h),fun _ => by show rowR a' + rowR b' ≤ _;omega⟩
  | true =>
   obtain ⟨t1,t2,t3⟩:=rowTake_ok oa ia nb (fun h => by cases h)
   obtain ⟨u1,u2,u3⟩:=rowTake_ok ob ib nb (fun _ => Int.le_refl _)
   have:=pb rfl
   refine ⟨t1,u1,nb,nb',fun _ => ⟨this,?_,?_⟩,fun h => by cases h⟩
   ·simp only [Bool.not_false,Bool.not_true,Bool.and_false,cond_true,cond_false] at t2 u2 ⊢
    omega
   ·simp only [Bool.not_false,Bool.not_true,Bool.and_false,cond_true,cond_false] at t3 u3 ⊢
    omega
 | true =>
  cases s2 with
  | false =>
   obtain ⟨t1,t2,t3⟩:=rowTake_ok oa ia na (fun _ => Int.le_refl _)
   obtain ⟨u1,u2,u3⟩:=rowTake_ok ob ib na (fun h => by cases h)
   have:=pa rfl
   refine ⟨t1,u1,na,na',fun _ => ⟨this,?_,?_⟩,fun h => by cases h⟩
   ·simp only [Bool.not_false,Bool.not_true,Bool.false_and,cond_true,cond_false] at t2 u2 ⊢
    omega
   ·simp only [Bool.not_false,Bool.not_true,Bool.false_and,cond_true,cond_false] at t3 u3 ⊢
    omega
  | true =>
   have hmin : 0 ≤ min n m ∧ min n m ≤ n ∧ min n m ≤ m:=by omega
   obtain ⟨t1,t2,t3⟩:=rowTake_ok oa ia hmin.1 (fun _ => hmin.2.1)
   obtain ⟨u1,u2,u3⟩:=rowTake_ok ob ib hmin.1 (fun _ => hmin.2.2)
   have:=pa rfl
   have:=pb rfl
   refine ⟨t1,u1,hmin.1,?_,fun _ => ⟨?_,?_,?_⟩,fun h => by cases h⟩
   ·show min n m ≤ _
    omega
   ·show 1 ≤ min n m
    omega
   ·simp only [Bool.not_true,Bool.false_and,cond_true,cond_false] at t2 u2 ⊢
    omega
   ·simp only [Bool.not_true,Bool.false_and,cond_true,cond_false] at t3 u3 ⊢
    omega
theorem norm_ok {l : List PieceT} (h : rightP l = true) : RowOk (normP l) ∧ rowR (normP l) ≤ 40000000000:=by
 obtain ⟨h1,h2⟩:=norm_nn h
 have h3:=sumW_len h1
 have h4:=rowR_le (l:=normP l)
 exact ⟨⟨fun p hp => ⟨h1 p hp,by have:=sumW_mem h1 p hp;omega⟩,by omega⟩,by omega⟩
theorem Mk.put_ok2 {m : Mk} {s : List UInt8} (h : m.Ok) : (m.put s).Ok ∧ (m.put s).w ≤ m.w + 2 * s.length:=by
 refine ⟨(Mk.put_ok h).1,?_⟩
 cases s with
 | nil => exact Int.le_of_eq (by simp [Mk.put])
 | cons a s =>
  have:=(Mk.put_ok (s:=a :: s) h).2
  simp only [List.length_cons] at this ⊢
  omega
theorem Mk.drop_ok2 {m : Mk} {n : Int} (h : m.Ok) (hn : 0 ≤ n) : (m.drop n).Ok ∧ (m.drop n).w ≤ m.w + 2 * n:=by
 refine ⟨(Mk.drop_ok h hn).1,?_⟩
 by_cases h1 : 0 < n
 ·have:=(Mk.drop_ok (n:=n) h hn).2
  omega
 ·have e : m.drop n = m:=by unfold Mk.drop;rw [decide_eq_false h1];rfl
  rw [e]
  omega
structure Tr.Ok (s : Tr) : Prop where
 p : RowOk s.p
 q : RowOk s.q
 x : s.x.Ok
 y : s.y.Ok
 wx : s.x.w + 3 * (rowR s.p + rowR s.q) ≤ 900000000000
 wy : s.y.w + 3 * (rowR s.p + rowR s.q) ≤ 900000000000
theorem Tr.puts_ok {s : Tr} (h : s.Ok) (prior : Bool) : (s.puts prior).Ok ∧ extN (s.puts prior).p = extN s.p ∧ extN (s.puts prior).q = extN s.q:=by
 obtain ⟨p,q,x,y⟩:=s
 obtain ⟨hp,hq,hx,hy,wx,wy⟩:=h
 simp only at hp hq hx hy wx wy
 obtain ⟨op,rp,ep,-⟩:=rowPut_ok hp
 obtain ⟨oq,rq,eq,-⟩:=rowPut_ok hq
 have e : Tr.puts prior ⟨p,q,x,y⟩ = bif prior then ⟨(rowPut p).2,(rowPut q).2,(x.put (rowPut p).1).kept (rowPut q).1.length,(y.kept (rowPut p).1.length).put (rowPut q).1⟩ else ⟨(rowPut p).2,(rowPut q).2,(x.kept (rowPut q).1.length).put (rowPut p).1,(y.put (rowPut q).1).kept (rowPut p).1.length⟩:=rfl
 rw [e]
 cases prior with
 | true =>
  obtain ⟨a1,a2⟩:=Mk.put_ok2 (s:=(rowPut p).1) hx
  obtain ⟨b1,b2⟩:=Mk.kept_ok (n:=((rowPut q).1.length : Int)) a1 (Int.natCast_nonneg _)
  obtain ⟨c1,c2⟩:=Mk.kept_ok (n:=((rowPut p).1.length : Int)) hy (Int.natCast_nonneg _)
  obtain ⟨d1,d2⟩:=Mk.put_ok2 (s:=(rowPut q).1) c1
  exact ⟨⟨op,oq,b1,d1,by simp only [cond_true];omega,by simp only [cond_true];omega⟩,ep,eq⟩
 | false =>
  obtain ⟨a1,a2⟩:=Mk.kept_ok (n:=((rowPut q).1.length : Int)) hx (Int.natCast_nonneg _)
  obtain ⟨b1,b2⟩:=Mk.put_ok2 (s:=(rowPut p).1) a1
  obtain ⟨c1,c2⟩:=Mk.put_ok2 (s:=(rowPut q).1) hy
  obtain ⟨d1,d2⟩:=Mk.kept_ok (n:=((rowPut p).1.length : Int)) c1 (Int.natCast_nonneg _)
  exact ⟨⟨op,oq,b1,d1,by simp only [cond_false];omega,by simp only [cond_false];omega⟩,ep,eq⟩
theorem Tr.does_ok {p q : List PieceT} {x y : Mk} {n R : Int} (hp : RowOk p) (hq : RowOk q) (hx : x.Ok) (hy : y.Ok) (hn : 0 ≤ n) (hR : rowR p + rowR q ≤ R - n) (wx : x.w + 3 * R ≤ 900000000000) (wy : y.w + 3 * R ≤ 900000000000) (d g : Bool) :
  (Tr.does ⟨p,q,x,y⟩ n d g).Ok ∧ (Tr.does ⟨p,q,x,y⟩ n d g).p = p ∧ (Tr.does ⟨p,q,x,y⟩ n d g).q = q:=by
 obtain ⟨a1,a2⟩:=Mk.drop_ok2 (n:=n) hx hn
 obtain ⟨b1,b2⟩:=Mk.drop_ok2 (n:=n) hy hn
 obtain ⟨c1,c2⟩:=Mk.kept_ok (n:=n) hx hn
 obtain ⟨d1,d2⟩:=Mk.kept_ok (n:=n) hy hn
 cases d <;> cases g
 ·exact ⟨⟨hp,hq,c1,d1,by show (x.kept n).w + _ ≤ _;simp only [Tr.does,cond_false];omega,by show (y.kept n).w + _ ≤ _;simp only [Tr.does,cond_false];omega⟩,rfl,rfl⟩
 ·exact ⟨⟨hp,hq,hx,b1,by show x.w + _ ≤ _;simp only [Tr.does,cond_false,cond_true];omega,by show (y.drop n).w + _ ≤ _;simp only [Tr.does,cond_false,cond_true];omega⟩,rfl,rfl⟩
 ·exact ⟨⟨hp,hq,a1,hy,by show (x.drop n).w + _ ≤ _;simp only [Tr.does,cond_false,cond_true];omega,by show y.w + _ ≤ _;simp only [Tr.does,cond_false,cond_true];omega⟩,rfl,rfl⟩
 ·exact ⟨⟨hp,hq,hx,hy,by show x.w + _ ≤ _;simp only [Tr.does,cond_true];omega,by show y.w + _ ≤ _;simp only [Tr.does,cond_true];omega⟩,rfl,rfl⟩
theorem Tr.go_succ {prior : Bool} {f : Nat} {s : Tr} {p q p' q' : List PieceT} {x y : Mk} {n : Int} {d g any : Bool} (h1 : s.puts prior = ⟨p,q,x,y⟩) (h2 : bothR p q = ((n,d,g,any),p',q')) :
  Tr.go prior (f + 1) s = bif any then Tr.go prior f (Tr.does ⟨p',q',x,y⟩ n d g) else ⟨p',q',x,y⟩:=by
 rw [Tr.go,h1]
 simp only
 rw [h2]
end Bow
/- SP29: two edits of one leaf behind each other; what becomes of any operation behind any other one, in plain Lean. -/
namespace Bow
open Go
def editO (b a : OpT) (prior : Bool) : OpT:={ b with pieces:=(transP b.pieces a.pieces prior).1 }
def behindE (b a : OpT) (prior : Bool) : List OpT × Int :=
 bif !soundO a || !soundO b then ([],80) else bif decide ((transP b.pieces a.pieces prior).2.2 = 0) && formedB (editO b a prior) then ([bareO (editO b a prior)],0) else ([],3)
def behindX (b a : OpT) (prior : Bool) : List OpT × Int:=bif bothEdit b a then behindE b a prior else behindO b a prior
theorem formed_pieces {o : OpT} (h : formedB o = true) (hk : o.kind = 6) : rightP o.pieces = true:=by
 unfold formedB at h
 simpa [hk] using (Bool.and_eq_true_iff.1 h).2
theorem right_bounds {l : List PieceT} (h : rightP l = true) : l.length ≤ 4096 ∧ ∀ p ∈ l,p.put.length ≤ 1000000000:=by
 have h1 : l.length ≤ 4096:=by
  unfold rightP at h
  rw [Bool.and_eq_true,decide_eq_true_eq] at h
  exact h.1
 obtain ⟨h2,h3⟩:=right_nn h
 have h4:=sumW_mem h2
 refine ⟨h1,fun p hp => ?_⟩
 have : ∀ (l : List PieceT) (n : Nat),rightGo n l = true → ∀ p ∈ l,p.put.length ≤ 1048576:=by
  intro l
  induction l with
  | nil => intro n _ p hp;cases hp
  | cons q l ih =>
   intro n h p hp
   rw [rightGo] at h
   simp only [Bool.and_eq_true,decide_eq_true_eq] at h
   rcases List.mem_cons.1 hp with rfl | hp
   ·omega
   ·exact ih _ h.2 p hp
 unfold rightP at h
 rw [Bool.and_eq_true] at h
 have:=this l 0 h.2 p hp
 omega
theorem trans_right (a b : List PieceT) (prior : Bool) : rightP (transP a b prior).1 = true ∧ rightP (transP a b prior).2.1 = true:=by
 unfold transP
 cases h1 : !rightP a || !rightP b with
 | true => exact ⟨rfl,rfl⟩
 | false =>
  simp only [cond_false]
  cases Tr.go prior (extN (normP a) + extN (normP b) + 1) ⟨normP a,normP b,Mk.nil,Mk.nil⟩ with
  | mk p q x y =>
   simp only
   cases h2 : !rightP x.l || !rightP y.l with
   | true => exact ⟨rfl,rfl⟩
   | false =>
    simp only [Bool.or_eq_false_iff,Bool.not_eq_false'] at h2
    exact h2
theorem row_len (b a : OpT) (prior : Bool) : (rowO b a prior).length ≤ 2:=by
 unfold rowO
 cases decide (a.kind = 2) with
 | true =>
  cases within a.path b.path with
  | true => exact Nat.zero_le _
  | false => cases decide (b.kind = 3) && within a.path b.to <;> exact Nat.le_succ _
 | false =>
  cases wonO b a with
  | true => cases prior <;> simp
  | false =>
   cases decide (a.kind = 3) with
   | false => exact Nat.le_succ _
   | true =>
    cases decide (b.kind = 2) with
    | true => cases within b.path a.path && (!decide (b.path = a.path) && !within b.path a.to) <;> simp
    | false => cases decide (b.kind = 3) && (within b.path a.to && within a.path b.to) <;> cases prior <;> simp
theorem bothEdit_comm (a b : OpT) : bothEdit a b = bothEdit b a:=by
 unfold bothEdit
 have : decide (b.path = a.path) = decide (a.path = b.path):=decide_eq_decide.2 ⟨fun h => h.symm,fun h => h.symm⟩
 rw [this]
 cases decide (a.kind = 6) <;> cases decide (b.kind = 6) <;> rfl
def bothX (a b : OpT) (prior : Bool) : List OpT × List OpT × Int :=
 bif decide ((behindX a b prior).2 = 0) then (bif decide ((behindX b a (!prior)).2 = 0) then ((behindX a b prior).1,(behindX b a (!prior)).1,0) else ([],[],(behindX b a (!prior)).2)) else ([],[],(behindX a b prior).2)
def bareL (l : List OpT) : List OpT:=l.map bareO
end Bow
/- W54: square.Behind, Both (but for two edits of one leaf). -/
namespace Bow
open Go Go.Proofs
theorem undo_ok {a : OpT} (h1 : a.path.length ≤ 1000) (h2 : a.to.length ≤ 1000) : (undoO a).Ok:=by
 unfold undoO
 cases decide (a.kind = 3) && movesO a with
 | false => exact ⟨⟨Nat.zero_le _,Nat.zero_le _,Nat.zero_le _,Nat.zero_le _,Nat.zero_le _,Nat.zero_le _⟩,Nat.zero_le _⟩
 | true =>
  have q1:=nodeP_len a a.path
  have q2:=nodeP_len a (chgO a).frm
  have q3 : (chgO a).frm.length ≤ a.path.length:=by
   unfold chgO
   cases decide (a.kind = 1) <;> simp
  exact ⟨⟨by show ((nodeP a a.path).getD []).length ≤ _;omega,by show ((nodeP a (chgO a).frm).getD []).length ≤ _;omega,Nat.zero_le _,Nat.zero_le _,Nat.zero_le _,Nat.zero_le _⟩,Nat.zero_le _⟩
theorem row_mem {b a o : OpT} {prior : Bool} (h : o ∈ rowO b a prior) : o = shiftedO b a prior ∨ o = dropO ((nodeP a b.path).getD []) ∨ o = dropO ((nodeP a a.path).getD []) ∨
  o = dropO ((nodeP (dropO ((nodeP a a.path).getD [])) ((nodeP a b.path).getD [])).getD []) ∨ o = undoO a ∨ o = b:=by
 unfold rowO at h
 have one : ∀ {x : OpT},o ∈ [x] → o = x:=fun h => List.mem_singleton.1 h
 cases h1 : decide (a.kind = 2) with
 | true =>
  rw [h1] at h
  cases h2 : within a.path b.path with
  | true => rw [h2] at h;cases h
  | false =>
   rw [h2] at h
   cases h3 : decide (b.kind = 3) && within a.path b.to with
   | true => rw [h3] at h;exact .inr (.inl (one h))
   | false => rw [h3] at h;exact .inl (one h)
 | false =>
  rw [h1] at h
  cases h2 : wonO b a with
  | true =>
   rw [h2] at h
   cases prior with
   | true => exact .inl (one h)
   | false => cases h
  | false =>
   rw [h2] at h
   cases h3 : decide (a.kind = 3) with
   | false => rw [h3] at h;exact .inl (one h)
   | true =>
    rw [h3] at h
    cases h4 : decide (b.kind = 2) with
    | true =>
     rw [h4] at h
     cases h5 : within b.path a.path && (!decide (b.path = a.path) && !within b.path a.to) with
     | true =>
      rw [h5] at h
      rcases List.mem_cons.1 h with h | h
      ·exact .inr (.inr (.inl h))
      ·exact .inr (.inr (.inr (.inl (one h))))
     | false => rw [h5] at h;exact .inl (one h)
    | false =>
     rw [h4] at h
     cases h5 : decide (b.kind = 3) && (within b.path a.to && within a.path b.to) with
     | true =>
      rw [h5] at h
      cases prior with
      | true =>
       rcases List.mem_cons.1 h with h | h
       ·exact .inr (.inr (.inr (.inr (.inl h))))
       ·exact .inr (.inr (.inr (.inr (.inr (one h)))))
      | false => cases h
     | false => rw [h5] at h;exact .inl (one h)
theorem row_ok {b a : OpT} {prior : Bool} (ha : a.Ok) (hb : b.Ok) (pa : a.path.length ≤ 1000) (pb : b.path.length ≤ 1000) (ta : a.to.length ≤ 1000) (tb : b.to.length ≤ 1000) : ∀ o ∈ rowO b a prior,o.Ok:=by
 have hs:=shifted_ok (prior:=prior) ha hb pb tb ta
 have hu:=undo_ok pa ta
 have q1:=nodeP_len a b.path
 have q2:=nodeP_len a a.path
 have q3:=nodeP_len (dropO ((nodeP a a.path).getD [])) ((nodeP a b.path).getD [])
 have q4 : (dropO ((nodeP a a.path).getD [])).to.length = 0:=rfl
 have d1:=drop_ok (p:=(nodeP a b.path).getD []) (by omega)
 have d2:=drop_ok (p:=(nodeP a a.path).getD []) (by omega)
 have d3:=drop_ok (p:=(nodeP (dropO ((nodeP a a.path).getD [])) ((nodeP a b.path).getD [])).getD []) (by omega)
 intro o ho
 rcases row_mem ho with rfl | rfl | rfl | rfl | rfl | rfl <;> assumption
theorem set_step {l : List OpT} {i : Nat} (hi : i < l.length) : (((l.take i).map bareO ++ l.drop i).map opV).set (0 + ((i : Nat) : Int).toNat) (opV (bareO l[i])) = ((l.take (i + 1)).map bareO ++ l.drop (i + 1)).map opV:=by
 rw [List.drop_eq_getElem_cons hi,List.take_succ_eq_append_getElem hi,List.map_append,List.map_append,List.map_append,List.map_append,Nat.zero_add,show ((i : Nat) : Int).toNat = i from rfl]
 rw [List.set_append_right _ _ (by simp;omega)]
 have : i - (List.map opV (List.map bareO (List.take i l))).length = 0:=by simp;omega
 rw [this,List.map_cons,List.set_cons_zero]
 simp
def BehV (r : List OpT × Int) : V:=.tup [opsV r.1,.int .i64 r.2]
theorem behZ (e : Int) : ∃ y,Wk (.tup [.nilsl,.int .i64 e]) y ∧ y.pureB = true ∧ y = BehV ([],e):=⟨BehV ([],e),Wk.tup ⟨Wk.nil 11,.refl _,trivial⟩,rfl,rfl⟩
set_option maxHeartbeats 4000000 in
set_option maxRecDepth 100000 in
theorem w_Behind (b a : OpT) (prior : Bool) (ha : a.Ok) (hb : b.Ok) (he : bothEdit b a = false) (hto : a.to.length ≤ 1000 ∧ b.to.length ≤ 1000) :
  Pure Tryz.prog 188 [opV b,opV a,.bool prior] (fun x => x = BehV (behindO b a prior)):=by
 refine pure_wk (pure_fn 300 Tryz.func188 rfl rfl rfl fun B => ?_)
 show CallThen _ _ _ _ _ _
 refine call_pure (w_sound a ha) rfl ?_
 rintro x rfl
 refine ⟨fun g1 => go 300 ?_,fun g1 => go 300 ?_⟩
 ·have g1 : soundO a = false:=by simpa using g1
  have e : behindO b a prior = ([],80):=by unfold behindO;rw [g1];rfl
  rw [e]
  exact ⟨trivial,rfl,rfl,rfl,behZ 80⟩
 have sa : soundO a = true:=by simpa using g1
 show CallThen _ _ _ _ _ _
 refine call_pure (w_sound b hb) rfl ?_
 rintro x rfl
 refine ⟨fun g2 => go 300 ?_,fun g2 => go 300 ?_⟩
 ·have g2 : soundO b = false:=by simpa using g2
  have e : behindO b a prior = ([],80):=by unfold behindO;rw [sa,g2];rfl
  rw [e]
  exact ⟨trivial,rfl,rfl,rfl,behZ 80⟩
 have sb : soundO b = true:=by simpa using g2
 have fa : formedB a = true:=by unfold soundO at sa;rw [Bool.and_eq_true] at sa;exact sa.1
 have fb : formedB b = true:=by unfold soundO at sb;rw [Bool.and_eq_true] at sb;exact sb.1
 have pa:=may_len (formed_path fa)
 have pb:=may_len (formed_path fb)
 have hrow:=w_row b a prior ha hb sa sb he hto
 have hrok:=row_ok (prior:=prior) ha hb (by omega) (by omega) hto.1 hto.2
 have e : behindO b a prior = bif (rowO b a prior).all formedB then ((rowO b a prior).map bareO,0) else ([],3):=by unfold behindO;rw [sa,sb];rfl
 rw [e]
 obtain ⟨l,hl⟩ : ∃ l,rowO b a prior = l:=⟨_,rfl⟩
 have hlen : l.length ≤ 2:=by rw [← hl];exact row_len b a prior
 rw [hl] at hrow hrok ⊢
 show CallThen _ _ _ _ _ _
 refine call_sub [] hrow rfl rfl trivial rfl rfl rfl ?_
 rintro x T1 (⟨rfl,rfl,rfl⟩ | ⟨G,rfl,rfl⟩)
 ·refine ⟨rfl,?_⟩
  refine ⟨fun q => absurd rfl (ne_of' q),fun _ => go 300 ?_⟩
  show Goes _ _ _ _
  refine goes_loop ?_
  refine go 300 ?_
  refine ⟨fun q => absurd (lt_of q) (by decide),fun _ => go 300 ?_⟩
  exact ⟨trivial,rfl,rfl,rfl,behZ 0⟩
 ·refine ⟨rfl,?_⟩
  refine ⟨fun q => absurd rfl (ne_of' q),fun _ => go 300 ?_⟩
  refine ⟨rfl,?_⟩
  show Goes _ _ _ _
  refine goes_iter (ι:=Nat) (fun i => i ≤ l.length ∧ (l.take i).all formedB = true) (fun i => l.length - i) (fun i => [(31,.int .i64 i),(30,.int .i64 l.length),(29,.osl (.loc 4) G 0 l.length),(8,.osl (.loc 4) G 0 l.length)])
   (fun i => [some (.box (opV b).cells),some (.box (opV a).cells),some (.box (opV b).cells),some (.box (opV a).cells),some (.vec G 11 (((l.take i).map bareO ++ l.drop i).map opV))]) 0 300 (fun _ => rfl) (fun _ => rfl) ⟨⟨Nat.zero_le _,by simp⟩,⟨⟨rfl,rfl⟩,⟨rfl,rfl⟩,⟨rfl,rfl⟩,⟨rfl,rfl⟩,trivial⟩,⟨⟨rfl,rfl⟩,⟨rfl,rfl⟩,⟨rfl,rfl⟩,⟨rfl,rfl⟩,⟨rfl,rfl⟩,trivial⟩⟩ ?_
  rintro i ⟨k1,k2⟩ next
  refine ⟨fun hlt => go 300 ?_,fun hge => go 300 ?_⟩
  ·have hi : i < l.length:=by have:=lt_of hlt;omega
   have hx : ((((l.take i).map bareO ++ l.drop i).map opV))[0 + ((i : Nat) : Int).toNat]? = some (opV l[i]):=by
    simp [List.getElem?_append_right,hi,Nat.min_eq_left (Nat.le_of_lt hi)]
   have hok:=hrok l[i] (List.getElem_mem hi)
   refine ⟨rfl,Int.natCast_nonneg i,by omega,rfl,_,hx,?_⟩
   show CallThen _ _ _ _ _ _
   refine call_pure (w_Formed l[i] hok.lt hok.each) rfl ?_
   rintro x rfl
   refine ⟨fun g3 => go 300 ?_,fun g3 => go 300 ?_⟩
   ·have g3 : formedB l[i] = false:=by simpa using g3
    have e : l.all formedB = false:=List.all_eq_false.2 ⟨l[i],List.getElem_mem hi,by simpa using g3⟩
    rw [e]
    exact ⟨trivial,rfl,rfl,rfl,behZ 3⟩
   have g3 : formedB l[i] = true:=by simpa using g3
   show CallThen _ _ _ _ _ _
   refine call_pure (w_Bare l[i] hok.lt) rfl ?_
   rintro x rfl
   refine ⟨rfl,Int.natCast_nonneg i,by omega,rfl,_,hx,?_⟩
   refine ⟨by constructor <;> omega,?_⟩
   show Goes _ _ _ _
   refine next (i + 1) _ _ ⟨⟨hi,?_⟩,by omega,⟨⟨rfl,rfl⟩,⟨rfl,rfl⟩,⟨rfl,rfl⟩,⟨rfl,rfl⟩,trivial⟩,⟨⟨rfl,rfl⟩,⟨rfl,rfl⟩,⟨rfl,rfl⟩,⟨rfl,rfl⟩,⟨?_,rfl⟩,trivial⟩⟩
   ·rw [List.take_succ_eq_append_getElem hi,List.all_append,k2]
    simp [g3]
   ·show some (HObj.vec G 11 (((((l.take i).map bareO ++ l.drop i).map opV)).set (0 + ((i : Nat) : Int).toNat) (opV (bareO l[i])))) = _
    rw [set_step hi]
  ·have hi : i = l.length:=by have:=not_lt_of hge;omega
   subst hi
   rw [List.take_length] at k2
   rw [k2]
   refine ⟨trivial,rfl,rfl,rfl,by simp,rfl,?_⟩
   refine ⟨BehV (l.map bareO,0),?_,rfl,rfl⟩
   simp [BehV,opsV]
   exact Wk.refl _
def BothV (r : List OpT × List OpT × Int) : V:=.tup [opsV r.1,opsV r.2.1,.int .i64 r.2.2]
theorem bothZ (e : Int) : ∃ y,Wk (.tup [.nilsl,.nilsl,.int .i64 e]) y ∧ y.pureB = true ∧ y = BothV ([],[],e):=⟨BothV ([],[],e),Wk.tup ⟨Wk.nil 11,Wk.nil 11,.refl _,trivial⟩,rfl,rfl⟩
end Bow
/- W55: leaftext's maker of a normal edit; norm. -/
namespace Bow
open Go Go.Proofs
def mkB (m : Mk) (g : Nat) : HObj:=.box [.osl (.loc 1) g 0 m.l.length,.int .i64 m.keep]
def mkVec (m : Mk) (g : Nat) : HObj:=.vec g 3 (m.l.map pieceV)
def mkT (m : Mk) (g : Nat) : Heap:=[some (mkB m g),some (mkVec m g)]
theorem last_grown {m : Mk} (h : 0 < m.keep ∨ m.l.length = 0) : m.last = ⟨m.l ++ [⟨m.keep,0,[]⟩],0⟩:=by
 unfold Mk.last
 have : (decide (0 < m.keep) || m.l.isEmpty) = true:=by
  rcases h with h | h
  ·simp [h]
  ·have:=List.length_eq_zero_iff.1 h
   simp [this]
 rw [this]
 rfl
theorem last_still {m : Mk} (h : ¬ 0 < m.keep) (h' : m.l.length ≠ 0) : m.last = m:=by
 unfold Mk.last
 have : (decide (0 < m.keep) || m.l.isEmpty) = false:=by
  have h2 : m.l ≠ []:=fun e => h' (by rw [e];rfl)
  simp [h,h2]
 rw [this]
 rfl
set_option maxRecDepth 100000 in
theorem w_last (m : Mk) (g : Nat) (hok : m.Ok) (hw : m.w ≤ 1000000000000) : Fun Tryz.prog 199 (mkT m g) [.ptr (.loc 0) 0] (fun x T => ∃ g',x = .eptr (.loc 1) g' (m.last.l.length - 1) 0 ∧ T = mkT m.last g'):=by
 have hlen : (m.l.length : Int) ≤ 1000000000000:=by
  have:=sumW_len hok.l
  have:=hok.k
  unfold Mk.w at hw
  omega
 refine fun_keep 2 rfl (fun_fn 300 Tryz.func199 rfl rfl rfl fun imps B hi => ?_)
 have hroom : room ((m.l.map pieceV).length + 1) 32:=by
  unfold room
  simp only [List.length_map]
  omega
 refine ⟨fun g1 => go 300 ?_,fun g1 => go 300 ?_⟩
 ·have hl:=last_grown (.inl (lt_of g1))
  show Goes _ _ _ _
  refine goes_draw 300 ⟨rfl,⟨rfl,trivial⟩,rfl,rfl,rfl,rfl,by simp,hroom,?_⟩
  refine ⟨by kernel_rfl,?_⟩
  show Goes _ _ _ _
  refine goes_draw 300 ⟨rfl,⟨?_,?_⟩,rfl,?_,?_,?_⟩
  ·simp only [List.length_map,List.length_cons,List.length_nil];omega
  ·simp only [List.length_map,List.length_cons,List.length_nil];omega
  ·simp only [List.length_map,List.length_cons,List.length_nil];omega
  ·simp only [List.length_map,List.length_cons,List.length_nil];omega
  refine ⟨by kernel_rfl,?_⟩
  refine ⟨trivial,rfl,rfl,mkT m.last (bump g),rfl,rfl,⟨⟨?_,rfl⟩,⟨?_,rfl⟩,trivial⟩,bump g,?_,rfl⟩
  ·rw [hl];simp [mkB]
  ·rw [hl];simp [mkVec,pieceV]
  ·rw [hl]
   show V.eptr (Ref.loc 1) (bump g) _ 0 = _
   congr 1
   simp
 ·refine ⟨rfl,?_⟩
  refine ⟨fun g2 => go 300 ?_,fun g2 => go 300 ?_⟩
  ·have hz:=eq_of g2
   have hl:=last_grown (m:=m) (.inr (by omega))
   show Goes _ _ _ _
   refine goes_draw 300 ⟨rfl,⟨rfl,trivial⟩,rfl,rfl,rfl,rfl,by simp,hroom,?_⟩
   refine ⟨by kernel_rfl,?_⟩
   show Goes _ _ _ _
   refine goes_draw 300 ⟨rfl,⟨?_,?_⟩,rfl,?_,?_,?_⟩
   ·simp only [List.length_map,List.length_cons,List.length_nil];omega
   ·simp only [List.length_map,List.length_cons,List.length_nil];omega
   ·simp only [List.length_map,List.length_cons,List.length_nil];omega
   ·simp only [List.length_map,List.length_cons,List.length_nil];omega
   refine ⟨by kernel_rfl,?_⟩
   refine ⟨trivial,rfl,rfl,mkT m.last (bump g),rfl,rfl,⟨⟨?_,rfl⟩,⟨?_,rfl⟩,trivial⟩,bump g,?_,rfl⟩
   ·rw [hl];simp [mkB]
   ·rw [hl];simp [mkVec,pieceV]
   ·rw [hl]
    show V.eptr (Ref.loc 1) (bump g) _ 0 = _
    congr 1
    simp
  ·have hz:=ne_of g2
   have hl:=last_still (m:=m) (Int.not_lt.2 (not_lt_of g1)) (by omega)
   show Goes _ _ _ _
   refine goes_draw 300 ⟨rfl,⟨by omega,by omega⟩,rfl,by omega,by omega,?_⟩
   refine ⟨by kernel_rfl,?_⟩
   refine ⟨trivial,rfl,rfl,mkT m.last g,rfl,rfl,⟨⟨?_,rfl⟩,⟨?_,rfl⟩,trivial⟩,g,?_,rfl⟩
   ·rw [hl]
   ·rw [hl]
   ·rw [hl]
    show V.eptr (Ref.loc 1) g _ 0 = _
    congr 1
    simp
theorem set_modL {f : PieceT → PieceT} {l : List PieceT} (h : l ≠ []) {x : V} (hx : x = pieceV (f (l[l.length - 1]'(by have:=List.length_pos_iff.2 h;omega)))) : (l.map pieceV).set (l.length - 1) x = (modL f l).map pieceV:=by
 rw [modL_set f l (by have:=List.length_pos_iff.2 h;omega),List.map_set,hx]
theorem last_get {l : List PieceT} (h : l ≠ []) : (l.map pieceV)[l.length - 1]? = some (pieceV (l[l.length - 1]'(by have:=List.length_pos_iff.2 h;omega))):=by
 have:=List.length_pos_iff.2 h
 simp [show l.length - 1 < l.length by omega]
set_option maxRecDepth 100000 in
theorem w_mkPut (m : Mk) (g : Nat) (s : List UInt8) (hok : m.Ok) (hw : m.w ≤ 1000000000000) (hs : s.length ≤ 1000000000000) : Fun Tryz.prog 179 (mkT m g) [.ptr (.loc 0) 0,.str s] (fun x T => ∃ g',x = .tup [] ∧ T = mkT (m.put s) g'):=by
 refine fun_keep 2 rfl (fun_fn 300 Tryz.func179 rfl rfl rfl fun imps B hi => ?_)
 refine ⟨fun g1 => go 300 ?_,fun g1 => go 300 ?_⟩
 ·have hne : s.isEmpty = false:=by
   have : s ≠ []:=by simpa using g1
   cases s with
   | nil => exact absurd rfl this
   | cons a s => rfl
  have e : m.put s = ⟨modL (fun p => { p with put:=p.put ++ s }) m.last.l,m.last.keep⟩:=by unfold Mk.put;rw [hne];rfl
  obtain ⟨lok,lw⟩:=Mk.last_ok hok
  have hlast:=m.last_ne
  show CallThen _ _ _ _ _ _
  refine call_sub [0,1] (w_last m g hok hw) rfl rfl ⟨⟨rfl,rfl⟩,⟨rfl,rfl⟩,trivial⟩ rfl rfl rfl ?_
  rintro x T1 ⟨g',rfl,rfl⟩
  refine ⟨rfl,?_⟩
  show Goes _ _ _ _
  refine goes_nilE 300 rfl rfl rfl rfl rfl ?_
  have hput : (m.last.l[m.last.l.length - 1]'(by have:=List.length_pos_iff.2 hlast;omega)).put.length ≤ 1000000000001:=by
   have h1:=sumW_mem lok.l _ (List.getElem_mem (by have:=List.length_pos_iff.2 hlast;omega : m.last.l.length - 1 < m.last.l.length))
   have h2:=lok.l _ (List.getElem_mem (by have:=List.length_pos_iff.2 hlast;omega : m.last.l.length - 1 < m.last.l.length))
   have:=h2.k
   have:=h2.d
   have:=lok.k
   unfold PieceT.w at h1
   unfold Mk.w at lw hw
   omega
  refine ⟨rfl,rfl,_,last_get hlast,?_⟩
  refine ⟨by rw [List.length_append];omega,?_⟩
  show Goes _ _ _ _
  refine goes_nilE 300 rfl rfl rfl rfl rfl ?_
  refine ⟨rfl,rfl,_,last_get hlast,?_⟩
  refine ⟨trivial,rfl,rfl,mkT (m.put s) g',rfl,rfl,⟨⟨?_,rfl⟩,⟨?_,rfl⟩,trivial⟩,g',rfl,rfl⟩
  ·show some (mkB m.last g') = _
   rw [e]
   simp only [mkB,modL_len]
  ·rw [e]
   exact congrArg (fun z => some (HObj.vec g' 3 z)) (set_modL (f:=fun p => { p with put:=p.put ++ s }) hlast rfl)
 ·have hne : s = []:=by simpa using g1
  subst hne
  refine ⟨trivial,rfl,rfl,mkT m g,rfl,rfl,⟨⟨rfl,rfl⟩,⟨rfl,rfl⟩,trivial⟩,g,rfl,rfl⟩
set_option maxRecDepth 100000 in
theorem w_mkDrop (m : Mk) (g : Nat) (n : Int) (hok : m.Ok) (hw : m.w ≤ 1000000000000) (hs : n ≤ 1000000000000) : Fun Tryz.prog 183 (mkT m g) [.ptr (.loc 0) 0,.int .i64 n] (fun x T => ∃ g',x = .tup [] ∧ T = mkT (m.drop n) g'):=by
 refine fun_keep 2 rfl (fun_fn 300 Tryz.func183 rfl rfl rfl fun imps B hi => ?_)
 refine ⟨fun g1 => go 300 ?_,fun g1 => go 300 ?_⟩
 ·have hne : 0 < n:=lt_of g1
  have e : m.drop n = ⟨modL (fun p => { p with drop:=p.drop + n }) m.last.l,m.last.keep⟩:=by unfold Mk.drop;rw [decide_eq_true hne];rfl
  obtain ⟨lok,lw⟩:=Mk.last_ok hok
  have hlast:=m.last_ne
  show CallThen _ _ _ _ _ _
  refine call_sub [0,1] (w_last m g hok hw) rfl rfl ⟨⟨rfl,rfl⟩,⟨rfl,rfl⟩,trivial⟩ rfl rfl rfl ?_
  rintro x T1 ⟨g',rfl,rfl⟩
  refine ⟨rfl,?_⟩
  show Goes _ _ _ _
  refine goes_nilE 300 rfl rfl rfl rfl rfl ?_
  have hput : 0 ≤ (m.last.l[m.last.l.length - 1]'(by have:=List.length_pos_iff.2 hlast;omega)).drop ∧ (m.last.l[m.last.l.length - 1]'(by have:=List.length_pos_iff.2 hlast;omega)).drop ≤ 1000000000001:=by
   have h1:=sumW_mem lok.l _ (List.getElem_mem (by have:=List.length_pos_iff.2 hlast;omega : m.last.l.length - 1 < m.last.l.length))
   have h2:=lok.l _ (List.getElem_mem (by have:=List.length_pos_iff.2 hlast;omega : m.last.l.length - 1 < m.last.l.length))
   have:=h2.k
   have:=h2.d
   have:=lok.k
   unfold PieceT.w at h1
   unfold Mk.w at lw hw
   omega
  refine ⟨rfl,rfl,_,last_get hlast,?_⟩
  refine ⟨by constructor <;> omega,?_⟩
  show Goes _ _ _ _
  refine goes_nilE 300 rfl rfl rfl rfl rfl ?_
  refine ⟨rfl,rfl,_,last_get hlast,?_⟩
  refine ⟨trivial,rfl,rfl,mkT (m.drop n) g',rfl,rfl,⟨⟨?_,rfl⟩,⟨?_,rfl⟩,trivial⟩,g',rfl,rfl⟩
  ·show some (mkB m.last g') = _
   rw [e]
   simp only [mkB,modL_len]
  ·rw [e]
   exact congrArg (fun z => some (HObj.vec g' 3 z)) (set_modL (f:=fun p => { p with drop:=p.drop + n }) hlast rfl)
 ·have hne : ¬ 0 < n:=Int.not_lt.2 (not_lt_of g1)
  have e : m.drop n = m:=by unfold Mk.drop;rw [decide_eq_false hne];rfl
  rw [e]
  refine ⟨trivial,rfl,rfl,mkT m g,rfl,rfl,⟨⟨rfl,rfl⟩,⟨rfl,rfl⟩,trivial⟩,g,rfl,rfl⟩
set_option maxRecDepth 100000 in
theorem w_mkPiece (m : Mk) (g : Nat) (p : PieceT) (hok : m.Ok) (hp : p.Nn) (hw : m.w + p.w ≤ 900000000000) : Fun Tryz.prog 198 (mkT m g) [.ptr (.loc 0) 0,pieceV p] (fun x T => ∃ g',x = .tup [] ∧ T = mkT (m.piece p) g'):=by
 have p1:=hp.k
 have p2:=hp.d
 have m1:=hok.k
 have m2:=sumW_len hok.l
 have hw':=hw
 unfold PieceT.w Mk.w at hw'
 obtain ⟨a1,a2⟩:=Mk.kept_ok hok hp.k
 obtain ⟨b1,b2⟩:=Mk.put_ok (s:=p.put) a1
 have hpw : p.w = p.keep + p.drop + p.put.length + 1:=rfl
 refine fun_keep 2 rfl (fun_fn 300 Tryz.func198 rfl rfl rfl fun imps B hi => ?_)
 show Goes _ _ _ _
 refine goes_draw 300 ⟨⟨by omega,by omega⟩,?_⟩
 refine ⟨by kernel_rfl,?_⟩
 show CallThen _ _ _ _ _ _
 refine call_sub [0,1] (w_mkPut (m.kept p.keep) g p.put a1 (by omega) (by omega)) rfl rfl ⟨⟨rfl,rfl⟩,⟨rfl,rfl⟩,trivial⟩ rfl rfl rfl ?_
 rintro x T1 ⟨g1,rfl,rfl⟩
 refine ⟨rfl,?_⟩
 show CallThen _ _ _ _ _ _
 refine call_sub [0,1] (w_mkDrop ((m.kept p.keep).put p.put) g1 p.drop b1 (by omega) (by omega)) rfl rfl ⟨⟨rfl,rfl⟩,⟨rfl,rfl⟩,trivial⟩ rfl rfl rfl ?_
 rintro x T1 ⟨g2,rfl,rfl⟩
 refine ⟨rfl,?_⟩
 exact ⟨trivial,rfl,rfl,mkT (m.piece p) g2,rfl,rfl,⟨⟨rfl,rfl⟩,⟨rfl,rfl⟩,trivial⟩,g2,rfl,rfl⟩
theorem foldl_take_succ {l : List PieceT} {i : Nat} (hi : i < l.length) (m : Mk) : (l.take (i + 1)).foldl Mk.piece m = ((l.take i).foldl Mk.piece m).piece l[i]:=by
 rw [List.take_succ_eq_append_getElem hi,List.foldl_append]
 rfl
theorem sumW_take (l : List PieceT) (i : Nat) (h : ∀ p ∈ l,p.Nn) : sumW (l.take i) ≤ sumW l:=by
 have e:=sumW_append (l.take i) (l.drop i)
 rw [List.take_append_drop] at e
 have:=sumW_len (l:=l.drop i) fun p hp => h p (List.mem_of_mem_drop hp)
 omega
set_option maxRecDepth 100000 in
theorem w_norm (l : List PieceT) (h : ∀ p ∈ l,p.Nn) (hw : sumW l ≤ 100000000000) (hl : l.length ≤ 100000000000) : Fun Tryz.prog 177 [] [piecesV l] (fun x T => ∃ g k,x = .osl (.loc 1) g 0 (normP l).length ∧ T = [some (.box [.osl (.loc 1) g 0 (normP l).length,.int .i64 k]),some (.vec g 3 ((normP l).map pieceV))]):=by
 refine fun_keep 2 rfl (fun_fn 300 Tryz.func177 rfl rfl rfl fun imps B hi => ?_)
 have : imps = []:=List.length_eq_zero_iff.1 hi
 subst this
 show Goes _ _ _ _
 refine goes_ownCell 0 0 3 rfl rfl ?_
 refine goes_iter (ι:=Nat × Nat) (fun i => i.1 ≤ l.length) (fun i => l.length - i.1) (fun i => [(8,.int .i64 i.1),(7,.int .i64 l.length),(6,piecesV l),(3,.ptr (.loc 0) 0)]) (fun i => mkT ((l.take i.1).foldl Mk.piece Mk.nil) i.2) (0,0) 300 (fun _ => rfl) (fun _ => rfl)
  ⟨Nat.zero_le _,⟨⟨rfl,rfl⟩,⟨?_,rfl⟩,⟨rfl,rfl⟩,⟨rfl,rfl⟩,trivial⟩,⟨⟨rfl,rfl⟩,⟨rfl,rfl⟩,trivial⟩⟩ ?_
 ·show V.int _ _ = _
  simp
 rintro ⟨i,g⟩ k1 next
 simp only at k1
 refine ⟨fun hlt => go 300 ?_,fun hge => go 300 ?_⟩
 ·have hi : i < l.length:=by have:=lt_of hlt;omega
  have hx : (l.map pieceV)[i]? = some (pieceV l[i]):=by simp [hi]
  have hm : l[i] ∈ l:=List.getElem_mem hi
  obtain ⟨q1,q2⟩:=foldl_ok (l:=l.take i) Mk.nil_ok fun p hp => h p (List.mem_of_mem_take hp)
  have q3:=sumW_take l i h
  have q4:=sumW_mem h _ hm
  have q5 : Mk.nil.w = 0:=rfl
  refine ⟨Int.natCast_nonneg i,_,hx,?_⟩
  show CallThen _ _ _ _ _ _
  refine call_sub [0,1] (w_mkPiece _ g l[i] q1 (h _ hm) (by omega)) rfl rfl ⟨⟨rfl,rfl⟩,⟨rfl,rfl⟩,trivial⟩ rfl rfl rfl ?_
  rintro x T1 ⟨g1,rfl,rfl⟩
  refine ⟨rfl,?_⟩
  refine ⟨by constructor <;> omega,?_⟩
  show Goes _ _ _ _
  refine next (i + 1,g1) _ _ ⟨hi,by simp only;omega,⟨⟨rfl,rfl⟩,⟨rfl,rfl⟩,⟨rfl,rfl⟩,⟨rfl,rfl⟩,trivial⟩,?_⟩
  rw [show (l.take (i + 1)).foldl Mk.piece Mk.nil = _ from foldl_take_succ hi Mk.nil]
  exact ⟨⟨rfl,rfl⟩,⟨rfl,rfl⟩,trivial⟩
 ·have hi : i = l.length:=by have:=not_lt_of hge;omega
  subst hi
  refine ⟨trivial,rfl,rfl,mkT (l.foldl Mk.piece Mk.nil) g,rfl,rfl,⟨⟨?_,rfl⟩,⟨?_,rfl⟩,trivial⟩,g,(l.foldl Mk.piece Mk.nil).keep,?_,rfl⟩
  ·show some (mkB ((l.take l.length).foldl Mk.piece Mk.nil) g) = _
   rw [List.take_length]
  ·show some (mkVec ((l.take l.length).foldl Mk.piece Mk.nil) g) = _
   rw [List.take_length]
  ·show V.osl (Ref.loc 1) g 0 ((l.take l.length).foldl Mk.piece Mk.nil).l.length = _
   rw [List.take_length]
   rfl
end Bow
/- W56: leaftext's rows. -/
namespace Bow
open Go Go.Proofs
def rowVec (d r : List PieceT) (g : Nat) : HObj:=.vec g 3 ((d ++ r).map pieceV)
theorem row_get (d : List PieceT) (p : PieceT) (r : List PieceT) : ((d ++ p :: r).map pieceV)[d.length + ((0 : Int)).toNat]? = some (pieceV p):=by simp
theorem row_set (d : List PieceT) (p q : PieceT) (r : List PieceT) : ((d ++ p :: r).map pieceV).set (d.length + ((0 : Int)).toNat) (pieceV q) = (d ++ q :: r).map pieceV:=by simp
set_option maxRecDepth 100000 in
theorem w_rowPut (d r : List PieceT) (g : Nat) : Fun Tryz.prog 178 [some (rowVec d r g)] [.osl (.loc 0) g d.length r.length] (fun x T => x = .tup [.str (rowPut r).1,.bool (rowHas r)] ∧ T = [some (rowVec d (rowPut r).2 g)]):=by
 refine fun_wk (fun_fn 300 Tryz.func178 rfl rfl rfl fun imps B hi => ?_)
 have ff : ∀ {s : List UInt8} {b : Bool},b = false → Wk (.tup [.str s,.ff]) (.tup [.str s,.bool b]):=fun h => by subst h;exact Wk.tup ⟨.refl _,Wk.ff,trivial⟩
 have tt : ∀ {s : List UInt8} {b : Bool},b = true → Wk (.tup [.str s,.tt]) (.tup [.str s,.bool b]):=fun h => by subst h;exact Wk.tup ⟨.refl _,Wk.tt,trivial⟩
 cases r with
 | nil =>
  refine ⟨rfl,?_⟩
  refine ⟨fun g1 => go 300 ?_,fun g1 => absurd rfl (ne_of g1)⟩
  exact ⟨trivial,rfl,rfl,_,ff rfl,rfl,rfl,rfl,rfl⟩
 | cons p r =>
  refine ⟨rfl,?_⟩
  refine ⟨fun g1 => by have:=eq_of g1;simp at this;omega,fun g1 => go 300 ?_⟩
  have hl : (0 : Int) < ((p :: r).length : Nat):=by simp
  refine ⟨rfl,by decide,hl,rfl,rfl,_,row_get d p r,?_⟩
  refine ⟨fun g2 => go 300 ?_,fun g2 => go 300 ?_⟩
  ·have e : (decide (0 < p.keep) || p.put.isEmpty) = true:=by rw [g2];rfl
   have e1 : rowPut (p :: r) = ([],p :: r):=by show (bif _ then _ else _) = _;rw [e];rfl
   have e2 : rowHas (p :: r) = false:=by show (!_) = _;rw [e];rfl
   exact ⟨trivial,rfl,rfl,.tup [.str [],.bool (rowHas (p :: r))],ff e2,rfl,rfl,by rw [e1],by show [some (rowVec d (p :: r) g)] = _;rw [e1]⟩
  ·refine ⟨rfl,by decide,hl,rfl,rfl,_,row_get d p r,?_⟩
   refine ⟨fun g3 => go 300 ?_,fun g3 => go 300 ?_⟩
   ·have g3 : p.put = []:=by simpa using g3
    have e : (decide (0 < p.keep) || p.put.isEmpty) = true:=by rw [g3];simp
    have e1 : rowPut (p :: r) = ([],p :: r):=by show (bif _ then _ else _) = _;rw [e];rfl
    have e2 : rowHas (p :: r) = false:=by show (!_) = _;rw [e];rfl
    exact ⟨trivial,rfl,rfl,.tup [.str [],.bool (rowHas (p :: r))],ff e2,rfl,rfl,by rw [e1],by show [some (rowVec d (p :: r) g)] = _;rw [e1]⟩
   ·have g3 : p.put ≠ []:=by simpa using g3
    have e : (decide (0 < p.keep) || p.put.isEmpty) = false:=by rw [g2];simp [g3]
    refine ⟨rfl,by decide,hl,rfl,rfl,_,row_get d p r,?_⟩
    refine ⟨rfl,by decide,hl,rfl,rfl,_,row_get d p r,?_⟩
    have e1 : rowPut (p :: r) = (p.put,{ p with put:=[] } :: r):=by show (bif _ then _ else _) = _;rw [e];rfl
    have e2 : rowHas (p :: r) = true:=by show (!_) = _;rw [e];rfl
    refine ⟨trivial,rfl,rfl,.tup [.str p.put,.bool (rowHas (p :: r))],tt e2,rfl,rfl,by rw [e1],?_⟩
    rw [e1]
    exact congrArg (fun z => [some (HObj.vec g 3 z)]) (row_set d p { p with put:=[] } r)
set_option maxRecDepth 100000 in
theorem w_rowTake (d r : List PieceT) (g : Nat) (n : Int) (hn : 0 ≤ n ∧ n ≤ 1000000000000) (hr : ∀ p ∈ r,p.Nn ∧ p.w ≤ 1000000000000) : Fun Tryz.prog 181 [some (rowVec d r g)] [.osl (.loc 0) g d.length r.length,.int .i64 n] (fun x T => x = .tup [] ∧ T = [some (rowVec d (rowTake n r) g)]):=by
 refine fun_fn 300 Tryz.func181 rfl rfl rfl fun imps B hi => ?_
 cases r with
 | nil =>
  refine ⟨rfl,?_⟩
  refine ⟨fun g1 => go 300 ?_,fun g1 => absurd rfl (ne_of g1)⟩
  exact ⟨trivial,rfl,rfl,rfl,rfl⟩
 | cons p r =>
  refine ⟨rfl,?_⟩
  refine ⟨fun g1 => by have:=eq_of g1;simp at this;omega,fun g1 => go 300 ?_⟩
  have hl : (0 : Int) < ((p :: r).length : Nat):=by simp
  obtain ⟨hp,hw⟩:=hr p List.mem_cons_self
  have h1:=hp.k
  have h2:=hp.d
  unfold PieceT.w at hw
  refine ⟨rfl,by decide,hl,?_⟩
  show Goes _ _ _ _
  refine goes_nilE 300 rfl rfl rfl rfl rfl ?_
  refine ⟨rfl,rfl,_,row_get d p r,?_⟩
  refine ⟨fun g2 => go 300 ?_,fun g2 => go 300 ?_⟩
  ·show Goes _ _ _ _
   refine goes_nilE 300 rfl rfl rfl rfl rfl ?_
   refine ⟨rfl,rfl,_,row_get d p r,by constructor <;> omega,?_⟩
   show Goes _ _ _ _
   refine goes_nilE 300 rfl rfl rfl rfl rfl ?_
   refine ⟨rfl,rfl,_,row_get d p r,?_⟩
   refine ⟨trivial,rfl,rfl,rfl,?_⟩
   have er : rowTake n (p :: r) = { p with keep:=p.keep - n } :: r:=by
    show (bif decide (0 < p.keep) then _ else _) = _
    rw [g2]
    rfl
   rw [er]
   exact congrArg (fun z => [some (HObj.vec g 3 z)]) (row_set d p { p with keep:=p.keep - n } r)
  ·show Goes _ _ _ _
   refine goes_nilE 300 rfl rfl rfl rfl rfl ?_
   refine ⟨rfl,rfl,_,row_get d p r,by constructor <;> omega,?_⟩
   show Goes _ _ _ _
   refine goes_nilE 300 rfl rfl rfl rfl rfl ?_
   refine ⟨rfl,rfl,_,row_get d p r,?_⟩
   refine ⟨trivial,rfl,rfl,rfl,?_⟩
   have er : rowTake n (p :: r) = { p with drop:=p.drop - n } :: r:=by
    show (bif decide (0 < p.keep) then _ else _) = _
    rw [g2]
    rfl
   rw [er]
   exact congrArg (fun z => [some (HObj.vec g 3 z)]) (row_set d p { p with drop:=p.drop - n } r)
end Bow
/- W57: leaftext's rows go on; what is done. -/
namespace Bow
open Go Go.Proofs
def runV (r : Int × Bool × Bool) : V:=.tup [.int .i64 r.1,.bool r.2.1,.bool r.2.2]
def rowB (d r : List PieceT) (g : Nat) : HObj:=.box [.osl (.loc 1) g d.length r.length]
set_option maxRecDepth 100000 in
theorem w_rowRun (d0 r0 : List PieceT) (g : Nat) : Fun Tryz.prog 180 [some (rowB d0 r0 g),some (rowVec d0 r0 g)] [.ptr (.loc 0) 0] (fun x T => x = runV (rowRun r0).1 ∧ ∃ d,d ++ (rowRun r0).2 = d0 ++ r0 ∧ T = [some (rowB d (rowRun r0).2 g),some (rowVec d (rowRun r0).2 g)]):=by
 have wk : ∀ {n : Int} {x y : V} {a b : Bool},(x = .tt ∧ a = true ∨ x = .ff ∧ a = false) → (y = .tt ∧ b = true ∨ y = .ff ∧ b = false) → Wk (.tup [.int .i64 n,x,y]) (runV (n,a,b)):=by
  rintro n x y a b (⟨rfl,rfl⟩ | ⟨rfl,rfl⟩) (⟨rfl,rfl⟩ | ⟨rfl,rfl⟩) <;> exact Wk.tup ⟨.refl _,by first | exact Wk.tt | exact Wk.ff,by first | exact Wk.tt | exact Wk.ff,trivial⟩
 refine fun_wk (fun_keep 2 rfl (fun_fn 300 Tryz.func180 rfl rfl rfl fun imps B hi => ?_))
 show Goes _ _ _ _
 refine goes_iter (ι:=List PieceT × List PieceT) (fun i => i.1 ++ i.2 = d0 ++ r0 ∧ rowRun i.2 = rowRun r0 ∧ i.2.length ≤ r0.length) (fun i => i.2.length) (fun i => [(0,.ptr (.loc 0) 0)]) (fun i => [some (rowB i.1 i.2 g),some (rowVec i.1 i.2 g)]) (d0,r0) 300 (fun _ => rfl) (fun _ => by rw [hi];rfl)
  ⟨⟨rfl,rfl,Nat.le_refl _⟩,⟨⟨rfl,rfl⟩,trivial⟩,⟨⟨rfl,rfl⟩,⟨rfl,rfl⟩,trivial⟩⟩ ?_
 rintro ⟨d,r⟩ ⟨k1,k2,k3⟩ next
 simp only at k1 k2 k3
 cases r with
 | nil =>
  refine ⟨rfl,?_⟩
  refine ⟨fun g1 => absurd (lt_of g1) (by simp),fun g1 => go 300 ?_⟩
  have e : rowRun r0 = ((0,false,false),[]):=k2.symm
  rw [e]
  exact ⟨trivial,rfl,rfl,[some (rowB d [] g),some (rowVec d [] g)],rfl,rfl,⟨⟨rfl,rfl⟩,⟨rfl,rfl⟩,trivial⟩,_,wk (.inr ⟨rfl,rfl⟩) (.inr ⟨rfl,rfl⟩),rfl,rfl,rfl,d,k1,rfl⟩
 | cons p r =>
  refine ⟨rfl,?_⟩
  refine ⟨fun g1 => go 300 ?_,fun g1 => absurd (not_lt_of g1) (by simp)⟩
  have hl : (0 : Int) < ((p :: r).length : Nat):=by simp
  refine ⟨rfl,by decide,hl,rfl,_,row_get d p r,?_⟩
  refine ⟨fun g2 => go 300 ?_,fun g2 => go 300 ?_⟩
  ·have e : rowRun r0 = ((p.keep,false,true),p :: r):=by rw [← k2,rowRun,g2];rfl
   rw [e]
   exact ⟨trivial,rfl,rfl,[some (rowB d (p :: r) g),some (rowVec d (p :: r) g)],rfl,rfl,⟨⟨rfl,rfl⟩,⟨rfl,rfl⟩,trivial⟩,_,wk (.inr ⟨rfl,rfl⟩) (.inl ⟨rfl,rfl⟩),rfl,rfl,rfl,d,k1,rfl⟩
  ·refine ⟨fun g3 => go 300 ?_,fun g3 => go 300 ?_⟩
   ·have e : rowRun r0 = ((p.drop,true,true),p :: r):=by rw [← k2,rowRun,g2,g3];rfl
    rw [e]
    exact ⟨trivial,rfl,rfl,[some (rowB d (p :: r) g),some (rowVec d (p :: r) g)],rfl,rfl,⟨⟨rfl,rfl⟩,⟨rfl,rfl⟩,trivial⟩,_,wk (.inl ⟨rfl,rfl⟩) (.inl ⟨rfl,rfl⟩),rfl,rfl,rfl,d,k1,rfl⟩
   ·have e : rowRun r = rowRun r0:=by rw [← k2,rowRun,g2,g3];rfl
    show Goes _ _ _ _
    refine goes_cutlo (h:=1) 300 rfl rfl rfl rfl rfl rfl rfl rfl rfl (by simp) ?_
    show Goes _ _ _ _
    have k1' : (d ++ [p]) ++ r = d0 ++ r0:=by rw [← k1];simp
    refine next (d ++ [p],r) _ _ ⟨⟨k1',e,by simp only;simp at k3;omega⟩,by simp,⟨⟨rfl,rfl⟩,trivial⟩,⟨⟨?_,rfl⟩,⟨?_,rfl⟩,trivial⟩⟩
    ·show some (HObj.box [.osl (.loc 1) g (d.length + 1) ((p :: r).length - 1)]) = some (rowB (d ++ [p]) r g)
     simp [rowB]
    ·show some (rowVec d (p :: r) g) = some (rowVec (d ++ [p]) r g)
     simp [rowVec]
def boxAt (k : Nat) (d r : List PieceT) (g : Nat) : HObj:=.box [.osl (.loc k) g d.length r.length]
def rows2 (da a db b : List PieceT) (ga gb : Nat) : Heap:=[some (boxAt 1 da a ga),some (rowVec da a ga),some (boxAt 3 db b gb),some (rowVec db b gb)]
def bothV (r : Int × Bool × Bool × Bool) : V:=.tup [.int .i64 r.1,.bool r.2.1,.bool r.2.2.1,.bool r.2.2.2]
theorem rows2_take (n : Int) (da a db b : List PieceT) (ga gb : Nat) : [some (boxAt 1 da a ga),some (rowVec da (rowTake n a) ga),some (boxAt 3 db b gb),some (rowVec db (rowTake n b) gb)] = rows2 da (rowTake n a) db (rowTake n b) ga gb:=by
 simp only [rows2,boxAt,rowTake_len]
set_option maxHeartbeats 1000000 in
set_option maxRecDepth 100000 in
theorem w_both (da a db b : List PieceT) (ga gb : Nat) (ha : RowOk a) (hb : RowOk b) : Fun Tryz.prog 225 (rows2 da a db b ga gb) [.ptr (.loc 0) 0,.ptr (.loc 2) 0] (fun x T => x = bothV (bothR a b).1 ∧ ∃ da' db',T = rows2 da' (bothR a b).2.1 db' (bothR a b).2.2 ga gb):=by
 have wk : ∀ {n : Int} {x y a b : Bool} {z : V},x = a → y = b → z = .tt → Wk (.tup [.int .i64 n,.bool x,.bool y,z]) (bothV (n,a,b,true)):=by
  rintro n x y a b z rfl rfl rfl
  exact Wk.tup ⟨.refl _,.refl _,.refl _,Wk.tt,trivial⟩
 obtain ⟨oa,na,na'⟩:=rowRun_ok ha
 obtain ⟨ob,nb,nb'⟩:=rowRun_ok hb
 have ca:=w_rowRun da a ga
 have cb:=w_rowRun db b gb
 obtain ⟨⟨⟨n,x1,s1⟩,a'⟩,hra⟩ : ∃ z,rowRun a = z:=⟨_,rfl⟩
 obtain ⟨⟨⟨m,y1,s2⟩,b'⟩,hrb⟩ : ∃ z,rowRun b = z:=⟨_,rfl⟩
 have eb:=bothR_eq hra hrb
 rw [hra] at oa na na' ca
 rw [hrb] at ob nb nb' cb
 rw [eb]
 clear eb hra hrb
 refine fun_wk (fun_fn 300 Tryz.func225 rfl rfl rfl fun imps B hi => ?_)
 show CallThen _ _ _ _ _ _
 refine call_sub [0,1] ca rfl rfl ⟨⟨rfl,rfl⟩,⟨rfl,rfl⟩,trivial⟩ rfl rfl rfl ?_
 rintro x T1 ⟨rfl,d1,-,rfl⟩
 refine ⟨rfl,?_⟩
 show CallThen _ _ _ _ _ _
 refine call_sub [2,3] cb rfl rfl ⟨⟨rfl,rfl⟩,⟨rfl,rfl⟩,trivial⟩ rfl rfl rfl ?_
 rintro x T1 ⟨rfl,d2,-,rfl⟩
 refine ⟨rfl,?_⟩
 cases s1 <;> cases s2 <;> (refine ⟨fun g1 => ?_,fun g1 => ?_⟩ <;> first | (cases g1;done) | skip)
 ·refine go 300 ?_
  refine ⟨fun g2 => go 300 ?_,fun g2 => (by cases g2)⟩
  exact ⟨trivial,rfl,rfl,bothV (0,false,false,false),Wk.tup ⟨.refl _,Wk.ff,Wk.ff,Wk.ff,trivial⟩,rfl,rfl,rfl,d1,d2,rfl⟩
 ·refine go 300 ?_
  refine ⟨fun g2 => (by cases g2),fun g2 => go 300 ?_⟩
  refine ⟨fun g3 => go 300 ?_,fun g3 => (by cases g3)⟩
  have hk : 0 ≤ m ∧ m ≤ 1000000000000:=⟨nb,nb'⟩
  show CallThen _ _ _ _ _ _
  refine call_sub [1] (w_rowTake d1 a' ga m hk oa.p) rfl rfl ⟨⟨rfl,rfl⟩,trivial⟩ rfl rfl rfl ?_
  rintro x T1 ⟨rfl,rfl⟩
  refine ⟨rfl,?_⟩
  show CallThen _ _ _ _ _ _
  refine call_sub [3] (w_rowTake d2 b' gb m hk ob.p) rfl rfl ⟨⟨rfl,rfl⟩,trivial⟩ rfl rfl rfl ?_
  rintro x T1 ⟨rfl,rfl⟩
  refine ⟨rfl,?_⟩
  refine ⟨trivial,rfl,rfl,bothV (m,x1,y1,true),wk rfl rfl rfl,rfl,rfl,?_,d1,d2,?_⟩
  ·rfl
  ·exact rows2_take _ d1 a' d2 b' ga gb
 ·refine go 300 ?_
  refine ⟨fun g3 => (by cases g3),fun g3 => go 300 ?_⟩
  refine ⟨fun g4 => (by cases g4),fun g4 => go 300 ?_⟩
  have hk : 0 ≤ n ∧ n ≤ 1000000000000:=⟨na,na'⟩
  show CallThen _ _ _ _ _ _
  refine call_sub [1] (w_rowTake d1 a' ga n hk oa.p) rfl rfl ⟨⟨rfl,rfl⟩,trivial⟩ rfl rfl rfl ?_
  rintro x T1 ⟨rfl,rfl⟩
  refine ⟨rfl,?_⟩
  show CallThen _ _ _ _ _ _
  refine call_sub [3] (w_rowTake d2 b' gb n hk ob.p) rfl rfl ⟨⟨rfl,rfl⟩,trivial⟩ rfl rfl rfl ?_
  rintro x T1 ⟨rfl,rfl⟩
  refine ⟨rfl,?_⟩
  refine ⟨trivial,rfl,rfl,bothV (n,x1,y1,true),wk rfl rfl rfl,rfl,rfl,?_,d1,d2,?_⟩
  ·rfl
  ·exact rows2_take _ d1 a' d2 b' ga gb
 ·refine go 300 ?_
  refine ⟨fun g3 => (by cases g3),fun g3 => go 300 ?_⟩
  refine ⟨fun g4 => go 300 ?_,fun g4 => (by cases g4)⟩
  have em : (if m < n then m else n) = min n m:=by split <;> omega
  have hk : 0 ≤ (if m < n then m else n) ∧ (if m < n then m else n) ≤ 1000000000000:=by simp only at na na' nb nb';split <;> omega
  show CallThen _ _ _ _ _ _
  refine call_sub [1] (w_rowTake d1 a' ga (if m < n then m else n) hk oa.p) rfl rfl ⟨⟨rfl,rfl⟩,trivial⟩ rfl rfl rfl ?_
  rintro x T1 ⟨rfl,rfl⟩
  refine ⟨rfl,?_⟩
  show CallThen _ _ _ _ _ _
  refine call_sub [3] (w_rowTake d2 b' gb (if m < n then m else n) hk ob.p) rfl rfl ⟨⟨rfl,rfl⟩,trivial⟩ rfl rfl rfl ?_
  rintro x T1 ⟨rfl,rfl⟩
  refine ⟨rfl,?_⟩
  refine ⟨trivial,rfl,rfl,bothV ((if m < n then m else n),x1,y1,true),wk rfl rfl rfl,rfl,rfl,?_,d1,d2,?_⟩
  ·rw [em];rfl
  ·rw [em];exact rows2_take _ d1 a' d2 b' ga gb
end Bow
/- W58: leaftext.Transform. -/
namespace Bow
open Go Go.Proofs
theorem mk_len {m : Mk} (hok : m.Ok) (hw : m.w ≤ 1000000000000) : m.l.length ≤ 1000000000000 ∧ ∀ p ∈ m.l,p.put.length ≤ 1000000000000:=by
 have h1:=sumW_len hok.l
 have h2:=hok.k
 unfold Mk.w at hw
 refine ⟨by omega,fun p hp => ?_⟩
 have h3:=sumW_mem hok.l p hp
 have h4:=(hok.l p hp).k
 have h5:=(hok.l p hp).d
 unfold PieceT.w at h3
 omega
theorem mk_keep {m : Mk} (hok : m.Ok) : m.keep ≤ m.w:=by
 have h1:=sumW_len hok.l
 unfold Mk.w
 omega
set_option maxRecDepth 100000 in
theorem w_done (m : Mk) (g : Nat) (hok : m.Ok) (hw : m.w ≤ 1000000000000) : Fun Tryz.prog 184 (mkT m g) [.ptr (.loc 0) 0] (fun x T => x = .tup [.osl (.loc 1) g 0 m.l.length,.bool (rightP m.l)] ∧ T = mkT m g):=by
 obtain ⟨h1,h2⟩:=mk_len hok hw
 have cr:=w_RightW m.l h1 h2
 refine fun_fn 300 Tryz.func184 rfl rfl rfl fun imps B hi => ?_
 show Goes _ _ _ _
 refine goes_draw 300 ⟨rfl,by simp,_,cr,rfl,?_⟩
 refine ⟨by kernel_rfl,?_⟩
 exact ⟨trivial,rfl,rfl,rfl,rfl⟩
def mkAt (k : Nat) (m : Mk) (g : Nat) : HObj:=.box [.osl (.loc k) g 0 m.l.length,.int .i64 m.keep]
def putsT (prior : Bool) (da db : List PieceT) (s : Tr) (ga gb gx gy : Nat) : Heap :=
 [some (boxAt 1 da s.p ga),some (rowVec da s.p ga),some (boxAt 3 db s.q gb),some (rowVec db s.q gb),some (.box [.bool prior]),some (mkAt 6 s.x gx),some (mkVec s.x gx),some (mkAt 8 s.y gy),some (mkVec s.y gy)]
theorem putsT_len (prior : Bool) (da db p p' q q' : List PieceT) (x y : Mk) (ga gb gx gy : Nat) (h1 : p'.length = p.length) (h2 : q'.length = q.length) :
  [some (boxAt 1 da p ga),some (rowVec da p' ga),some (boxAt 3 db q gb),some (rowVec db q' gb),some (.box [.bool prior]),some (mkAt 6 x gx),some (mkVec x gx),some (mkAt 8 y gy),some (mkVec y gy)] = putsT prior da db ⟨p',q',x,y⟩ ga gb gx gy:=by
 simp only [putsT,boxAt,h1,h2]
set_option pp.maxSteps 300 in
set_option maxHeartbeats 1000000 in
set_option maxRecDepth 100000 in
theorem w_trPuts (prior : Bool) (da db : List PieceT) (s : Tr) (ga gb gx gy : Nat) (hp : RowOk s.p) (hq : RowOk s.q) (hx : s.x.Ok) (hy : s.y.Ok) (wx : s.x.w + rowR s.p + rowR s.q ≤ 900000000000) (wy : s.y.w + rowR s.p + rowR s.q ≤ 900000000000) :
  Fun Tryz.prog 224 (putsT prior da db s ga gb gx gy) [.ptr (.loc 0) 0,.ptr (.loc 2) 0,.ptr (.loc 4) 0,.ptr (.loc 5) 0,.ptr (.loc 7) 0] (fun x T => x = .tup [] ∧ ∃ gx' gy',T = putsT prior da db (s.puts prior) ga gb gx' gy'):=by
 obtain ⟨p,q,x,y⟩:=s
 simp only at hp hq hx hy wx wy
 have cp:=w_rowPut da p ga
 have cq:=w_rowPut db q gb
 have lp:=rowPut_len p
 have lq:=rowPut_len q
 obtain ⟨-,rp,-,bp⟩:=rowPut_ok hp
 obtain ⟨-,rq,-,bq⟩:=rowPut_ok hq
 have np:=rowR_nn (rowPut_ok hp).1.nn
 have nq:=rowR_nn (rowPut_ok hq).1.nn
 have nx:=hx.k
 have ny:=hy.k
 have e : Tr.puts prior ⟨p,q,x,y⟩ = bif prior then ⟨(rowPut p).2,(rowPut q).2,(x.put (rowPut p).1).kept (rowPut q).1.length,(y.kept (rowPut p).1.length).put (rowPut q).1⟩ else ⟨(rowPut p).2,(rowPut q).2,(x.kept (rowPut q).1.length).put (rowPut p).1,(y.put (rowPut q).1).kept (rowPut p).1.length⟩:=rfl
 rw [e]
 clear e
 obtain ⟨⟨a,p'⟩,ha⟩ : ∃ z,rowPut p = z:=⟨_,rfl⟩
 obtain ⟨⟨b,q'⟩,hb⟩ : ∃ z,rowPut q = z:=⟨_,rfl⟩
 rw [ha] at cp lp rp bp np ⊢
 rw [hb] at cq lq rq bq nq ⊢
 simp only at lp rp bp np lq rq bq nq
 clear ha hb
 refine fun_keep 9 rfl (fun_fn 300 Tryz.func224 rfl rfl rfl fun imps B hi => ?_)
 show CallThen _ _ _ _ _ _
 refine call_sub [1] cp rfl rfl ⟨⟨rfl,rfl⟩,trivial⟩ rfl rfl rfl ?_
 rintro z T1 ⟨rfl,rfl⟩
 refine ⟨rfl,?_⟩
 show CallThen _ _ _ _ _ _
 refine call_sub [3] cq rfl rfl ⟨⟨rfl,rfl⟩,trivial⟩ rfl rfl rfl ?_
 rintro z T1 ⟨rfl,rfl⟩
 refine ⟨rfl,?_⟩
 refine ⟨fun g1 => go 300 ?_,fun g1 => go 300 ?_⟩
 ·subst g1
  show CallThen _ _ _ _ _ _
  refine call_sub [5,6] (w_mkPut x gx a hx (by omega) (by omega)) rfl rfl ⟨⟨rfl,rfl⟩,⟨rfl,rfl⟩,trivial⟩ rfl rfl rfl ?_
  rintro z T1 ⟨gx',rfl,rfl⟩
  refine ⟨rfl,?_⟩
  obtain ⟨x1,x2⟩:=Mk.put_ok (s:=a) hx
  have x3:=mk_keep x1
  have x4:=x1.k
  have y3:=mk_keep hy
  obtain ⟨y1,y2⟩:=Mk.kept_ok (n:=(a.length : Int)) hy (Int.natCast_nonneg _)
  refine ⟨by constructor <;> (simp only;omega),?_⟩
  refine ⟨by constructor <;> (simp only;omega),?_⟩
  show CallThen _ _ _ _ _ _
  refine call_sub [7,8] (w_mkPut (y.kept a.length) gy b y1 (by omega) (by omega)) rfl rfl ⟨⟨rfl,rfl⟩,⟨rfl,rfl⟩,trivial⟩ rfl rfl rfl ?_
  rintro z T1 ⟨gy',rfl,rfl⟩
  refine ⟨rfl,?_⟩
  refine ⟨trivial,rfl,rfl,putsT true da db ⟨p',q',(x.put a).kept b.length,(y.kept a.length).put b⟩ ga gb gx' gy',rfl,rfl,?_,rfl,gx',gy',rfl⟩
  rw [← putsT_len true da db p p' q q' _ _ ga gb gx' gy' lp lq]
  exact ⟨⟨rfl,rfl⟩,⟨rfl,rfl⟩,⟨rfl,rfl⟩,⟨rfl,rfl⟩,⟨rfl,rfl⟩,⟨rfl,rfl⟩,⟨rfl,rfl⟩,⟨rfl,rfl⟩,⟨rfl,rfl⟩,trivial⟩
 ·subst g1
  show CallThen _ _ _ _ _ _
  refine call_sub [7,8] (w_mkPut y gy b hy (by omega) (by omega)) rfl rfl ⟨⟨rfl,rfl⟩,⟨rfl,rfl⟩,trivial⟩ rfl rfl rfl ?_
  rintro z T1 ⟨gy',rfl,rfl⟩
  refine ⟨rfl,?_⟩
  obtain ⟨y1,y2⟩:=Mk.put_ok (s:=b) hy
  have y3:=mk_keep y1
  have y4:=y1.k
  have x3:=mk_keep hx
  obtain ⟨x1,x2⟩:=Mk.kept_ok (n:=(b.length : Int)) hx (Int.natCast_nonneg _)
  refine ⟨by constructor <;> (simp only;omega),?_⟩
  refine ⟨by constructor <;> (simp only;omega),?_⟩
  show CallThen _ _ _ _ _ _
  refine call_sub [5,6] (w_mkPut (x.kept b.length) gx a x1 (by omega) (by omega)) rfl rfl ⟨⟨rfl,rfl⟩,⟨rfl,rfl⟩,trivial⟩ rfl rfl rfl ?_
  rintro z T1 ⟨gx',rfl,rfl⟩
  refine ⟨rfl,?_⟩
  refine ⟨trivial,rfl,rfl,putsT false da db ⟨p',q',(x.kept b.length).put a,(y.put b).kept a.length⟩ ga gb gx' gy',rfl,rfl,?_,rfl,gx',gy',rfl⟩
  rw [← putsT_len false da db p p' q q' _ _ ga gb gx' gy' lp lq]
  exact ⟨⟨rfl,rfl⟩,⟨rfl,rfl⟩,⟨rfl,rfl⟩,⟨rfl,rfl⟩,⟨rfl,rfl⟩,⟨rfl,rfl⟩,⟨rfl,rfl⟩,⟨rfl,rfl⟩,⟨rfl,rfl⟩,trivial⟩
end Bow
/- W59: leaftext.Transform, whole. -/
namespace Bow
open Go Go.Proofs
def TransV (r : List PieceT × List PieceT × Int) : V:=.tup [piecesV r.1,piecesV r.2.1,.int .i64 r.2.2]
theorem transZ {e : Int} {R : List PieceT × List PieceT × Int} (h : R = ([],[],e)) : ∃ y,Wk (.tup [.nilsl,.nilsl,.int .i64 e]) y ∧ y.pureB = true ∧ y = TransV R:=⟨TransV ([],[],e),Wk.tup ⟨Wk.nil 3,Wk.nil 3,.refl _,trivial⟩,rfl,by rw [h]⟩
structure TrI where
 f : Nat
 s : Tr
 d1 : List PieceT
 d2 : List PieceT
 gx : Nat
 gy : Nat
def trT (prior : Bool) (j1 j2 : HObj) (ga gb : Nat) (i : TrI) : Heap :=
 [some (.box [.bool prior]),some j1,some (rowVec i.d1 i.s.p ga),some j2,some (rowVec i.d2 i.s.q gb),some (boxAt 2 i.d1 i.s.p ga),some (boxAt 4 i.d2 i.s.q gb),some (mkAt 9 i.s.x i.gx),some (mkAt 10 i.s.y i.gy),some (mkVec i.s.x i.gx),some (mkVec i.s.y i.gy)]
set_option maxHeartbeats 4000000 in
set_option maxRecDepth 100000 in
theorem w_Trans (a b : List PieceT) (prior : Bool) (ha : a.length ≤ 1000000) (hb : b.length ≤ 1000000) (pa : ∀ p ∈ a,p.put.length ≤ 1000000000) (pb : ∀ p ∈ b,p.put.length ≤ 1000000000) :
  Pure Tryz.prog 210 [piecesV a,piecesV b,.bool prior] (fun x => x = TransV (transP a b prior)):=by
 obtain ⟨R,hR⟩ : ∃ R,transP a b prior = R:=⟨_,rfl⟩
 rw [hR]
 refine pure_wk (pure_fn 300 Tryz.func210 rfl rfl rfl fun B => ?_)
 have bad : (rightP a = false ∨ rightP b = false) → R = ([],[],2):=fun h => by
  rw [← hR]
  unfold transP
  rcases h with h | h
  ·rw [h];rfl
  ·rw [h];cases rightP a <;> rfl
 show CallThen _ _ _ _ _ _
 refine call_pure (w_Right a ha pa) rfl ?_
 rintro x rfl
 refine ⟨fun g1 => go 300 ?_,fun g1 => go 300 ?_⟩
 ·exact ⟨trivial,rfl,rfl,rfl,transZ (bad (.inl (by simpa using g1)))⟩
 have ra : rightP a = true:=by simpa using g1
 show CallThen _ _ _ _ _ _
 refine call_pure (w_Right b hb pb) rfl ?_
 rintro x rfl
 refine ⟨fun g2 => go 300 ?_,fun g2 => go 300 ?_⟩
 ·exact ⟨trivial,rfl,rfl,rfl,transZ (bad (.inr (by simpa using g2)))⟩
 have rb : rightP b = true:=by simpa using g2
 obtain ⟨na,sa⟩:=right_nn ra
 obtain ⟨nb,sb⟩:=right_nn rb
 obtain ⟨oa,wa⟩:=norm_ok ra
 obtain ⟨ob,wb⟩:=norm_ok rb
 have la:=sumW_len na
 have lb:=sumW_len nb
 show CallThen _ _ _ _ _ _
 refine call_sub [] (w_norm a na (by omega) (by omega)) rfl rfl trivial rfl rfl rfl ?_
 rintro x T1 ⟨ga,ka,rfl,rfl⟩
 refine ⟨rfl,?_⟩
 show CallThen _ _ _ _ _ _
 refine call_sub [] (w_norm b nb (by omega) (by omega)) rfl rfl trivial rfl rfl rfl ?_
 rintro x T1 ⟨gb,kb,rfl,rfl⟩
 refine ⟨rfl,?_⟩
 show Goes _ _ _ _
 refine goes_ownCell 7 0 3 rfl rfl ?_
 refine goes_ownCell 8 0 3 rfl rfl ?_
 obtain ⟨fin,hfin⟩ : ∃ fin,Tr.go prior (extN (normP a) + extN (normP b) + 1) ⟨normP a,normP b,Mk.nil,Mk.nil⟩ = fin:=⟨_,rfl⟩
 have good : R = bif !rightP fin.x.l || !rightP fin.y.l then ([],[],3) else (fin.x.l,fin.y.l,0):=by
  rw [← hR]
  unfold transP
  rw [ra,rb,hfin]
  rfl
 refine goes_iter (ι:=TrI) (fun i => i.s.Ok ∧ extN i.s.p + extN i.s.q < i.f ∧ Tr.go prior i.f i.s = fin) (fun i => i.f)
  (fun _ => [(13,.fn (.func 224) [] [.ptr (.loc 5) 0,.ptr (.loc 6) 0,.ptr (.loc 0) 0,.ptr (.loc 7) 0,.ptr (.loc 8) 0]),(9,.ptr (.loc 5) 0),(10,.ptr (.loc 6) 0),(11,.ptr (.loc 7) 0),(12,.ptr (.loc 8) 0)])
  (trT prior (.box [.osl (.loc 2) ga 0 (normP a).length,.int .i64 ka]) (.box [.osl (.loc 4) gb 0 (normP b).length,.int .i64 kb]) ga gb)
  ⟨extN (normP a) + extN (normP b) + 1,⟨normP a,normP b,Mk.nil,Mk.nil⟩,[],[],0,0⟩ 300 (fun _ => rfl) (fun _ => rfl) ⟨⟨⟨oa,ob,Mk.nil_ok,Mk.nil_ok,?_,?_⟩,Nat.lt_succ_self _,hfin⟩,⟨⟨rfl,rfl⟩,⟨rfl,rfl⟩,⟨rfl,rfl⟩,⟨rfl,rfl⟩,⟨rfl,rfl⟩,trivial⟩,
   ⟨⟨rfl,rfl⟩,⟨rfl,rfl⟩,⟨rfl,rfl⟩,⟨rfl,rfl⟩,⟨rfl,rfl⟩,⟨rfl,rfl⟩,⟨rfl,rfl⟩,⟨rfl,rfl⟩,⟨rfl,rfl⟩,⟨rfl,rfl⟩,⟨rfl,rfl⟩,trivial⟩⟩ ?_
 ·show (0 : Int) + sumW [] + 3 * (rowR (normP a) + rowR (normP b)) ≤ _
  simp only [sumW];omega
 ·show (0 : Int) + sumW [] + 3 * (rowR (normP a) + rowR (normP b)) ≤ _
  simp only [sumW];omega
 rintro ⟨f,s,d1,d2,gx,gy⟩ ⟨k1,k2,k3⟩ next
 simp only at k1 k2 k3
 obtain ⟨f,rfl⟩ : ∃ f',f = f' + 1:=⟨f - 1,by omega⟩
 have rp:=rowR_nn k1.p.nn
 have rq:=rowR_nn k1.q.nn
 have wx:=k1.wx
 have wy:=k1.wy
 obtain ⟨o1,e1,e2⟩:=Tr.puts_ok k1 prior
 show CallThen _ _ _ _ _ _
 refine call_sub [5,2,6,4,0,7,9,8,10] (w_trPuts prior d1 d2 s ga gb gx gy k1.p k1.q k1.x k1.y (by omega) (by omega)) rfl rfl
  ⟨⟨rfl,rfl⟩,⟨rfl,rfl⟩,⟨rfl,rfl⟩,⟨rfl,rfl⟩,⟨rfl,rfl⟩,⟨rfl,rfl⟩,⟨rfl,rfl⟩,⟨rfl,rfl⟩,⟨rfl,rfl⟩,trivial⟩ rfl rfl rfl ?_
 rintro z T1 ⟨rfl,gx',gy',rfl⟩
 refine ⟨rfl,?_⟩
 obtain ⟨⟨p,q,x,y⟩,hs1⟩ : ∃ z,s.puts prior = z:=⟨_,rfl⟩
 rw [hs1] at o1 e1 e2 ⊢
 obtain ⟨op,oq,ox,oy,ux,uy⟩:=o1
 simp only at op oq ox oy ux uy e1 e2
 have rp':=rowR_nn op.nn
 have rq':=rowR_nn oq.nn
 obtain ⟨b1,b2,b3,b4,b5,b6⟩:=bothR_ok op oq
 have cb:=w_both d1 p d2 q ga gb op oq
 obtain ⟨⟨⟨n,d,g,any⟩,p',q'⟩,hb1⟩ : ∃ z,bothR p q = z:=⟨_,rfl⟩
 have hgo:=Tr.go_succ (f:=f) hs1 hb1
 rw [hb1] at b1 b2 b3 b4 b5 b6 cb
 simp only at b1 b2 b3 b4 b5 b6
 show CallThen _ _ _ _ _ _
 refine call_sub [5,2,6,4] cb rfl rfl ⟨⟨rfl,rfl⟩,⟨rfl,rfl⟩,⟨rfl,rfl⟩,⟨rfl,rfl⟩,trivial⟩ rfl rfl rfl ?_
 rintro z T1 ⟨rfl,d1',d2',rfl⟩
 refine ⟨rfl,?_⟩
 refine ⟨fun g3 => go 300 ?_,fun g3 => go 300 ?_⟩
 ·have ha' : any = false:=by simpa using g3
  subst ha'
  have hfx : fin = ⟨p',q',x,y⟩:=by rw [← k3,hgo];rfl
  rw [hfx] at good
  simp only at good
  show CallThen _ _ _ _ _ _
  refine call_sub [7,9] (w_done x gx' ox (by omega)) rfl rfl ⟨⟨rfl,rfl⟩,⟨rfl,rfl⟩,trivial⟩ rfl rfl rfl ?_
  rintro z T1 ⟨rfl,rfl⟩
  refine ⟨rfl,?_⟩
  show CallThen _ _ _ _ _ _
  refine call_sub [8,10] (w_done y gy' oy (by omega)) rfl rfl ⟨⟨rfl,rfl⟩,⟨rfl,rfl⟩,trivial⟩ rfl rfl rfl ?_
  rintro z T1 ⟨rfl,rfl⟩
  refine ⟨rfl,?_⟩
  refine ⟨fun g4 => go 300 ?_,fun g4 => go 300 ?_⟩
  ·have g4 : rightP x.l = false:=by simpa using g4
   exact ⟨trivial,rfl,rfl,rfl,transZ (by rw [good,g4];rfl)⟩
  have g4 : rightP x.l = true:=by simpa using g4
  refine ⟨fun g5 => go 300 ?_,fun g5 => go 300 ?_⟩
  ·have g5 : rightP y.l = false:=by simpa using g5
   exact ⟨trivial,rfl,rfl,rfl,transZ (by rw [good,g4,g5];rfl)⟩
  have g5 : rightP y.l = true:=by simpa using g5
  have hres : TransV (x.l,y.l,0) = TransV R:=by rw [good,g4,g5];rfl
  refine ⟨trivial,rfl,rfl,?_⟩
  refine ⟨rfl,?_⟩
  refine ⟨by simp,?_⟩
  refine ⟨rfl,?_⟩
  refine ⟨by simp,?_⟩
  refine ⟨rfl,?_⟩
  exact ⟨TransV (x.l,y.l,0),Wk.refl _,rfl,hres⟩
 ·have ha' : any = true:=by simpa using g3
  subst ha'
  have cc:=b5 rfl
  have c1:=cc.1
  have c2:=cc.2.1
  have c3:=cc.2.2
  have q1 : (Tr.does ⟨p',q',x,y⟩ n d g).Ok:=(Tr.does_ok (p:=p') (q:=q') (x:=x) (y:=y) (n:=n) (R:=rowR p + rowR q) b1 b2 ox oy b3 c2 ux uy d g).1
  have hnext : Tr.go prior f (Tr.does ⟨p',q',x,y⟩ n d g) = fin:=by rw [← k3,hgo];rfl
  have hext : extN p' + extN q' < f:=by omega
  refine ⟨fun g4 => go 300 ?_,fun g4 => go 300 ?_⟩
  ·have g4 : d = true:=g4
   subst g4
   refine ⟨fun g5 => go 300 ?_,fun g5 => go 300 ?_⟩
   ·have g5 : g = true:=g5
    subst g5
    show Goes _ _ _ _
    refine next ⟨f,⟨p',q',x,y⟩,d1',d2',gx',gy'⟩ _ _ ⟨⟨q1,hext,hnext⟩,Nat.lt_succ_self _,⟨⟨rfl,rfl⟩,⟨rfl,rfl⟩,⟨rfl,rfl⟩,⟨rfl,rfl⟩,⟨rfl,rfl⟩,trivial⟩,
     ⟨⟨rfl,rfl⟩,⟨rfl,rfl⟩,⟨rfl,rfl⟩,⟨rfl,rfl⟩,⟨rfl,rfl⟩,⟨rfl,rfl⟩,⟨rfl,rfl⟩,⟨rfl,rfl⟩,⟨rfl,rfl⟩,⟨rfl,rfl⟩,⟨rfl,rfl⟩,trivial⟩⟩
   ·have g5 : g = false:=g5
    subst g5
    refine ⟨fun _ => go 300 ?_,fun h => (by cases h)⟩
    show CallThen _ _ _ _ _ _
    refine call_sub [7,9] (w_mkDrop x gx' n ox (by omega) b4) rfl rfl ⟨⟨rfl,rfl⟩,⟨rfl,rfl⟩,trivial⟩ rfl rfl rfl ?_
    rintro z T1 ⟨gx2,rfl,rfl⟩
    refine ⟨rfl,?_⟩
    show Goes _ _ _ _
    refine next ⟨f,⟨p',q',x.drop n,y⟩,d1',d2',gx2,gy'⟩ _ _ ⟨⟨q1,hext,hnext⟩,Nat.lt_succ_self _,⟨⟨rfl,rfl⟩,⟨rfl,rfl⟩,⟨rfl,rfl⟩,⟨rfl,rfl⟩,⟨rfl,rfl⟩,trivial⟩,
     ⟨⟨rfl,rfl⟩,⟨rfl,rfl⟩,⟨rfl,rfl⟩,⟨rfl,rfl⟩,⟨rfl,rfl⟩,⟨rfl,rfl⟩,⟨rfl,rfl⟩,⟨rfl,rfl⟩,⟨rfl,rfl⟩,⟨rfl,rfl⟩,⟨rfl,rfl⟩,trivial⟩⟩
  ·have g4 : d = false:=g4
   subst g4
   refine ⟨fun h => (by cases h),fun _ => go 300 ?_⟩
   refine ⟨fun g5 => go 300 ?_,fun g5 => go 300 ?_⟩
   ·have g5 : g = true:=g5
    subst g5
    show CallThen _ _ _ _ _ _
    refine call_sub [8,10] (w_mkDrop y gy' n oy (by omega) b4) rfl rfl ⟨⟨rfl,rfl⟩,⟨rfl,rfl⟩,trivial⟩ rfl rfl rfl ?_
    rintro z T1 ⟨gy2,rfl,rfl⟩
    refine ⟨rfl,?_⟩
    show Goes _ _ _ _
    refine next ⟨f,⟨p',q',x,y.drop n⟩,d1',d2',gx',gy2⟩ _ _ ⟨⟨q1,hext,hnext⟩,Nat.lt_succ_self _,⟨⟨rfl,rfl⟩,⟨rfl,rfl⟩,⟨rfl,rfl⟩,⟨rfl,rfl⟩,⟨rfl,rfl⟩,trivial⟩,
     ⟨⟨rfl,rfl⟩,⟨rfl,rfl⟩,⟨rfl,rfl⟩,⟨rfl,rfl⟩,⟨rfl,rfl⟩,⟨rfl,rfl⟩,⟨rfl,rfl⟩,⟨rfl,rfl⟩,⟨rfl,rfl⟩,⟨rfl,rfl⟩,⟨rfl,rfl⟩,trivial⟩⟩
   ·have g5 : g = false:=g5
    subst g5
    have x3:=mk_keep ox
    have y3:=mk_keep oy
    have x4:=ox.k
    have y4:=oy.k
    refine ⟨by constructor <;> (simp only;omega),?_⟩
    refine ⟨by constructor <;> (simp only;omega),?_⟩
    show Goes _ _ _ _
    refine next ⟨f,⟨p',q',x.kept n,y.kept n⟩,d1',d2',gx',gy'⟩ _ _ ⟨⟨q1,hext,hnext⟩,Nat.lt_succ_self _,⟨⟨rfl,rfl⟩,⟨rfl,rfl⟩,⟨rfl,rfl⟩,⟨rfl,rfl⟩,⟨rfl,rfl⟩,trivial⟩,
     ⟨⟨rfl,rfl⟩,⟨rfl,rfl⟩,⟨rfl,rfl⟩,⟨rfl,rfl⟩,⟨rfl,rfl⟩,⟨rfl,rfl⟩,⟨rfl,rfl⟩,⟨rfl,rfl⟩,⟨rfl,rfl⟩,⟨rfl,rfl⟩,⟨rfl,rfl⟩,trivial⟩⟩
end Bow
/- SP20: a bare operation does what it did, in plain Lean. -/
namespace Bow
open Go
theorem bare1 {o : OpT} (h : o.kind = 1) : bareO o = { noOp 1 with path:=o.path,at_:=o.at_,id:=o.id,leaf:=o.leaf,label:=o.label }:=by unfold bareO;rw [h];rfl
theorem bare2 {o : OpT} (h : o.kind = 2) : bareO o = { noOp 2 with path:=o.path }:=by unfold bareO;rw [h];rfl
theorem bare3 {o : OpT} (h : o.kind = 3) : bareO o = { noOp 3 with path:=o.path,at_:=o.at_,to:=o.to }:=by unfold bareO;rw [h];rfl
theorem bare4 {o : OpT} (h : o.kind = 4) : bareO o = { noOp 4 with path:=o.path,key:=o.key,gone:=o.gone,value:=bif o.gone then [] else o.value }:=by unfold bareO;rw [h];rfl
theorem bare5 {o : OpT} (h : o.kind = 5) : bareO o = { noOp 5 with path:=o.path,label:=o.label }:=by unfold bareO;rw [h];rfl
theorem bare6 {o : OpT} (h : o.kind = 6) : bareO o = { noOp 6 with path:=o.path,pieces:=o.pieces }:=by unfold bareO;rw [h];rfl
theorem bare_none {o : OpT} (h1 : o.kind ≠ 1) (h2 : o.kind ≠ 2) (h3 : o.kind ≠ 3) (h4 : o.kind ≠ 4) (h5 : o.kind ≠ 5) (h6 : o.kind ≠ 6) : bareO o = noOp o.kind:=by
 have e1 : (o.kind == 1) = false:=by simpa using h1
 have e2 : (o.kind == 2) = false:=by simpa using h2
 have e3 : (o.kind == 3) = false:=by simpa using h3
 have e4 : (o.kind == 4) = false:=by simpa using h4
 have e5 : (o.kind == 5) = false:=by simpa using h5
 have e6 : (o.kind == 6) = false:=by simpa using h6
 unfold bareO
 rw [e1,e2,e3,e4,e5,e6]
 rfl
theorem kinds (o : OpT) : o.kind = 1 ∨ o.kind = 2 ∨ o.kind = 3 ∨ o.kind = 4 ∨ o.kind = 5 ∨ o.kind = 6 ∨ (o.kind ≠ 1 ∧ o.kind ≠ 2 ∧ o.kind ≠ 3 ∧ o.kind ≠ 4 ∧ o.kind ≠ 5 ∧ o.kind ≠ 6):=by omega
end Bow
/- SP38: what edits behind each other put in; what becomes of operations costs no more than they. -/
namespace Bow
open Go
theorem putsLen_app : ∀ a b : List PieceT,putsLen (a ++ b) = putsLen a + putsLen b
 | [],b => by simp [putsLen]
 | p :: a,b => by
  have:=putsLen_app a b
  simp only [List.cons_append,putsLen,List.foldr_cons] at this ⊢
  omega
theorem putsLen_one (p : PieceT) : putsLen [p] = p.put.length:=by simp [putsLen]
theorem putsLen_two (p : PieceT) (l : List PieceT) : putsLen (p :: l) = p.put.length + putsLen l:=rfl
theorem Mk.last_puts (m : Mk) : putsLen m.last.l = putsLen m.l:=by
 unfold Mk.last
 cases decide (0 < m.keep) || m.l.isEmpty with
 | true => simp only [cond_true];rw [putsLen_app,putsLen_one];rfl
 | false => rfl
theorem modL_puts (s : List UInt8) : ∀ {l : List PieceT},l ≠ [] → putsLen (modL (fun p => { p with put:=p.put ++ s }) l) = putsLen l + s.length
 | [],h => absurd rfl h
 | [p],_ => by rw [modL,putsLen_one,putsLen_one,List.length_append]
 | p :: q :: r,_ => by
  rw [modL,putsLen_two,putsLen_two p,modL_puts s (l:=q :: r) (by simp)]
  omega
theorem modL_drops (n : Int) : ∀ l : List PieceT,putsLen (modL (fun p => { p with drop:=p.drop + n }) l) = putsLen l
 | [] => rfl
 | [p] => by rw [modL,putsLen_one,putsLen_one]
 | p :: q :: r => by rw [modL,putsLen_two,putsLen_two p,modL_drops n (q :: r)]
theorem Mk.put_puts (s : List UInt8) (m : Mk) : putsLen (m.put s).l = putsLen m.l + s.length:=by
 unfold Mk.put
 cases h : s.isEmpty with
 | true =>
  rw [List.isEmpty_iff] at h
  subst h
  rfl
 | false =>
  simp only [cond_false]
  rw [modL_puts s m.last_ne,m.last_puts]
theorem Mk.drop_puts (n : Int) (m : Mk) : putsLen (m.drop n).l = putsLen m.l:=by
 unfold Mk.drop
 cases decide (0 < n) with
 | true => simp only [cond_true];rw [modL_drops,m.last_puts]
 | false => rfl
theorem Mk.piece_puts (m : Mk) (p : PieceT) : putsLen (m.piece p).l = putsLen m.l + p.put.length:=by
 unfold Mk.piece
 rw [Mk.drop_puts,Mk.put_puts]
 rfl
theorem foldl_puts : ∀ (l : List PieceT) (m : Mk),putsLen (l.foldl Mk.piece m).l = putsLen m.l + putsLen l
 | [],m => by simp [putsLen]
 | p :: l,m => by
  rw [List.foldl_cons,foldl_puts l,Mk.piece_puts,putsLen_two]
  omega
theorem norm_puts (l : List PieceT) : putsLen (normP l) = putsLen l:=by
 unfold normP
 rw [foldl_puts]
 simp [Mk.nil,putsLen]
theorem rowPut_puts (l : List PieceT) : (rowPut l).1.length + putsLen (rowPut l).2 = putsLen l:=by
 cases l with
 | nil => rfl
 | cons p r =>
  have e : rowPut (p :: r) = bif decide (0 < p.keep) || p.put.isEmpty then ([],p :: r) else (p.put,{ p with put:=[] } :: r):=rfl
  rw [e]
  cases decide (0 < p.keep) || p.put.isEmpty with
  | true => simp
  | false =>
   show p.put.length + putsLen ({ p with put:=[] } :: r) = putsLen (p :: r)
   rw [putsLen_two,putsLen_two]
   simp
theorem rowRun_puts : ∀ l : List PieceT,putsLen (rowRun l).2 ≤ putsLen l
 | [] => Nat.le_refl _
 | p :: r => by
  have ih:=rowRun_puts r
  rw [rowRun]
  cases decide (0 < p.keep) with
  | true => exact Nat.le_refl _
  | false =>
   simp only [cond_false]
   cases decide (0 < p.drop) with
   | true => exact Nat.le_refl _
   | false => simp only [cond_false];rw [putsLen_two];omega
theorem rowTake_puts (n : Int) (l : List PieceT) : putsLen (rowTake n l) = putsLen l:=by
 cases l with
 | nil => rfl
 | cons p r =>
  have e : rowTake n (p :: r) = bif decide (0 < p.keep) then { p with keep:=p.keep - n } :: r else { p with drop:=p.drop - n } :: r:=rfl
  rw [e]
  cases decide (0 < p.keep) <;> rfl
theorem bothR_puts (a b : List PieceT) : putsLen (bothR a b).2.1 ≤ putsLen a:=by
 have h:=rowRun_puts a
 unfold bothR
 generalize rowRun a = ra at h
 generalize rowRun b = rb
 obtain ⟨⟨n,x,any⟩,a'⟩:=ra
 obtain ⟨⟨m,y,more⟩,b'⟩:=rb
 simp only at h ⊢
 cases !any && !more with
 | true => exact h
 | false => simp only [cond_false];rw [rowTake_puts];exact h
theorem puts_puts (prior : Bool) (s : Tr) : putsLen (s.puts prior).x.l + putsLen (s.puts prior).p = putsLen s.x.l + putsLen s.p:=by
 have h:=rowPut_puts s.p
 unfold Tr.puts
 generalize rowPut s.p = rp at h
 generalize rowPut s.q = rq
 obtain ⟨a,p⟩:=rp
 obtain ⟨b,q⟩:=rq
 simp only at h ⊢
 cases prior with
 | true =>
  simp only [cond_true]
  have:=Mk.put_puts a s.x
  unfold Mk.kept
  simp only
  omega
 | false =>
  simp only [cond_false]
  have:=Mk.put_puts a (s.x.kept b.length)
  have e : putsLen (s.x.kept b.length).l = putsLen s.x.l:=rfl
  omega
theorem does_puts (s : Tr) (n : Int) (x y : Bool) : putsLen (s.does n x y).x.l = putsLen s.x.l ∧ (s.does n x y).p = s.p:=by
 unfold Tr.does
 cases x <;> cases y
 ·exact ⟨rfl,rfl⟩
 ·exact ⟨rfl,rfl⟩
 ·exact ⟨Mk.drop_puts n s.x,rfl⟩
 ·exact ⟨rfl,rfl⟩
theorem go_puts (prior : Bool) : ∀ (f : Nat) (s : Tr),putsLen (Tr.go prior f s).x.l ≤ putsLen s.x.l + putsLen s.p
 | 0,s => by rw [Tr.go];omega
 | f + 1,s => by
  have h:=puts_puts prior s
  rw [Tr.go]
  generalize s.puts prior = z at h
  obtain ⟨p,q,x,y⟩:=z
  have hb:=bothR_puts p q
  simp only at h ⊢
  generalize bothR p q = rb at hb
  obtain ⟨⟨n,d,g,any⟩,p',q'⟩:=rb
  simp only at hb ⊢
  cases any with
  | true =>
   simp only [cond_true]
   have hd:=does_puts ⟨p',q',x,y⟩ n d g
   have ih:=go_puts prior f (Tr.does ⟨p',q',x,y⟩ n d g)
   rw [hd.1,hd.2] at ih
   simp only at ih
   omega
  | false =>
   simp only [cond_false]
   omega
theorem trans_puts (a b : List PieceT) (prior : Bool) : putsLen (transP a b prior).1 ≤ putsLen a:=by
 unfold transP
 cases !rightP a || !rightP b with
 | true => exact Nat.zero_le _
 | false =>
  simp only [cond_false]
  have h:=go_puts prior (extN (normP a) + extN (normP b) + 1) ⟨normP a,normP b,Mk.nil,Mk.nil⟩
  simp only [norm_puts] at h
  generalize Tr.go prior (extN (normP a) + extN (normP b) + 1) ⟨normP a,normP b,Mk.nil,Mk.nil⟩ = s at h
  obtain ⟨p,q,x,y⟩:=s
  simp only at h ⊢
  have h0 : putsLen Mk.nil.l = 0:=rfl
  cases !rightP x.l || !rightP y.l with
  | true => exact Nat.zero_le _
  | false => simp only [cond_false];omega
theorem cost_min (o : OpT) : 2 ≤ costO o:=by unfold costO;omega
theorem cost_noOp (k : Int) : costO (noOp k) = 2:=rfl
theorem bare_cost (o : OpT) : costO (bareO o) ≤ costO o:=by
 rcases kinds o with h | h | h | h | h | h | ⟨h1,h2,h3,h4,h5,h6⟩
 ·rw [bare1 h];unfold costO;simp only [noOp,putsLen,List.length_nil,List.foldr_nil];omega
 ·rw [bare2 h];unfold costO;simp only [noOp,putsLen,List.length_nil,List.foldr_nil];omega
 ·rw [bare3 h];unfold costO;simp only [noOp,putsLen,List.length_nil,List.foldr_nil];omega
 ·rw [bare4 h]
  unfold costO
  cases o.gone
  ·simp only [noOp,putsLen,List.length_nil,List.foldr_nil,cond_false];omega
  ·simp only [noOp,putsLen,List.length_nil,List.foldr_nil,cond_true];omega
 ·rw [bare5 h];unfold costO;simp only [noOp,putsLen,List.length_nil,List.foldr_nil];omega
 ·rw [bare6 h];unfold costO;simp only [noOp,List.length_nil];omega
 ·rw [bare_none h1 h2 h3 h4 h5 h6,cost_noOp]
  exact cost_min o
theorem shifted_cost (b a : OpT) (prior : Bool) : costO (shiftedO b a prior) = costO b:=by
 unfold shiftedO
 cases decide (b.kind = 1) with
 | true => rfl
 | false =>
  cases decide (b.kind = 3) with
  | true => rfl
  | false => rfl
theorem undo_cost (o : OpT) : costO (undoO o) = 2:=by
 unfold undoO
 cases decide (o.kind = 3) && movesO o <;> rfl
theorem row_cost (b a : OpT) (prior : Bool) : ∀ o ∈ rowO b a prior,costO o ≤ costO b:=by
 have hs : ∀ o ∈ [shiftedO b a prior],costO o ≤ costO b:=fun o ho => by
  rw [List.mem_singleton.1 ho,shifted_cost]
  exact Nat.le_refl _
 have hn : ∀ o ∈ ([] : List OpT),costO o ≤ costO b:=fun o ho => by cases ho
 have hd : ∀ p q : List Int,∀ o ∈ [dropO p,dropO q],costO o ≤ costO b:=fun p q o ho => by
  have:=cost_min b
  rcases List.mem_cons.1 ho with rfl | ho
  ·exact this
  ·rw [List.mem_singleton.1 ho];exact this
 have hd1 : ∀ p : List Int,∀ o ∈ [dropO p],costO o ≤ costO b:=fun p o ho => by
  rw [List.mem_singleton.1 ho]
  exact cost_min b
 have hu : ∀ o ∈ [undoO a,b],costO o ≤ costO b:=fun o ho => by
  rcases List.mem_cons.1 ho with rfl | ho
  ·rw [undo_cost];exact cost_min b
  ·rw [List.mem_singleton.1 ho];exact Nat.le_refl _
 unfold rowO
 cases decide (a.kind = 2) with
 | true =>
  cases within a.path b.path with
  | true => exact hn
  | false => cases decide (b.kind = 3) && within a.path b.to <;> first | exact hs | exact hd1 _
 | false =>
  cases wonO b a with
  | true => cases prior <;> first | exact hn | exact hs
  | false =>
   cases decide (a.kind = 3) with
   | false => exact hs
   | true =>
    cases decide (b.kind = 2) with
    | true => cases within b.path a.path && (!decide (b.path = a.path) && !within b.path a.to) <;> first | exact hs | exact hd _ _
    | false => cases decide (b.kind = 3) && (within b.path a.to && within a.path b.to) <;> first | exact hs | (cases prior <;> first | exact hn | exact hu)
theorem behX_cost (b a : OpT) (prior : Bool) : ∀ o ∈ (behindX b a prior).1,costO o ≤ costO b:=by
 unfold behindX
 cases bothEdit b a with
 | true =>
  simp only [cond_true]
  unfold behindE
  cases !soundO a || !soundO b with
  | true => intro o ho;cases ho
  | false =>
   cases decide ((transP b.pieces a.pieces prior).2.2 = 0) && formedB (editO b a prior) with
   | false => intro o ho;cases ho
   | true =>
    intro o ho
    simp only [cond_true,cond_false,List.mem_singleton] at ho
    subst ho
    refine Nat.le_trans (bare_cost _) ?_
    have:=trans_puts b.pieces a.pieces prior
    unfold costO editO
    simp only
    omega
 | false =>
  simp only [cond_false]
  unfold behindO
  cases !soundO a || !soundO b with
  | true => intro o ho;cases ho
  | false =>
   cases (rowO b a prior).all formedB with
   | false => intro o ho;cases ho
   | true =>
    intro o ho
    simp only [cond_true,cond_false,List.mem_map] at ho
    obtain ⟨z,hz,rfl⟩:=ho
    exact Nat.le_trans (bare_cost z) (row_cost b a prior z hz)
theorem bothX_cost (a b : OpT) (prior : Bool) : ∀ o ∈ (bothX a b prior).2.1,costO o ≤ costO b:=by
 unfold bothX
 cases decide ((behindX a b prior).2 = 0) with
 | false => intro o ho;cases ho
 | true =>
  cases decide ((behindX b a (!prior)).2 = 0) with
  | false => intro o ho;cases ho
  | true => exact behX_cost b a (!prior)
end Bow
