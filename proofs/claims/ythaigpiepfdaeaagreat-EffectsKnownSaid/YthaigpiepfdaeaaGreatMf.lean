/- The library, part 6: W24, W25, W26, SP9, W27, W30a, AE41, W31, W32, W33, W34, WB2, W35, W36, W37, W38, SP16, W39, W43a, AE42, W49, W50, W51, W52, W53, W54, W55, W56. -/
import Derived.Test.YthaigpiepfdaeaaGreatMe
import Derived.BigCall
import Derived.Test.YthaigpiepfdaeaaGreatMd
import Derived.Laws.Shifts
import Derived.Lib.Bytealg
/- W24: leaftext.Apply, by the kit's own tactics. -/
namespace Bow
open Go Go.Proofs Go.RowKit

theorem pieces_flat (l : List PieceT) : ∀ x ∈ l.map pieceV, flatL x.cells = true := by
  intro x hx
  obtain ⟨p, _, rfl⟩ := List.mem_map.1 hx
  rfl

theorem c_right (l : List PieceT) (hl : l.length ≤ 1000000) (hpl : ∀ p ∈ l, p.put.length ≤ 1000000000) (v : Value) (w : World) (h : Rep w β0 [] (piecesV l) v) :
    Calls Tryz.prog 113 #[v] w fun e w' => e = .returned (.bool (rightP l)) ∧ Below w.heap.size w w' := by
  refine calls_of_pureQ (β := β0) (H := []) (w_Right l hl hpl) (fun x u w' β' H' hx hu => ?_) rfl rfl ?_
  · subst hx
    exact rep_bool (m := []) hu
  · intro j x u hj hu
    cases j with
    | zero => simp at hj hu; subst hj hu; exact h
    | succ j => simp at hj
theorem c_extent (l : List PieceT) (hl : l.length ≤ 4096) (hok : ∀ p ∈ l, p.Ok) (v : Value) (w : World) (h : Rep w β0 [] (piecesV l) v) :
    Calls Tryz.prog 190 #[v] w fun e w' => e = .returned (.int .i64 (extentP l)) ∧ Below w.heap.size w w' := by
  refine calls_of_pureQ (β := β0) (H := []) (w_extent l hl hok) (fun x u w' β' H' hx hu => ?_) rfl rfl ?_
  · subst hx
    exact rep_int (m := []) hu
  · intro j x u hj hu
    cases j with
    | zero => simp at hj hu; subst hj hu; exact h
    | succ j => simp at hj

theorem rep_below {w w' : World} {x : V} {v : Value} (h : Rep w β0 [] x v) (hb : Below w.heap.size w w') : Rep w' β0 [] x v := h.mono (Fr.of_below hb)

theorem ba_of (x : ByteArray) (y : List UInt8) (h : x.data.toList = y) : x = ⟨y.toArray⟩ := by
  obtain ⟨⟨l⟩⟩ := x
  subst h
  rfl
theorem hidU {p : Prop} (h : p) : Hid p := h

set_option maxHeartbeats 4000000 in
set_option maxRecDepth 1000000 in
theorem edit_walk (S : ByteArray) (l : List PieceT) (ht : S.size ≤ 1000000000) (hl : l.length ≤ 1000000) (hpl : ∀ p ∈ l, p.put.length ≤ 1000000000) (ao : Option Addr) (cap : Nat) (w : World) (hrep : Rep w β0 [] (piecesV l) (.slice ao l.length cap)) :
    Calls Tryz.prog 148 #[.string S, .slice ao l.length cap] w fun e w' => e = .returned (.tuple #[.string ⟨(applyE S.data.toList l).1.toArray⟩, .int .i64 (applyE S.data.toList l).2]) ∧ Below w.heap.size w w' := by
  go_enter Tryz.func148, Tryz.ntmps148
  have cR := c_right l hl hpl _ w hrep
  go_wp2_with (go_at_call 113; refine cR.mono ?_)
  rintro e w1 ⟨rfl, hb1⟩
  clear cR
  cases hr : rightP l with
  | false =>
    go_wp2
    go_ret2
    refine ⟨?_, hb1⟩
    unfold applyE
    rw [hr]
    rfl
  | true =>
    obtain ⟨r1, r2, r3⟩ := rightP_ok hr
    have cE := c_extent l r1 r2 _ w1 (rep_below hrep hb1)
    go_wp2_with (go_at_call 190; refine cE.mono ?_)
    rintro e w2 ⟨rfl, hb2⟩
    clear cE
    have hb12 : Below w.heap.size w w2 := hb1.trans (hb2.mono hb1.size)
    by_cases hx : (S.size : Int) < extentP l
    · go_wp2
      go_ret2
      refine ⟨?_, hb12⟩
      unfold applyE
      rw [hr, decide_eq_true (by simpa using hx)]
      rfl
    · go_wp2
      go_loopw [0, 21] (fun text i wr => ∃ (k : Nat) (T acc : List UInt8), k ≤ l.length ∧ text = .string ⟨T.toArray⟩ ∧ i = .int .i64 k ∧ Lib.IsBuilderF 160 5 w2.heap.size w2.heap.size (Lib.byteCells acc) wr ∧ Below w2.heap.size w2 wr ∧ acc ++ editP T (l.drop k) = editP S.data.toList l ∧ extentP (l.drop k) ≤ T.length ∧ acc.length + T.length + putsLen (l.drop k) ≤ S.data.toList.length + putsLen l) (fun _ i _ => l.length - (intOf i).toNat)
      case atStart =>
        refine ⟨0, S.data.toList, [], Nat.zero_le _, rfl, rfl, Lib.IsBuilderF.of (Lib.fresh_isBuilder _ _ w2), (Below.refl _ _).alloc (Nat.le_refl _) _, rfl, ?_, ?_⟩
        · simpa using hx
        · simp
      case round =>
        obtain ⟨k, T, acc, hk, rfl, rfl, hI, hbw, hacc, hext, hsz⟩ := hrel
        by_cases hlt : k < l.length
        · obtain ⟨a, cap', hv, hcap, hmax, hc⟩ := sl_cells (rep_below (rep_below hrep hb12) hbw)
          obtain ⟨e1, e2, e3⟩ : ao = a ∧ l.length = (l.map pieceV).length ∧ cap = cap' := by injection hv with e1 e2 e3; exact ⟨e1, e2, e3⟩
          obtain ⟨ad, rfl, hblk, hc⟩ := hc (by intro h; simp at h; subst h; simp at hlt)
          subst e1
          have hg : (l.map pieceV)[k]? = some (pieceV l[k]) := by simp [hlt]
          obtain ⟨u0, h0, q0⟩ := hc k _ 0 _ hg rfl
          obtain ⟨u1, h1, q1⟩ := hc k _ 1 _ hg rfl
          obtain ⟨u2, h2, q2⟩ := hc k _ 2 _ hg rfl
          cases rep_int (m := []) q0
          cases rep_int (m := []) q1
          obtain ⟨q2, hput⟩ := rep_str (m := []) q2
          subst q2
          rw [← add_add'] at h1 h2
          have h0 : wr.cell? (ad.add (k * 3)) = some (.int .i64 l[k].keep) := h0
          have h1 : wr.cell? ⟨(ad.add (k * 3)).block, (ad.add (k * 3)).off + 1, none⟩ = some (.int .i64 l[k].drop) := h1
          have h2 : wr.cell? ⟨(ad.add (k * 3)).block, (ad.add (k * 3)).off + 2, none⟩ = some (.string ⟨l[k].put.toArray⟩) := h2
          clear q0 q1 hc hg hcap hmax hv e2 e3
          have hd : l.drop k = l[k] :: l.drop (k + 1) := drop_cons hlt
          have hok := r2 l[k] (List.getElem_mem hlt)
          have k0 := hok.k0; have k1 := hok.k1; have d0 := hok.d0; have d1 := hok.d1
          have hen : 0 ≤ extentP (l.drop (k + 1)) := extentP_nonneg fun q hq => r2 q (List.mem_of_mem_drop hq)
          rw [hd, extentP_cons] at hext
          have hpt : putsLen (l[k] :: l.drop (k + 1)) = l[k].put.length + putsLen (l.drop (k + 1)) := rfl
          rw [hd, hpt] at hsz
          rw [hd] at hacc
          have hacc := hidU hacc
          have hN := hidU hsz
          clear hsz
          obtain ⟨p, hp⟩ : ∃ p, l[k] = p := ⟨_, rfl⟩
          simp only [hp] at *
          have hsT : (⟨T.toArray⟩ : ByteArray).size = T.length := by simp [ByteArray.size]
          have hI1 := Lib.IsBuilderF.alloc hI (.cells #[.int .i64 p.keep, .int .i64 p.drop, .string ⟨p.put.toArray⟩] 37)
          have hw1 : Below w2.heap.size w2 (wr.alloc (.cells #[.int .i64 p.keep, .int .i64 p.drop, .string ⟨p.put.toArray⟩] 37)) := hbw.alloc hbw.size _
          have hbl : w2.heap.size < wr.heap.size := by
            have : ∀ q, Lib.BuilderAtF 160 5 w2.heap.size w2.heap.size q (Lib.byteCells acc) wr → w2.heap.size < wr.heap.size := by
              rintro q ⟨_, v, hbk, _⟩
              exact (Array.getElem?_eq_some_iff.1 hbk).1
            rcases hI with h | h
            · exact this _ h
            · exact this _ h
          have hbox : (wr.alloc (.cells #[.int .i64 p.keep, .int .i64 p.drop, .string ⟨p.put.toArray⟩] 37)).heap[wr.heap.size]? = some (.cells #[.int .i64 p.keep, .int .i64 p.drop, .string ⟨p.put.toArray⟩] 37 (0, 0)) := heap_alloc_new wr _
          have hne : ∀ (c : Array Value) (fz : Nat × Nat), (Obj.cells #[.int .i64 p.keep, .int .i64 p.drop, .string ⟨p.put.toArray⟩] 37 (0, 0)) ≠ Obj.cells c 5 fz := fun c fz h => by
            injection h with h1 h2 h3
            exact absurd h2 (by decide)
          have hne := hidU hne
          have hI1 := hidU hI1
          have hN2 := hN.out
          have hx1 : (ByteArray.extract ⟨T.toArray⟩ 0 p.keep.toNat).data.toList = T.take p.keep.toNat := by rw [Lib.extract_data]; simp
          have hx1s : (ByteArray.extract ⟨T.toArray⟩ 0 p.keep.toNat).size = p.keep.toNat := by
            rw [Lib.size_eq, hx1, List.length_take]
            omega
          have hsz' : S.data.toList.length + putsLen l ≤ 1000000000 + 1048576 := by rw [← Lib.size_eq]; omega
          have hsz'' : acc.length + (T.length + (p.put.length + putsLen (l.drop (k + 1)))) ≤ 1000000000 + 1048576 := by omega
          have hsz'' := hidU hsz''
          clear hN2 hsz'
          go_wp2_with fail
          refine (b_WriteString w2.heap.size w2.heap.size _ _ _ hI1.out (by rw [Lib.byteCells_length, hx1s]; have := hsz''.out; omega) (Nat.le_trans (Nat.le_of_lt hbl) (by simp))).mono ?_
          rintro e W1 ⟨rfl, hA1, b1, q1⟩
          have hbox1 := q1 _ _ hbox (by simp; omega) hne.out
          have c2 : W1.cell? ⟨wr.heap.size, 2, none⟩ = some (.string ⟨p.put.toArray⟩) := by rw [Lib.cell_of_heap hbox1]; rfl
          have hsz1 : w2.heap.size ≤ W1.heap.size := Nat.le_trans hw1.size b1.size
          have hA1 : Lib.IsBuilderF 160 5 w2.heap.size w2.heap.size _ W1 := .inr hA1
          have hA1 := hidU hA1
          have hbox1 := hidU hbox1
          have hq : Below w2.heap.size w2 W1 := hw1.trans b1
          clear b1 q1 hw1 hbox
          go_wp2_with fail
          refine (b_WriteString w2.heap.size w2.heap.size _ _ _ hA1.out (by rw [List.length_append, Lib.byteCells_length, Lib.strCells_eq, Lib.byteCells_length, hx1, List.length_take, Lib.size_eq]; have := hsz''.out; simp only []; omega) hsz1).mono ?_
          rintro e W2 ⟨rfl, hA2, b2, q2⟩
          have hbox2 := q2 _ _ hbox1.out (by simp; omega) hne.out
          have c3 : W2.cell? ⟨wr.heap.size, 0, none⟩ = some (.int .i64 p.keep) := by rw [Lib.cell_of_heap hbox2]; rfl
          have c4 : W2.cell? ⟨wr.heap.size, 1, none⟩ = some (.int .i64 p.drop) := by rw [Lib.cell_of_heap hbox2]; rfl
          have hA2 : Lib.IsBuilderF 160 5 w2.heap.size w2.heap.size _ W2 := .inr hA2
          have hA2 := hidU hA2
          have hq2 : Below w2.heap.size w2 W2 := hq.trans b2
          clear b2 q2 hbox2 c2
          go_wp2_with fail
          refine ⟨⟨k + 1, T.drop (p.keep + p.drop).toNat, acc ++ T.take p.keep.toNat ++ p.put, hlt, ?_, rfl, ?_, hq2, ?_, ?_, ?_⟩, ?_⟩
          · congr 1
            refine ba_of _ _ ?_
            rw [Lib.extract_data]
            exact List.take_of_length_le (by simp)
          · have := hA2.out
            rw [Lib.strCells_eq, Lib.strCells_eq, hx1, ← Lib.byteCells_append, ← Lib.byteCells_append] at this
            exact this
          · rw [← hacc.out]
            show _ = acc ++ editP T (p :: l.drop (k + 1))
            rw [editP]
            simp only [List.append_assoc]
          · rw [List.length_drop]
            omega
          · have := hN.out
            simp only [List.length_append, List.length_take, List.length_drop]
            omega
          · show l.length - (k + 1 : Int).toNat < l.length - (k : Int).toNat
            omega
        · have hke : k = l.length := by omega
          have hd : l.drop k = [] := List.drop_eq_nil_of_le (by omega)
          rw [hd] at hacc hsz hext
          have hacc : acc ++ T = editP S.data.toList l := hacc
          have hsz : acc.length + T.length + 0 ≤ S.data.toList.length + putsLen l := hsz
          have hS : S.data.toList.length ≤ 1000000000 := by rw [← Lib.size_eq]; omega
          have hI := hidU hI
          have hacc := hidU hacc
          have hN : Hid (acc.length + T.length ≤ 1000000000 + 1048576) := hidU (by omega)
          clear hsz hext hS
          go_wp2_with fail
          refine (b_WriteString w2.heap.size w2.heap.size _ _ _ hI.out (by rw [Lib.byteCells_length, Lib.size_eq]; have := hN.out; simp only []; omega) hbw.size).mono ?_
          rintro e W1 ⟨rfl, hA1, b1, q1⟩
          have hq : Below w2.heap.size w2 W1 := hbw.trans b1
          have hA1 : Lib.IsBuilderF 160 5 w2.heap.size w2.heap.size _ W1 := .inr hA1
          rw [Lib.strCells_eq, ← Lib.byteCells_append] at hA1
          have hA1 := hidU hA1
          clear b1 q1
          go_wp2_with fail
          refine (b_String w2.heap.size w2.heap.size _ _ hA1.out hq.size).mono ?_
          rintro e W2 ⟨rfl, _, b2, _⟩
          have hq2 : Below w2.heap.size w2 W2 := hq.trans b2
          clear b2
          go_wp2
          go_ret2
          refine ⟨?_, hb12.trans (hq2.mono hb12.size)⟩
          have : applyE S.data.toList l = (editP S.data.toList l, 0) := by
            unfold applyE
            rw [hr, decide_eq_false (by rw [← Lib.size_eq]; simpa using hx)]
            rfl
          rw [this, ← hacc.out]
          rfl

theorem editP_length : ∀ (t : List UInt8) (l : List PieceT), (∀ p ∈ l, p.Ok) → (editP t l).length ≤ t.length + putsLen l
  | t, [], _ => Nat.le_refl _
  | t, p :: l, h => by
    have ih := editP_length (t.drop (p.keep + p.drop).toNat) l fun q hq => h q (List.mem_cons_of_mem _ hq)
    have hp := h p List.mem_cons_self
    have := hp.k0
    have := hp.d0
    have e : putsLen (p :: l) = p.put.length + putsLen l := rfl
    rw [editP, e]
    rw [List.length_drop] at ih
    simp only [List.length_append, List.length_take]
    omega
theorem applyE_len (t : List UInt8) (l : List PieceT) : (applyE t l).1.length ≤ t.length + 1048576 := by
  unfold applyE
  cases hr : rightP l with
  | false => simp
  | true =>
    obtain ⟨r1, r2, r3⟩ := rightP_ok hr
    cases decide ((t.length : Int) < extentP l) with
    | false =>
      have := editP_length t l r2
      simp only [Bool.not_true, cond_false]
      omega
    | true => simp

theorem w_edit (t : List UInt8) (l : List PieceT) (ht : t.length ≤ 1000000000) (hl : l.length ≤ 1000000) (hpl : ∀ p ∈ l, p.put.length ≤ 1000000000) :
    Pure Tryz.prog 148 [.str t, piecesV l] (fun x => x = strE (applyE t l)) := by
  refine pure_of_calls ?_ rfl fun w β H vals hv hr => ?_
  · exact ⟨_, Tryz.func148, rfl, rfl⟩
  · obtain ⟨v0, v1, rfl⟩ : ∃ v0 v1, vals = #[v0, v1] := by
      obtain ⟨l⟩ := vals
      match l, hv with
      | [v0, v1], _ => exact ⟨v0, v1, rfl⟩
    have h0 := hr 0 _ v0 rfl rfl
    have h1 := hr 1 _ v1 rfl rfl
    obtain ⟨rfl, _⟩ := rep_str (m := []) h0
    have h1 := Rep.flat_sl (pieces_flat l) h1
    obtain ⟨a, cap, rfl, _⟩ := sl_cells h1
    have e : (l.map pieceV).length = l.length := by simp
    rw [e] at h1 ⊢
    refine (edit_walk ⟨t.toArray⟩ l (by simpa [ByteArray.size] using ht) hl hpl a cap w h1).mono ?_
    rintro e w' ⟨rfl, hb⟩
    have hm := applyE_len t l
    have hS : (⟨t.toArray⟩ : ByteArray).data.toList = t := rfl
    rw [hS]
    refine ⟨hb, strE (applyE t l), _, rfl, rfl, rfl, .tup _ _ rfl fun j c v hc hv => ?_⟩
    match j, hc, hv with
    | 0, hc, hv =>
      simp at hc hv
      subst hc hv
      exact .str _ (by unfold maxLen; omega)
    | 1, hc, hv =>
      simp at hc hv
      subst hc hv
      exact .int _ _
    | j + 2, hc, hv => simp at hc
end Bow
/- W25: which operations are valid. -/
namespace Bow
open Go Go.Proofs

theorem text_le_weight (t : Tree) : t.text.length < t.weight := by have := weight_eq t; omega
set_option maxRecDepth 100000 in
theorem w_valid (t : Tree) (o : OpT) (ht : t.weight ≤ 1000000) (ho : o.Ok) : Pure Tryz.prog 105 [nodeV t, opV o] (fun x => x = .int .i64 (validE t o)) := by
  have hp := ho.lt.path
  have hto := ho.lt.to
  have hpc := ho.lt.pieces
  have hpl := ho.each
  refine pure_fn 300 Tryz.func105 rfl rfl rfl fun B => ?_
  show CallThen _ _ _ _ _ _
  refine call_pure (w_At t o.path hp) rfl ?_
  rintro x rfl
  cases hat : atT t o.path with
  | none =>
    repeat' first
      | (refine ⟨fun _ => go 300 ?_, fun _ => go 300 ?_⟩)
      | (refine ⟨trivial, rfl, rfl, rfl, ?_⟩)
      | fail
    all_goals (show V.int _ _ = _; simp_all [validE]; done)
  | some x =>
    have hxw := atT_weight hat
    have hxt := text_le_weight x
    repeat' first
      | (refine ⟨fun _ => go 300 ?_, fun _ => go 300 ?_⟩)
      | (show CallThen _ _ _ _ _ _; refine call_pure (w_into x o.at_) rfl ?_; rintro z rfl)
      | (show CallThen _ _ _ _ _ _; refine call_pure (w_pathWithin o.path o.to hp) rfl ?_; rintro z rfl)
      | (show CallThen _ _ _ _ _ _; refine call_pure (w_edit x.text o.pieces (by omega) (by omega) hpl) rfl ?_; rintro z rfl)
      | (show CallThen _ _ _ _ _ _; refine call_pure (w_At t o.to hto) rfl ?_; rintro z rfl; cases hat2 : atT t o.to with
          | none => exact ⟨trivial, rfl, rfl, rfl, (by show V.int _ _ = _; simp_all [validE])⟩
          | some y =>
            show CallThen _ _ _ _ _ _
            refine call_pure (w_into y o.at_) rfl ?_
            rintro z rfl
            exact ⟨trivial, rfl, rfl, rfl, (by show V.int _ _ = _; simp_all [validE])⟩)
      | (refine ⟨trivial, rfl, rfl, rfl, ?_⟩)
      | fail
    all_goals (show V.int _ _ = _; simp_all [validE])

set_option maxRecDepth 100000 in
theorem w_Valid (t : Tree) (o : OpT) (ht : t.weight ≤ 1000000) (ho : o.Ok) : Pure Tryz.prog 49 [nodeV t, opV o] (fun x => x = .int .i64 (ValidE t o)) := by
  refine pure_fn 300 Tryz.func49 rfl rfl rfl fun B => ?_
  show CallThen _ _ _ _ _ _
  refine call_pure (w_RightT t ht) rfl ?_
  rintro x rfl
  refine ⟨fun g1 => go 300 ?_, fun g1 => go 300 ?_⟩
  · exact ⟨trivial, rfl, rfl, rfl, by unfold ValidE; rw [g1]; rfl⟩
  show CallThen _ _ _ _ _ _
  refine call_pure (w_Formed o ho.lt ho.each) rfl ?_
  rintro x rfl
  refine ⟨fun g2 => go 300 ?_, fun g2 => go 300 ?_⟩
  · exact ⟨trivial, rfl, rfl, rfl, by unfold ValidE; rw [g1, g2]; rfl⟩
  show CallThen _ _ _ _ _ _
  refine call_pure (w_valid t o ht ho) rfl ?_
  rintro x rfl
  exact ⟨trivial, rfl, rfl, rfl, by unfold ValidE; rw [g1, g2]; rfl⟩

set_option maxHeartbeats 4000000 in
set_option maxRecDepth 100000 in
theorem w_refValid (t : Tree) (o : OpT) (ht : t.weight ≤ 1000000) (ho : o.Ok) : Pure Tryz.prog 45 [nodeV t, opV o] (fun x => x = .int .i64 (ValidE t o)) := by
  have hp := ho.lt.path
  have hto := ho.lt.to
  have hpc := ho.lt.pieces
  have hpl := ho.each
  refine pure_fn 300 Tryz.func45 rfl rfl rfl fun B => ?_
  show CallThen _ _ _ _ _ _
  refine call_pure (w_refRightT t ht) rfl ?_
  rintro x rfl
  refine ⟨fun g1 => go 300 ?_, fun g1 => go 300 ?_⟩
  · exact ⟨trivial, rfl, rfl, rfl, by unfold ValidE; rw [g1]; rfl⟩
  show CallThen _ _ _ _ _ _
  refine call_pure (w_refFormed o ho.lt ho.each) rfl ?_
  rintro x rfl
  refine ⟨fun g2 => go 300 ?_, fun g2 => go 300 ?_⟩
  · exact ⟨trivial, rfl, rfl, rfl, by unfold ValidE; rw [g1, g2]; rfl⟩
  have hV : ValidE t o = validE t o := by unfold ValidE; rw [g1, g2]; rfl
  rw [hV]
  clear hV g1 g2
  repeat' first
    | (refine ⟨fun _ => go 300 ?_, fun _ => go 300 ?_⟩)
    | (show CallThen _ _ _ _ _ _; refine call_pure (w_refAt t o.path hp) rfl ?_; rintro z rfl; cases hat : atT t o.path with
        | none => exact ⟨trivial, rfl, rfl, rfl, (by show V.int _ _ = _; simp_all [validE])⟩
        | some x =>
          have hxw := atT_weight hat
          have hxt := text_le_weight x
          repeat' first
            | (refine ⟨fun _ => go 300 ?_, fun _ => go 300 ?_⟩)
            | (show CallThen _ _ _ _ _ _; refine call_pure (w_refInto x o.at_) rfl ?_; rintro z rfl)
            | (show CallThen _ _ _ _ _ _; refine call_pure (w_refWithin o.path o.to hp) rfl ?_; rintro z rfl)
            | (show CallThen _ _ _ _ _ _; refine call_pure (w_refEdit x.text o.pieces (by omega) (by omega) hpl) rfl ?_; rintro z rfl)
            | (show CallThen _ _ _ _ _ _; refine call_pure (w_refAt t o.to hto) rfl ?_; rintro z rfl; cases hat2 : atT t o.to with
                | none => exact ⟨trivial, rfl, rfl, rfl, (by show V.int _ _ = _; simp_all [validE])⟩
                | some y =>
                  show CallThen _ _ _ _ _ _
                  refine call_pure (w_refInto y o.at_) rfl ?_
                  rintro z rfl
                  exact ⟨trivial, rfl, rfl, rfl, (by show V.int _ _ = _; simp_all [validE])⟩)
            | (refine ⟨trivial, rfl, rfl, rfl, ?_⟩)
            | fail
          all_goals (show V.int _ _ = _; simp_all [validE]))
    | (refine ⟨trivial, rfl, rfl, rfl, ?_⟩)
    | fail
  all_goals (show V.int _ _ = _; simp_all [validE])
end Bow
/- W26: what becomes of a tree. -/
namespace Bow
open Go Go.Proofs

theorem w_apply2 (o : OpT) (y : Tree) : Fun Tryz.prog 155 [some (.box (nodeV y).cells)] [.ptr (.loc 0) 0, .iptr (opV o).cells 0] (fun _ T => T = [some (.box (nodeV (relabelT o.label y)).cells)]) := by
  refine fun_fn 100 Tryz.func155 rfl rfl rfl fun imps B hi => ?_
  obtain ⟨r, rfl⟩ := List.length_eq_one_iff.1 hi
  refine ⟨trivial, rfl, rfl, ?_⟩
  cases y
  rfl
set_option maxRecDepth 100000 in
theorem w_apply3 (o : OpT) (y : Tree) (ho : o.Ok) (hy : y.weight ≤ 1000000) : Fun Tryz.prog 156 [some (.box (nodeV y).cells)] [.ptr (.loc 0) 0, .iptr (opV o).cells 0] (fun _ T => T = [some (.box (nodeV (retextT o.pieces y)).cells)]) := by
  refine fun_fn 100 Tryz.func156 rfl rfl rfl fun imps B hi => ?_
  obtain ⟨r, rfl⟩ := List.length_eq_one_iff.1 hi
  have := text_le_weight y
  show Goes _ _ _ _
  refine goes_draw 100 ⟨_, w_edit y.text o.pieces (by omega) ho.lt.pieces ho.each, rfl, ?_⟩
  refine ⟨by kernel_rfl, ?_⟩
  refine ⟨trivial, rfl, rfl, ?_⟩
  cases y
  rfl
/-- What an operation's walk asks: it is formed, and valid on the tree; and what it makes of it. -/
inductive Does (t : Tree) (o : OpT) : Tree → Prop
  | ins (y) (hk : o.kind = 1) (hy : atT t o.path = some y) (h0 : 0 ≤ o.at_) (h1 : o.at_ ≤ y.subs.length) : Does t o (changeT (insT o.at_ (freshT o)) t o.path)
  | del (x) (hk : o.kind = 2) (hne : o.path ≠ []) (hx : atT t o.path = some x) : Does t o (changeT (delT (lastP o.path)) t o.path.dropLast)
  | mov (x z) (hk : o.kind = 3) (hne : o.path ≠ []) (hx : atT t o.path = some x) (hw : within o.path o.to = false) (hz : atT t o.to = some z) (h0 : 0 ≤ o.at_) (h1 : o.at_ ≤ z.subs.length) : Does t o (moveT x t o)
  | lab (y) (hk : o.kind = 5) (hy : atT t o.path = some y) : Does t o (changeT (relabelT o.label) t o.path)
  | edt (y) (hk : o.kind = 6) (hy : atT t o.path = some y) : Does t o (changeT (retextT o.pieces) t o.path)

theorem wk_fresh (o : OpT) : Wk (.agg [.int .u64 o.id, .bool o.leaf, .str o.label, .nilsl, .str [], .nilsl]) (nodeV (freshT o)) :=
  Wk.agg ⟨.refl _, .refl _, .refl _, Wk.nil 2, .refl _, Wk.nil 6, trivial⟩

set_option maxHeartbeats 1000000 in
set_option maxRecDepth 100000 in
theorem w_apply_k (t : Tree) (o : OpT) (m : Tree) (ht : t.weight ≤ 900000) (ho : o.Ok) (hto : o.kind = 3 → ∀ x ∈ o.to, inI x) (h : Does t o m) : Pure Tryz.prog 106 [nodeV t, opV o] (fun x => x = nodeV m) := by
  have hp := ho.lt.path
  have hpt := ho.lt.to
  refine pure_fn 300 Tryz.func106 rfl rfl rfl fun B => ?_
  cases h with
  | ins y hk hy h0 h1 =>
    refine ⟨fun g1 => go 300 ?_, fun g1 => absurd hk (ne_of g1)⟩
    show CallThen _ _ _ _ _ _
    refine call_pure (pure_args (w_insert t (freshT o) y o.path o.at_ hp ht hy h0 h1) ⟨.refl _, .refl _, .refl _, wk_fresh o, trivial⟩ rfl rfl) rfl ?_
    rintro z rfl
    exact ⟨trivial, rfl, rfl, rfl, rfl⟩
  | del x hk hne hx =>
    obtain ⟨y, y1, y2, y3, y4⟩ := at_parent hne hx
    refine ⟨fun g1 => absurd (hk.symm.trans (eq_of g1)) (by decide), fun g1 => go 300 ?_⟩
    refine ⟨fun g1 => go 300 ?_, fun g1 => absurd hk (ne_of g1)⟩
    show CallThen _ _ _ _ _ _
    refine call_pure (w_remove t y o.path hp hne ht y1 y2 y3) rfl ?_
    rintro z rfl
    exact ⟨trivial, rfl, rfl, rfl, by rw [lastP_eq]; rfl⟩
  | mov x z hk hne hx hw hz h0 h1 =>
    obtain ⟨y, y1, y2, y3, y4⟩ := at_parent hne hx
    refine ⟨fun g1 => absurd (hk.symm.trans (eq_of g1)) (by decide), fun g1 => go 300 ?_⟩
    refine ⟨fun g1 => absurd (hk.symm.trans (eq_of g1)) (by decide), fun g1 => go 300 ?_⟩
    refine ⟨fun g1 => go 300 ?_, fun g1 => absurd hk (ne_of g1)⟩
    show CallThen _ _ _ _ _ _
    refine call_pure (w_At t o.path hp) rfl ?_
    rintro _ rfl
    rw [hx]
    have hzl := subs_le_weight z
    have hzw := atT_weight hz
    show CallThen _ _ _ _ _ _
    refine call_pure (w_landing o.path o.to o.at_ hp hpt hne ⟨by omega, by omega⟩ (hto hk) y2) rfl ?_
    rintro _ rfl
    show Goes _ _ _ _
    have hlast := lastP_eq hne
    have hw' : within (o.path.dropLast ++ [lastP o.path]) o.to = false := by rw [← hlast, List.dropLast_concat_getLast]; exact hw
    obtain ⟨z', z1, z2, z3⟩ := land_at (by rw [← hlast]; exact y2) h0 o.path.dropLast o.to t y z y1 (by rw [← hlast]; exact y3) hw' hz h1
    have hmw := change_weight (del_weight (lastP o.path)) o.path.dropLast t
    have hrem := w_remove t y o.path hp hne ht y1 y2 y3
    have hins := w_insert (changeT (delT (lastP o.path)) t o.path.dropLast) x z' (landT o.path.dropLast (lastP o.path) o.to o.at_).1 (landT o.path.dropLast (lastP o.path) o.to o.at_).2 (by rw [land_len]; exact hpt) (by omega) z1 z2 z3
    rw [← hlast] at hins
    refine goes_draw 300 ⟨_, hrem, rfl, _, hins, rfl, ?_⟩
    refine ⟨by kernel_rfl, ?_⟩
    refine ⟨trivial, rfl, rfl, rfl, ?_⟩
    unfold moveT
    rw [← hlast]
    rfl
  | lab y hk hy =>
    refine ⟨fun g1 => absurd (hk.symm.trans (eq_of g1)) (by decide), fun g1 => go 300 ?_⟩
    refine ⟨fun g1 => absurd (hk.symm.trans (eq_of g1)) (by decide), fun g1 => go 300 ?_⟩
    refine ⟨fun g1 => absurd (hk.symm.trans (eq_of g1)) (by decide), fun g1 => go 300 ?_⟩
    refine ⟨fun g1 => absurd (hk.symm.trans (eq_of g1)) (by decide), fun g1 => go 300 ?_⟩
    refine ⟨fun g1 => go 300 ?_, fun g1 => absurd hk (ne_of g1)⟩
    show CallThen _ _ _ _ _ _
    refine call_freeze 1 rfl rfl ?_
    refine call_pure (w_change1 155 (opV o).cells (relabelT o.label) y (w_apply2 o y) o.path t hp (by omega) hy) rfl ?_
    rintro z rfl
    exact ⟨trivial, rfl, rfl, rfl, rfl⟩
  | edt y hk hy =>
    have hyw := atT_weight hy
    refine ⟨fun g1 => absurd (hk.symm.trans (eq_of g1)) (by decide), fun g1 => go 300 ?_⟩
    refine ⟨fun g1 => absurd (hk.symm.trans (eq_of g1)) (by decide), fun g1 => go 300 ?_⟩
    refine ⟨fun g1 => absurd (hk.symm.trans (eq_of g1)) (by decide), fun g1 => go 300 ?_⟩
    refine ⟨fun g1 => absurd (hk.symm.trans (eq_of g1)) (by decide), fun g1 => go 300 ?_⟩
    refine ⟨fun g1 => absurd (hk.symm.trans (eq_of g1)) (by decide), fun g1 => go 300 ?_⟩
    show CallThen _ _ _ _ _ _
    refine call_freeze 1 rfl rfl ?_
    refine call_pure (w_change1 156 (opV o).cells (retextT o.pieces) y (w_apply3 o y ho (by omega)) o.path t hp (by omega) hy) rfl ?_
    rintro z rfl
    exact ⟨trivial, rfl, rfl, rfl, rfl⟩
/-! ### Apply -/
def ApplyV (r : Tree × Int) : V := .tup [nodeV r.1, .int .i64 r.2]
set_option maxRecDepth 100000 in
theorem w_Apply_bad (t : Tree) (o : OpT) (ht : t.weight ≤ 1000000) (ho : o.Ok) (h : ValidE t o ≠ 0) : Pure Tryz.prog 51 [nodeV t, opV o] (fun x => x = ApplyV (zeroT [], ValidE t o)) := by
  refine pure_wk (pure_fn 300 Tryz.func51 rfl rfl rfl fun B => ?_)
  show CallThen _ _ _ _ _ _
  refine call_pure (w_Valid t o ht ho) rfl ?_
  rintro x rfl
  refine ⟨fun g1 => go 300 ?_, fun g1 => absurd (eq_of' g1) h⟩
  exact ⟨trivial, rfl, rfl, rfl, ApplyV (zeroT [], ValidE t o), Wk.tup ⟨wk_zero (ss := []) (Wk.nil 6), .refl _, trivial⟩, rfl, rfl⟩
set_option maxRecDepth 100000 in
theorem w_Apply_ok (t : Tree) (o : OpT) (m : Tree) (ht : t.weight ≤ 1000000) (ho : o.Ok) (h : ValidE t o = 0) (hm : Pure Tryz.prog 106 [nodeV t, opV o] (fun x => x = nodeV m)) : Pure Tryz.prog 51 [nodeV t, opV o] (fun x => x = ApplyV (m, 0)) := by
  refine pure_fn 300 Tryz.func51 rfl rfl rfl fun B => ?_
  show CallThen _ _ _ _ _ _
  refine call_pure (w_Valid t o ht ho) rfl ?_
  rintro x rfl
  refine ⟨fun g1 => absurd h (ne_of' g1), fun g1 => go 300 ?_⟩
  show CallThen _ _ _ _ _ _
  refine call_pure hm rfl ?_
  rintro x rfl
  exact ⟨trivial, rfl, rfl, rfl, rfl⟩
end Bow
/- SP9: trees that are the same, in plain Lean. -/
namespace Bow
open Go

mutual
def sameT (ids : Bool) : Tree → Tree → Bool
  | .mk i l b a t ss, u => (!ids || decide (i = u.id)) && ((l == u.leaf) && (decide (b = u.label) && (decide (t = u.text) && (decide (a = u.attrs) && sameTs ids ss u.subs))))
def sameTs (ids : Bool) : List Tree → List Tree → Bool
  | [], [] => true
  | s :: ss, u :: us => sameT ids s u && sameTs ids ss us
  | _, _ => false
end
theorem sameT_eq (ids : Bool) (t u : Tree) : sameT ids t u = ((!ids || decide (t.id = u.id)) && ((t.leaf == u.leaf) && (decide (t.label = u.label) && (decide (t.text = u.text) && (decide (t.attrs = u.attrs) && sameTs ids t.subs u.subs))))) := by
  cases t
  rw [sameT]
  rfl
theorem sameTs_len {ids : Bool} : ∀ {ss us : List Tree}, sameTs ids ss us = true → ss.length = us.length
  | [], [], _ => rfl
  | [], _ :: _, h => by simp [sameTs] at h
  | _ :: _, [], h => by simp [sameTs] at h
  | s :: ss, u :: us, h => by
    rw [sameTs, Bool.and_eq_true] at h
    simp [sameTs_len h.2]
theorem sameTs_at {ids : Bool} {ss us : List Tree} {i : Nat} (h1 : i < ss.length) (h2 : i < us.length) : sameTs ids (ss.drop i) (us.drop i) = (sameT ids ss[i] us[i] && sameTs ids (ss.drop (i + 1)) (us.drop (i + 1))) := by
  rw [List.drop_eq_getElem_cons h1, List.drop_eq_getElem_cons h2, sameTs]
mutual
theorem sameT_refl (ids : Bool) : ∀ t : Tree, sameT ids t t = true
  | .mk i l b a c ss => by
    rw [sameT_eq]
    simp only [Tree.id, Tree.leaf, Tree.label, Tree.text, Tree.attrs, Tree.subs]
    rw [sameTs_refl ids ss]
    simp
theorem sameTs_refl (ids : Bool) : ∀ ss : List Tree, sameTs ids ss ss = true
  | [] => by rw [sameTs]
  | s :: ss => by rw [sameTs, sameT_refl ids s, sameTs_refl ids ss]; rfl
end
end Bow
/- W27: trees that are the same. -/
namespace Bow
open Go Go.Proofs

end Bow
/- W30a: Light, just so. -/
namespace Bow
open Go Go.Proofs

def lightB (o : OpT) (top : Nat) : Bool := decide (o.path.length ≤ top) && decide (o.to.length ≤ top) && decide (o.label.length ≤ top) && decide (o.key.length ≤ top) && decide (o.value.length ≤ top) && decide (o.pieces.length ≤ top) && decide (putsLen o.pieces ≤ top)
theorem lightB_iff (o : OpT) (top : Nat) : lightB o top = true ↔ o.Lt top ∧ putsLen o.pieces ≤ top := by
  unfold lightB
  simp only [Bool.and_eq_true, decide_eq_true_eq]
  constructor
  · rintro ⟨⟨⟨⟨⟨⟨h1, h2⟩, h3⟩, h4⟩, h5⟩, h6⟩, h7⟩
    exact ⟨⟨h1, h2, h3, h4, h5, h6⟩, h7⟩
  · rintro ⟨⟨h1, h2, h3, h4, h5, h6⟩, h7⟩
    exact ⟨⟨⟨⟨⟨⟨h1, h2⟩, h3⟩, h4⟩, h5⟩, h6⟩, h7⟩
theorem Lt_mono {o : OpT} {a b : Nat} (h : o.Lt a) (hab : a ≤ b) : o.Lt b := by
  have := h.path; have := h.to; have := h.label; have := h.key; have := h.value; have := h.pieces
  exact ⟨by omega, by omega, by omega, by omega, by omega, by omega⟩
theorem light_ok {o : OpT} {top : Nat} (h : lightB o top = true) (ht : top ≤ 1000000) : o.Ok := by
  obtain ⟨h1, h2⟩ := (lightB_iff o top).1 h
  exact ⟨Lt_mono h1 ht, by omega⟩

set_option maxRecDepth 100000 in
/-- Light: within the bound, the lengths and what is put. -/
theorem w_LightX (o : OpT) (top : Nat) (ht : top ≤ 1000000) : Pure Tryz.prog 48 [opV o, .int .i64 top] (fun x => x = .bool (lightB o top)) := by
  have bad : ¬ (o.Lt top ∧ putsLen o.pieces ≤ top) → ∃ y, Wk .ff y ∧ y.pureB = true ∧ y = .bool (lightB o top) := fun h => leaf_ff (Bool.eq_false_iff.2 fun h' => h ((lightB_iff o top).1 h'))
  refine pure_wk (pure_fn 300 Tryz.func48 rfl rfl rfl fun B => ?_)
  refine ⟨fun g1 => go 300 ?_, fun g1 => go 300 ?_⟩
  · exact ⟨trivial, rfl, rfl, rfl, bad fun ⟨h, _⟩ => by have := lt_of g1; have := h.path; have := h.to; have := h.label; have := h.key; have := h.value; have := h.pieces; simp only [List.length_map] at *; omega⟩
  refine ⟨fun g2 => go 300 ?_, fun g2 => go 300 ?_⟩
  · exact ⟨trivial, rfl, rfl, rfl, bad fun ⟨h, _⟩ => by have := lt_of g2; have := h.path; have := h.to; have := h.label; have := h.key; have := h.value; have := h.pieces; simp only [List.length_map] at *; omega⟩
  refine ⟨fun g3 => go 300 ?_, fun g3 => go 300 ?_⟩
  · exact ⟨trivial, rfl, rfl, rfl, bad fun ⟨h, _⟩ => by have := lt_of g3; have := h.path; have := h.to; have := h.label; have := h.key; have := h.value; have := h.pieces; simp only [List.length_map] at *; omega⟩
  refine ⟨fun g4 => go 300 ?_, fun g4 => go 300 ?_⟩
  · exact ⟨trivial, rfl, rfl, rfl, bad fun ⟨h, _⟩ => by have := lt_of g4; have := h.path; have := h.to; have := h.label; have := h.key; have := h.value; have := h.pieces; simp only [List.length_map] at *; omega⟩
  refine ⟨fun g5 => go 300 ?_, fun g5 => go 300 ?_⟩
  · exact ⟨trivial, rfl, rfl, rfl, bad fun ⟨h, _⟩ => by have := lt_of g5; have := h.path; have := h.to; have := h.label; have := h.key; have := h.value; have := h.pieces; simp only [List.length_map] at *; omega⟩
  refine ⟨fun g6 => go 300 ?_, fun g6 => go 300 ?_⟩
  · exact ⟨trivial, rfl, rfl, rfl, bad fun ⟨h, _⟩ => by have := lt_of g6; have := h.path; have := h.to; have := h.label; have := h.key; have := h.value; have := h.pieces; simp only [List.length_map] at *; omega⟩
  have g1 := not_lt_of g1
  have g2 := not_lt_of g2
  have g3 := not_lt_of g3
  have g4 := not_lt_of g4
  have g5 := not_lt_of g5
  have g6 := not_lt_of g6
  simp only [List.length_map] at g1 g2 g6
  have hlt : o.Lt top := ⟨by omega, by omega, by omega, by omega, by omega, by omega⟩
  show Goes _ _ _ _
  refine goes_iter (ι := Nat × Nat) (fun i => i.1 ≤ o.pieces.length ∧ i.2 ≤ top ∧ putsLen o.pieces = i.2 + putsLen (o.pieces.drop i.1)) (fun i => o.pieces.length - i.1) (fun i => [(6, .int .i64 i.1), (5, .int .i64 i.2), (1, .int .i64 top), (2, .ptr (.loc 0) 0)]) (fun _ => [some (.box (opV o).cells)]) (0, 0) 200 (fun _ => rfl) (fun _ => rfl) ⟨⟨Nat.zero_le _, Nat.zero_le _, by simp⟩, ?_, ?_⟩ ?_
  · exact ⟨⟨rfl, rfl⟩, ⟨rfl, rfl⟩, ⟨rfl, rfl⟩, ⟨rfl, rfl⟩, trivial⟩
  · exact ⟨⟨rfl, rfl⟩, trivial⟩
  · rintro ⟨i, n⟩ ⟨h1, h3, h2⟩ next
    simp only at h1 h2 h3
    refine ⟨fun hlt => go 200 ?_, fun hge => go 200 ?_⟩
    · have hi : i < o.pieces.length := by simpa using hlt
      have hx : (o.pieces.map pieceV)[i]? = some (pieceV o.pieces[i]) := by simp [hi]
      rw [drop_cons hi] at h2
      have h2 : putsLen o.pieces = n + ((o.pieces[i]).put.length + putsLen (o.pieces.drop (i + 1))) := h2
      refine ⟨Int.natCast_nonneg i, _, hx, ?_⟩
      refine ⟨by constructor <;> omega, ?_⟩
      refine ⟨fun g7 => go 200 ?_, fun g7 => go 200 ?_⟩
      · exact ⟨trivial, rfl, rfl, rfl, bad fun ⟨h, _⟩ => by have := lt_of g7; have := h.path; have := h.to; have := h.label; have := h.key; have := h.value; have := h.pieces; simp only [List.length_map] at *; omega⟩
      have g7 := not_lt_of g7
      refine ⟨Int.natCast_nonneg i, _, hx, ?_⟩
      refine ⟨by constructor <;> omega, ?_⟩
      refine ⟨by constructor <;> omega, ?_⟩
      show Goes _ _ _ _
      refine next (i + 1, n + (o.pieces[i]).put.length) _ _ ⟨⟨hi, by simp only; omega, by simp only; omega⟩, ?_, ⟨⟨rfl, rfl⟩, ⟨rfl, rfl⟩, ⟨rfl, rfl⟩, ⟨rfl, rfl⟩, trivial⟩, ⟨⟨rfl, rfl⟩, trivial⟩⟩
      simp only; omega
    · have hi : o.pieces.length ≤ i := by simpa using hge
      rw [List.drop_eq_nil_of_le hi] at h2
      have h2 : putsLen o.pieces = n + 0 := h2
      exact ⟨trivial, rfl, rfl, rfl, leaf_tt ((lightB_iff o top).2 ⟨hlt, by omega⟩)⟩


end Bow
/- AE41: shifts to the right; a string's comparison. -/
namespace Bow
open Go

section
variable {c : Cx} {E : Env} {T : Heap} {ops : Array Oper} {i : Nat} {rest : List Nat} {k : List Item} {o : Oper}
theorem goes_shr {t t' : TypeId} {x y : Operand} {ik yk : IntKind} {a b : Int} (n : Nat) (ho : lget ops.toList i = some o) (hg : o.guard = none) (hop : o.op = .binOp .shr t x y t') (hx : opd E x = .int ik a) (hy : opd E y = .int yk b) (hb : 0 ≤ b)
    (h : putE c.nt o.dst (.int ik (a / 2 ^ min b.toNat ik.bits)) E False fun E' => evp c n (.inRegion ops rest :: k) E' T) : Goes c (.inRegion ops (i :: rest) :: k) E T := by
  refine goes_opTo n ho hg hop (fun o hop w β H m a hs => ?_) (fun cl h => by cases h) h
  have e1 := rep_int (by have := opd_rep hs x; rwa [hx] at this)
  have e2 := rep_int (by have := opd_rep hs y; rwa [hy] at this)
  refine ⟨_, _, w, β, H, m, ?_, .inl rfl, hs, Fr.refl w β H, .int _ _, List.prefix_refl m⟩
  simp only [execOp, hop, e1, e2, eqGuard, binOp, shift_shr_any _ _ _ _ hb]
  rfl
/-- A slot's value, said less closely. -/
theorem goes_wkSlot {todo : List Item} (t : Nat) {v v' : V} (hx : lk E t = v) (hp : v.pureB = true) (hp' : v'.pureB = true) (hw : Wk v v') (h : Goes c todo ((t, v') :: E) T) : Goes c todo E T := by
  refine goes_step fun w β H m a b cs hs _ _ _ => ?_
  have hr := hs.env t
  rw [hx, pure_conv _ _ hp] at hr
  have hr' := hw w β H _ hr
  exact ⟨w, β, H, m, a, todo, ⟨_, _, c.B, c.D⟩, .refl _ _, hs.know (x := v') (by rw [pure_conv _ _ hp']; exact hr'), Fr.refl w β H, h⟩
/-- An own slice, frozen, as one slot holds it; what else names it is of no use from here on. -/
theorem goes_fzSlot {todo : List Item} (t kn : Nat) {g l sz : Nat} {xs : List V} (hx : lk E t = .osl (.loc kn) g 0 l) (hk : lget T kn = some (some (.vec g sz xs))) (hl : l = xs.length) (h : lset T kn none fun T' => Goes c todo ((t, .sl sz xs) :: E) T') : Goes c todo E T := by
  rw [lset_eq] at h
  have hfz : frzAll [lk E t] T False fun vs T' => vs = [.sl sz xs] ∧ T' = T.set kn none := by
    rw [hx]
    simp only [frzAll, fv_eq, frz, frz1, hk, lset_eq]
    exact ⟨trivial, hl, trivial, trivial⟩
  rcases frzAll_sound (F := False) _ _ _ hfz with h' | ⟨vs', T', ⟨rfl, rfl⟩, hto⟩
  · exact h'.elim
  refine goes_step fun w β H m a b cs hs _ _ _ => ?_
  obtain ⟨H1, q1, q2, q3⟩ := hto.2 _ _ _ _ _ _ _ _ _ _ hs
  have hr := q3 0 _ _ _ rfl rfl (hs.env t)
  exact ⟨w, β, H1, m, a, todo, ⟨_, _, c.B, c.D⟩, .refl _ _, q1.know (x := .sl sz xs) (show Rep w β H1 ((V.sl sz xs).conv m) _ from hr), q2, h⟩
end
end Bow
/- W31: the reference's Put, put, drop, change. -/
namespace Bow
open Go Go.Proofs

theorem w_CopiedQ (xs : List V) (hl : xs.length ≤ 1000000) : Fun Tryz.prog 122 [] [.sl 1 xs] (fun x T => x = .osl (.loc 0) 0 0 xs.length ∧ T = [some (.vec 0 1 xs)]) := by
  refine fun_fn 100 Tryz.func122 rfl rfl rfl fun imps B hi => ?_
  have : imps = [] := List.length_eq_zero_iff.1 hi
  subst this
  refine ⟨Nat.le_trans (Nat.mul_le_mul_right _ hl) (by decide), ?_⟩
  exact ⟨trivial, rfl, rfl, rfl, rfl⟩

set_option maxRecDepth 100000 in
theorem w_refPut (x : Tree) : ∀ (p : List Int) (t y : Tree), p.length ≤ 1000000 → t.weight ≤ 1000000 → atT t p = some y → Pure Tryz.prog 134 [nodeV t, pathV p, nodeV x] (fun r => r = .tup [nodeV (changeT (fun _ => x) t p), .tt])
  | [], t, y, _, _, _ => by
    refine pure_fn 300 Tryz.func134 rfl rfl rfl fun B => ?_
    refine ⟨fun g => go 300 ?_, fun g => absurd rfl (ne_of g)⟩
    exact ⟨trivial, rfl, rfl, rfl, rfl⟩
  | i :: p, t, y, hp, ht, hy => by
    rw [atT] at hy
    cases hs : subT t i with
    | none => rw [hs] at hy; cases hy
    | some s =>
    rw [hs] at hy
    simp only at hy
    obtain ⟨hi, hsi, hm⟩ := subT_some hs
    have hil := lt_of_get hsi
    have hsw := weight_sub hm
    have ih := w_refPut x p s y (by simp at hp; omega) (by omega) hy
    refine pure_fn 300 Tryz.func134 rfl rfl rfl fun B => ?_
    refine ⟨fun g => absurd (eq_of g) (by simp; omega), fun g => go 300 ?_⟩
    show Goes _ _ _ _
    refine goes_draw 300 ?_
    refine ⟨Int.le_refl 0, _, rfl, ⟨fun q1 => absurd (lt_of q1) (by omega), fun q1 => ⟨Int.le_refl 0, _, rfl, ?_⟩⟩⟩
    refine ⟨by kernel_rfl, ?_⟩
    refine ⟨fun q2 => absurd (le_of q2) (by simp [subV_eq]; omega), fun q2 => go 300 ?_⟩
    show Goes _ _ _ _
    have hx : t.subV[i.toNat]? = some (nodeV s) := subV_at hsi
    have hil' : i < (t.subV.length : Int) := by rw [subV_len]; omega
    have e : V.sl 1 ((((i :: p).map intV).drop (Int.toNat 1)).take (((((i :: p).map intV).length : Nat) : Int).toNat - Int.toNat 1)) = pathV p := by
      unfold pathV
      rw [List.take_of_length_le (by simp)]
      rfl
    refine goes_draw 300 ⟨Int.le_refl 0, _, rfl, hi, _, hx, by decide, by simp; omega, by omega, .tup [nodeV (changeT (fun _ => x) s p), .tt], ?_, rfl, ?_⟩
    · unfold pathV at e ih
      rw [e]
      exact ih
    refine ⟨by kernel_rfl, ?_⟩
    refine ⟨by kernel_rfl, ?_⟩
    have hsl := subs_le_weight t
    refine ⟨room_of (by rw [subV_len]; omega) (by decide), ?_⟩
    show Goes _ _ _ _
    have hx0 : t.subV[0 + i.toNat]? = some (nodeV s) := by rw [Nat.zero_add]; exact hx
    refine goes_draw 1 ⟨Int.le_refl 0, _, rfl, rfl, hi, hil', rfl, _, hx0, ?_⟩
    refine ⟨by kernel_rfl, ?_⟩
    show Goes _ _ _ _
    refine goes_fzSlot 10 4 rfl rfl (by simp) ?_
    refine go 300 ?_
    refine ⟨trivial, rfl, rfl, rfl, ?_⟩
    rw [changeT, hs]
    simp only
    rw [withSubs_V, ← subV_set, Nat.zero_add]
    rfl
end Bow
/- W32: the reference's put, drop, change, Without. -/
namespace Bow
open Go Go.Proofs

theorem row_ins (t x : Tree) (at_ : Int) : (t.subV.take (at_.toNat - Int.toNat 0 : Nat)).drop 0 ++ [nodeV x] ++ (t.subV.drop at_.toNat).take ((t.subV.length : Int).toNat - at_.toNat) = (t.subs.take at_.toNat ++ x :: t.subs.drop at_.toNat).map nodeV := by
  rw [subV_eq, List.take_of_length_le (l := List.drop _ _) (by simp)]
  simp
theorem row_del (t : Tree) (at_ : Int) (h0 : 0 ≤ at_) : (t.subV.take (at_.toNat - Int.toNat 0 : Nat)).drop 0 ++ (t.subV.drop (at_ + 1).toNat).take ((t.subV.length : Int).toNat - (at_ + 1).toNat) = (t.subs.take at_.toNat ++ t.subs.drop (at_.toNat + 1)).map nodeV := by
  have e : (at_ + 1).toNat = at_.toNat + 1 := by omega
  rw [subV_eq, List.take_of_length_le (l := List.drop _ _) (by simp), e]
  simp

set_option maxRecDepth 100000 in
theorem w_refputs (t x : Tree) (at_ : Int) (ht : t.weight ≤ 1000000) (h0 : 0 ≤ at_) (h1 : at_ ≤ t.subs.length) : Pure Tryz.prog 79 [nodeV t, .int .i64 at_, nodeV x] (fun r => r = nodeV (insT at_ x t)) := by
  have hsl := subs_le_weight t
  have hl : t.subV.length = t.subs.length := subV_len t
  refine pure_fn 300 Tryz.func79 rfl rfl rfl fun B => ?_
  refine ⟨by decide, h0, by rw [hl]; exact h1, room_of (by simp; omega) (by decide), ?_⟩
  refine ⟨⟨rfl, trivial⟩, ?_⟩
  refine ⟨rfl, rfl, rfl, rfl, room_of (by simp; omega) (by decide), ?_⟩
  refine ⟨h0, by rw [hl]; exact h1, Int.le_refl _, rfl, ?_, room_of (by simp; omega) (by decide), ?_⟩
  · simp
  refine ⟨trivial, rfl, rfl, rfl, by simp only [List.length_append], rfl, ?_⟩
  rw [insT, withSubs_V, ← row_ins]
  rfl

set_option maxRecDepth 100000 in
theorem w_refdrop (t : Tree) (at_ : Int) (ht : t.weight ≤ 1000000) (h0 : 0 ≤ at_) (h1 : at_ < t.subs.length) : Pure Tryz.prog 135 [nodeV t, .int .i64 at_] (fun r => r = nodeV (delT at_ t)) := by
  have hsl := subs_le_weight t
  have hl : t.subV.length = t.subs.length := subV_len t
  refine pure_fn 300 Tryz.func135 rfl rfl rfl fun B => ?_
  refine ⟨by decide, h0, by rw [hl]; omega, room_of (by simp; omega) (by decide), ?_⟩
  refine ⟨⟨by omega, by omega⟩, by omega, by rw [hl]; omega, Int.le_refl _, rfl, by simp, room_of (by simp; omega) (by decide), ?_⟩
  refine ⟨trivial, rfl, rfl, rfl, by simp [List.length_append], rfl, ?_⟩
  rw [delT, withSubs_V, ← row_del _ _ h0]
  rfl

set_option maxRecDepth 100000 in
theorem w_refchange (t x y : Tree) (p : List Int) (hp : p.length ≤ 1000000) (ht : t.weight ≤ 1000000) (hy : atT t p = some y) : Pure Tryz.prog 78 [nodeV t, pathV p, nodeV x] (fun r => r = nodeV (changeT (fun _ => x) t p)) := by
  refine pure_fn 300 Tryz.func78 rfl rfl rfl fun B => ?_
  show CallThen _ _ _ _ _ _
  refine call_pure (w_refPut x p t y hp ht hy) rfl ?_
  rintro z rfl
  exact ⟨trivial, rfl, rfl, rfl, rfl⟩

theorem change_const {F : Tree → Tree} {y : Tree} : ∀ {p : List Int} {t : Tree}, atT t p = some y → changeT (fun _ => F y) t p = changeT F t p
  | [], t, h => by
    rw [atT] at h
    injection h with h
    subst h
    rfl
  | i :: p, t, h => by
    rw [atT] at h
    cases hs : subT t i with
    | none => rw [hs] at h; cases h
    | some s =>
      rw [hs] at h
      rw [changeT, changeT, hs]
      simp only
      rw [change_const (p := p) h]

set_option maxRecDepth 100000 in
theorem w_refWithout (t x : Tree) (p : List Int) (hp : p.length ≤ 1000000) (hne : p ≠ []) (ht : t.weight ≤ 1000000) (hx : atT t p = some x) : Pure Tryz.prog 80 [nodeV t, pathV p] (fun r => r = nodeV (withoutT t p)) := by
  obtain ⟨y, y1, y2, y3, y4⟩ := at_parent hne hx
  have hlen : 0 < p.length := List.length_pos_iff.2 hne
  have hyw := atT_weight y1
  refine pure_fn 300 Tryz.func80 rfl rfl rfl fun B => ?_
  refine ⟨by constructor <;> simp <;> omega, by decide, by simp; omega, by simp; omega, ?_⟩
  have e : (List.take ((((p.map intV).length : Int) - 1).toNat - Int.toNat 0) (List.drop (Int.toNat 0) (p.map intV))) = p.dropLast.map intV := by
    rw [List.dropLast_eq_take, List.map_take]
    simp
  show CallThen _ _ _ _ _ _
  rw [e]
  refine call_pure (w_refAt t p.dropLast (by simp; omega)) rfl ?_
  rintro z rfl
  rw [y1]
  show Goes _ _ _ _
  have hg : (p.map intV)[(((p.map intV).length : Int) - 1).toNat]? = some (intV (lastP p)) := by
    have e1 : (((p.map intV).length : Int) - 1).toNat = p.length - 1 := by simp
    rw [e1, List.getElem?_map, ← List.getLast?_eq_getElem?, List.getLast?_eq_some_getLast hne, lastP_eq hne]
    rfl
  have hlast := lastP_eq hne
  refine goes_draw 300 ⟨⟨by simp; omega, by simp; omega⟩, by simp; omega, _, hg, _, w_refdrop y (lastP p) (by omega) (by omega) (by omega), rfl, _, w_refchange t (delT (lastP p) y) y p.dropLast (by simp; omega) ht y1, rfl, ?_⟩
  refine ⟨by kernel_rfl, ?_⟩
  refine ⟨trivial, rfl, rfl, rfl, ?_⟩
  rw [change_const (F := delT (lastP p)) y1]
  rfl
end Bow
/- W33: the reference's attr. -/
namespace Bow
open Go Go.Proofs

theorem withAttrs_V (t : Tree) (a : AttrL) : nodeV (t.withAttrs a) = .agg [.int .u64 t.id, .bool t.leaf, .str t.label, .sl 2 (a.map attrV), .str t.text, .sl 6 t.subV] := by
  cases t
  rfl
theorem attrs_le_weight (t : Tree) : t.attrs.length ≤ t.weight := by rw [weight_eq]; omega

set_option maxHeartbeats 1000000 in
set_option maxRecDepth 100000 in
theorem w_refattr (t : Tree) (o : OpT) (ht : t.weight ≤ 400000) : Pure Tryz.prog 82 [nodeV t, opV o] (fun r => r = nodeV (t.withAttrs (refA o o.gone t.attrs))) := by
  have hal := attrs_le_weight t
  refine pure_fn 300 Tryz.func82 rfl rfl rfl fun B => ?_
  show Goes _ _ _ _
  refine goes_own 5 2 rfl ?_
  refine goes_iter (ι := Nat × Bool × Nat × Nat × List V) (fun i => i.1 ≤ t.attrs.length ∧ ∃ acc : AttrL, i.2.2.2.2 = acc.map attrV ∧ i.2.2.2.1 = acc.length ∧ acc.length ≤ 2 * i.1 ∧ acc ++ refA o i.2.1 (t.attrs.drop i.1) = refA o o.gone t.attrs) (fun i => t.attrs.length - i.1)
    (fun i => [(7, .int .i64 i.1), (6, .bool i.2.1), (5, .osl (.loc 3) i.2.2.1 0 i.2.2.2.1), (2, .ptr (.loc 0) 0), (3, .ptr (.loc 1) 0), (4, .ptr (.loc 2) 0)])
    (fun i => [some (.box (nodeV t).cells), some (.box (opV o).cells), some (.box (zeroV .nilsl).cells), some (.vec i.2.2.1 2 i.2.2.2.2)]) (0, o.gone, 0, 0, []) 300 (fun _ => rfl) (fun _ => rfl) ⟨⟨Nat.zero_le _, [], rfl, rfl, Nat.le_refl _, rfl⟩, ?_, ?_⟩ ?_
  · exact ⟨⟨rfl, rfl⟩, ⟨rfl, rfl⟩, ⟨rfl, rfl⟩, ⟨rfl, rfl⟩, ⟨rfl, rfl⟩, ⟨rfl, rfl⟩, trivial⟩
  · exact ⟨⟨rfl, rfl⟩, ⟨rfl, rfl⟩, ⟨rfl, rfl⟩, ⟨rfl, rfl⟩, trivial⟩
  rintro ⟨i, d, g, n, xs⟩ ⟨k1, acc, rfl, rfl, k2, k3⟩ next
  simp only at k1 k2 k3
  refine ⟨fun hlt => go 300 ?_, fun hge => go 300 ?_⟩
  · have hi : i < t.attrs.length := by simpa using hlt
    have hx : (t.attrs.map attrV)[i]? = some (attrV t.attrs[i]) := by simp [hi]
    rw [drop_cons hi, refA] at k3
    show Goes _ _ _ _
    refine goes_draw 300 ⟨fun q1 => ⟨Int.natCast_nonneg i, _, hx, ?_⟩, fun q1 => ?_⟩
    all_goals refine ⟨by kernel_rfl, ?_⟩
    · have hd : d = false := by simpa using q1
      subst hd
      refine ⟨fun q2 => go 300 ?_, fun q2 => go 300 ?_⟩
      · have hl : Op.bytesLess t.attrs[i].1 o.key = false := by simpa using q2
        rw [hl] at k3
        refine ⟨⟨rfl, trivial⟩, rfl, rfl, rfl, (by simp), room_of (by simp; omega) (by decide), ?_⟩
        show Goes _ _ _ _
        refine goes_draw 300 ⟨Int.natCast_nonneg i, _, hx, ?_⟩
        refine ⟨by kernel_rfl, ?_⟩
        refine ⟨fun q3 => go 300 ?_, fun q3 => go 300 ?_⟩
        · have he : decide (t.attrs[i].1 = o.key) = false := by simpa using q3
          rw [he] at k3
          refine ⟨Int.natCast_nonneg i, _, hx, ⟨rfl, trivial⟩, rfl, rfl, rfl, (by simp), room_of (by simp; omega) (by decide), ?_⟩
          refine ⟨by constructor <;> omega, ?_⟩
          show Goes _ _ _ _
          refine goes_wkSlot 6 (v := .tt) (v' := .bool true) rfl rfl rfl Wk.tt ?_
          refine next (i + 1, true, _, _, _) _ _ ⟨⟨hi, acc ++ [(o.key, o.value)] ++ [t.attrs[i]], ?_, ?_, ?_, ?_⟩, ?_, ⟨⟨rfl, rfl⟩, ⟨rfl, rfl⟩, ⟨rfl, rfl⟩, ⟨rfl, rfl⟩, ⟨rfl, rfl⟩, ⟨rfl, rfl⟩, trivial⟩, ⟨⟨rfl, rfl⟩, ⟨rfl, rfl⟩, ⟨rfl, rfl⟩, ⟨rfl, rfl⟩, trivial⟩⟩
          · simp [attrV]
          · simp
          · simp; omega
          · simpa using k3
          · simp only; omega
        · have he : decide (t.attrs[i].1 = o.key) = true := by simpa using q3
          rw [he] at k3
          refine ⟨by constructor <;> omega, ?_⟩
          show Goes _ _ _ _
          refine goes_wkSlot 6 (v := .tt) (v' := .bool true) rfl rfl rfl Wk.tt ?_
          refine next (i + 1, true, _, _, _) _ _ ⟨⟨hi, acc ++ [(o.key, o.value)], ?_, ?_, ?_, ?_⟩, ?_, ⟨⟨rfl, rfl⟩, ⟨rfl, rfl⟩, ⟨rfl, rfl⟩, ⟨rfl, rfl⟩, ⟨rfl, rfl⟩, ⟨rfl, rfl⟩, trivial⟩, ⟨⟨rfl, rfl⟩, ⟨rfl, rfl⟩, ⟨rfl, rfl⟩, ⟨rfl, rfl⟩, trivial⟩⟩
          · simp [attrV]
          · simp
          · simp; omega
          · simpa using k3
          · simp only; omega
      · have hl : Op.bytesLess t.attrs[i].1 o.key = true := by simpa using q2
        rw [hl] at k3
        show Goes _ _ _ _
        refine goes_draw 300 ⟨Int.natCast_nonneg i, _, hx, ?_⟩
        refine ⟨by kernel_rfl, ?_⟩
        refine ⟨fun q3 => go 300 ?_, fun q3 => go 300 ?_⟩
        · have he : decide (t.attrs[i].1 = o.key) = false := by simpa using q3
          rw [he] at k3
          refine ⟨Int.natCast_nonneg i, _, hx, ⟨rfl, trivial⟩, rfl, rfl, rfl, (by simp), room_of (by simp; omega) (by decide), ?_⟩
          refine ⟨by constructor <;> omega, ?_⟩
          show Goes _ _ _ _
          refine next (i + 1, false, bump g, (acc.map attrV).length + 1, acc.map attrV ++ [attrV t.attrs[i]]) _ _ ⟨⟨hi, acc ++ [t.attrs[i]], ?_, ?_, ?_, ?_⟩, ?_, ⟨⟨rfl, rfl⟩, ⟨rfl, rfl⟩, ⟨rfl, rfl⟩, ⟨rfl, rfl⟩, ⟨rfl, rfl⟩, ⟨rfl, rfl⟩, trivial⟩, ⟨⟨rfl, rfl⟩, ⟨rfl, rfl⟩, ⟨rfl, rfl⟩, ⟨rfl, rfl⟩, trivial⟩⟩
          · simp [attrV]
          · simp
          · simp; omega
          · simpa using k3
          · simp only; omega
        · have he : decide (t.attrs[i].1 = o.key) = true := by simpa using q3
          rw [he] at k3
          refine ⟨by constructor <;> omega, ?_⟩
          show Goes _ _ _ _
          refine next (i + 1, false, _, _, _) _ _ ⟨⟨hi, acc, ?_, ?_, ?_, ?_⟩, ?_, ⟨⟨rfl, rfl⟩, ⟨rfl, rfl⟩, ⟨rfl, rfl⟩, ⟨rfl, rfl⟩, ⟨rfl, rfl⟩, ⟨rfl, rfl⟩, trivial⟩, ⟨⟨rfl, rfl⟩, ⟨rfl, rfl⟩, ⟨rfl, rfl⟩, ⟨rfl, rfl⟩, trivial⟩⟩
          · simp
          · simp
          · simp; omega
          · simpa using k3
          · simp only; omega
    · have hd : d = true := by simpa using q1
      subst hd
      show Goes _ _ _ _
      refine goes_draw 300 ⟨Int.natCast_nonneg i, _, hx, ?_⟩
      refine ⟨by kernel_rfl, ?_⟩
      refine ⟨fun q3 => go 300 ?_, fun q3 => go 300 ?_⟩
      · have he : decide (t.attrs[i].1 = o.key) = false := by simpa using q3
        rw [he] at k3
        refine ⟨Int.natCast_nonneg i, _, hx, ⟨rfl, trivial⟩, rfl, rfl, rfl, (by simp), room_of (by simp; omega) (by decide), ?_⟩
        refine ⟨by constructor <;> omega, ?_⟩
        show Goes _ _ _ _
        refine next (i + 1, true, bump g, (acc.map attrV).length + 1, acc.map attrV ++ [attrV t.attrs[i]]) _ _ ⟨⟨hi, acc ++ [t.attrs[i]], ?_, ?_, ?_, ?_⟩, ?_, ⟨⟨rfl, rfl⟩, ⟨rfl, rfl⟩, ⟨rfl, rfl⟩, ⟨rfl, rfl⟩, ⟨rfl, rfl⟩, ⟨rfl, rfl⟩, trivial⟩, ⟨⟨rfl, rfl⟩, ⟨rfl, rfl⟩, ⟨rfl, rfl⟩, ⟨rfl, rfl⟩, trivial⟩⟩
        · simp [attrV]
        · simp
        · simp; omega
        · simpa using k3
        · simp only; omega
      · have he : decide (t.attrs[i].1 = o.key) = true := by simpa using q3
        rw [he] at k3
        refine ⟨by constructor <;> omega, ?_⟩
        show Goes _ _ _ _
        refine next (i + 1, true, _, _, _) _ _ ⟨⟨hi, acc, ?_, ?_, ?_, ?_⟩, ?_, ⟨⟨rfl, rfl⟩, ⟨rfl, rfl⟩, ⟨rfl, rfl⟩, ⟨rfl, rfl⟩, ⟨rfl, rfl⟩, ⟨rfl, rfl⟩, trivial⟩, ⟨⟨rfl, rfl⟩, ⟨rfl, rfl⟩, ⟨rfl, rfl⟩, ⟨rfl, rfl⟩, trivial⟩⟩
        · simp
        · simp
        · simp; omega
        · simpa using k3
        · simp only; omega
  · have hi : i = t.attrs.length := by have : t.attrs.length ≤ i := by simpa using hge
                                       omega
    subst hi
    rw [List.drop_length, refA] at k3
    refine ⟨fun q1 => go 300 ?_, fun q1 => go 300 ?_⟩
    · have hd : d = false := by simpa using q1
      subst hd
      refine ⟨⟨rfl, trivial⟩, rfl, rfl, rfl, (by simp), room_of (by simp; omega) (by decide), ?_⟩
      refine ⟨trivial, rfl, rfl, rfl, (by simp), rfl, ?_⟩
      rw [withAttrs_V, ← k3]
      simp [attrV]
    · have hd : d = true := by simpa using q1
      subst hd
      refine ⟨trivial, rfl, rfl, rfl, (by simp), rfl, ?_⟩
      rw [withAttrs_V, ← k3]
      simp
end Bow
/- W34: the reference's move. -/
namespace Bow
open Go Go.Proofs

theorem pure_sl_cast {P : Program} {f : FuncId} {a : V} {sz : Nat} {q q' : List V} {Q : V → Prop} (h : Pure P f [a, .sl sz q'] Q) (e : q = q') : Pure P f [a, .sl sz q] Q := e ▸ h

set_option maxHeartbeats 1000000 in
set_option maxRecDepth 100000 in
theorem w_refmove (t x z : Tree) (o : OpT) (ht : t.weight ≤ 400000) (ho : o.Ok) (hfr : ∀ i ∈ o.path, inI (i + 1)) (hne : o.path ≠ []) (hx : atT t o.path = some x) (hw : within o.path o.to = false) (hz : atT t o.to = some z) (h0 : 0 ≤ o.at_) (h1 : o.at_ ≤ z.subs.length) :
    Pure Tryz.prog 81 [nodeV t, opV o] (fun r => r = nodeV (moveT x t o)) := by
  have hp := ho.lt.path
  have hpt := ho.lt.to
  have hxw := atT_weight hx
  have hzw := atT_weight hz
  have hmw := change_weight_add (F := insT o.at_ x) (n := x.weight) (ins_weight o.at_ x) o.to t
  obtain ⟨s', hs'⟩ := lift_at h0 x o.path o.to t x z hne hx hw hz h1
  have law := move_law h0 x o.path o.to t x z hne hx hw hz h1
  refine pure_fn 300 Tryz.func81 rfl rfl rfl fun B => ?_
  show CallThen _ _ _ _ _ _
  refine call_pure (w_refAt t o.path hp) rfl ?_
  rintro _ rfl
  rw [hx]
  show CallThen _ _ _ _ _ _
  refine call_pure (w_refAt t o.to hpt) rfl ?_
  rintro _ rfl
  rw [hz]
  show Goes _ _ _ _
  refine goes_draw 300 ⟨_, w_refputs z x o.at_ (by omega) h0 h1, rfl, _, w_refchange t (insT o.at_ x z) z o.to hpt (by omega) hz, rfl, ?_⟩
  rw [change_const (F := insT o.at_ x) hz]
  refine ⟨by kernel_rfl, ?_⟩
  refine ⟨by kernel_rfl, ?_⟩
  show CallThen _ _ _ _ _ _
  refine call_sub [] (w_CopiedQ (o.path.map intV) (by simpa using hp)) rfl rfl trivial rfl rfl rfl ?_
  rintro r T1 ⟨rfl, rfl⟩
  refine ⟨rfl, ?_⟩
  show Goes _ _ _ _
  have hwith := w_refWithin o.to o.path hpt
  have hm : (changeT (insT o.at_ x) t o.to).weight ≤ 1000000 := by omega
  have hwo : Pure Tryz.prog 80 [nodeV (changeT (insT o.at_ x) t o.to), pathV (liftP o.to o.at_ o.path)] (fun r => r = nodeV (moveT x t o)) := by
    have := w_refWithout (changeT (insT o.at_ x) t o.to) s' (liftP o.to o.at_ o.path) (by rw [lift_len]; exact hp) (fun e => hne (List.length_eq_zero_iff.1 (by rw [← lift_len o.to o.at_ o.path, e]; rfl))) hm hs'
    rw [law] at this
    exact this
  have hsame : (decide (o.to.length < o.path.length) && (within o.to o.path && decide (o.at_ ≤ o.path.getD o.to.length 0))) = false → liftP o.to o.at_ o.path = o.path := fun h => by unfold liftP; rw [h]; rfl
  refine goes_draw 300 ⟨rfl, fun q1 => ⟨rfl, rfl, _, hwith, rfl, ⟨fun q2 => ?_, fun q2 => ?_⟩⟩, fun q1 => ?_⟩
  · have hd : o.to.length < o.path.length := by have := lt_of q1; simp at this; omega
    have hg : (o.path.map intV)[0 + (((o.to.map intV).length : Nat) : Int).toNat]? = some (intV o.path[o.to.length]) := by simp [hd]
    have hgd : o.path.getD o.to.length 0 = o.path[o.to.length] := by simp [List.getD_eq_getElem?_getD, hd]
    have hb0 : (0 : Int) ≤ ((o.to.map intV).length : Nat) := Int.natCast_nonneg _
    have hb1 : (((o.to.map intV).length : Nat) : Int) < ((o.path.map intV).length : Nat) := by simp; omega
    refine ⟨rfl, hb0, hb1, rfl, _, hg, ?_⟩
    refine ⟨by kernel_rfl, ?_⟩
    refine ⟨fun q3 => go 300 ?_, fun q3 => go 300 ?_⟩
    · have hin := hfr _ (List.getElem_mem hd)
      refine ⟨rfl, hb0, hb1, rfl, _, hg, hin, rfl, hb0, hb1, rfl, _, hg, ?_⟩
      show CallThen _ _ _ _ _ _
      refine call_pure_frz ?_
      refine ⟨rfl, by simp, fun r => r = nodeV (moveT x t o), ?_, rfl, ?_⟩
      · refine pure_sl_cast (q' := (liftP o.to o.at_ o.path).map intV) hwo ?_
        have e : liftP o.to o.at_ o.path = o.path.set o.to.length (o.path[o.to.length] + 1) := by
          unfold liftP
          have q2 : within o.to o.path = true := by simpa using q2
          have q3 : o.at_ ≤ o.path[o.to.length] := le_of q3
          rw [hgd, decide_eq_true hd, q2, decide_eq_true q3]
          rfl
        rw [e, List.map_set]
        simp
        rfl
      · rintro r rfl
        exact ⟨trivial, rfl, rfl, rfl, rfl⟩
    · have e := hsame (by
        have q3 := not_le_of q3
        rw [hgd, decide_eq_false (by omega : ¬ o.at_ ≤ o.path[o.to.length])]
        simp)
      rw [e] at hwo
      show CallThen _ _ _ _ _ _
      refine call_pure_frz ?_
      refine ⟨rfl, rfl, fun r => r = nodeV (moveT x t o), hwo, rfl, ?_⟩
      rintro r rfl
      exact ⟨trivial, rfl, rfl, rfl, rfl⟩
  · have e := hsame (by
      have q2 : within o.to o.path = false := by simpa using q2
      rw [q2]
      simp)
    rw [e] at hwo
    refine ⟨by kernel_rfl, ?_⟩
    show CallThen _ _ _ _ _ _
    refine call_pure_frz ?_
    refine ⟨rfl, rfl, fun r => r = nodeV (moveT x t o), hwo, rfl, ?_⟩
    rintro r rfl
    exact ⟨trivial, rfl, rfl, rfl, rfl⟩
  · have e := hsame (by
      have q1 : ¬ o.to.length < o.path.length := by have := not_lt_of q1; simp at this; omega
      rw [decide_eq_false q1]
      rfl)
    rw [e] at hwo
    refine ⟨by kernel_rfl, ?_⟩
    show CallThen _ _ _ _ _ _
    refine call_pure_frz ?_
    refine ⟨rfl, rfl, fun r => r = nodeV (moveT x t o), hwo, rfl, ?_⟩
    rintro r rfl
    exact ⟨trivial, rfl, rfl, rfl, rfl⟩
end Bow
/- WB2: strings.Compare at this program: by the kit's own tactics. -/
namespace Bow
open Go Go.Proofs Go.RowKit Go.Shelf

set_option maxHeartbeats 1000000 in
set_option maxRecDepth 100000 in
theorem c_CompareString (a b : ByteArray) (w : World) :
    Calls Tryz.prog 226 #[.string a, .string b] w fun e w' => e = .returned (.int .i64 (Lib.compareBytes a.data.toList b.data.toList)) ∧ w' = w := by
  go_enter Tryz.func226, Tryz.ntmps226
  go_wp2
  rw [run_callFunc_extern Tryz.func246 (by kernel_rfl) (by kernel_rfl) (by kernel_rfl) (e := Extern.BytealgCompare.compare) (by kernel_rfl), Lib.run_compareString]
  simp only [Result.andThen]
  rw [Oper.upon_value]
  go_wp2
  go_ret
  exact ⟨rfl, rfl⟩
set_option maxHeartbeats 1000000 in
set_option maxRecDepth 100000 in
theorem c_Compare (a b : ByteArray) (w : World) :
    Calls Tryz.prog 199 #[.string a, .string b] w fun e w' => e = .returned (.int .i64 (Lib.compareBytes a.data.toList b.data.toList)) ∧ w' = w := by
  go_enter Tryz.func199, Tryz.ntmps199
  go_wp2_with (go_at_call 226; refine (c_CompareString _ _ _).mono ?_; rintro e w' ⟨rfl, rfl⟩)
  go_ret
  exact ⟨rfl, rfl⟩

theorem w_Compare (a b : List UInt8) : Pure Tryz.prog 199 [.str a, .str b] (fun x => x = .int .i64 (Lib.compareBytes a b)) := by
  refine pure_of_calls ⟨_, Tryz.func199, rfl, rfl⟩ rfl fun w β H vals hv hr => ?_
  obtain ⟨v0, v1, rfl⟩ : ∃ v0 v1, vals = #[v0, v1] := by
    obtain ⟨l⟩ := vals
    match l, hv with
    | [v0, v1], _ => exact ⟨v0, v1, rfl⟩
  obtain ⟨rfl, _⟩ := rep_str (m := []) (hr 0 _ v0 rfl rfl)
  obtain ⟨rfl, _⟩ := rep_str (m := []) (hr 1 _ v1 rfl rfl)
  refine (c_Compare ⟨a.toArray⟩ ⟨b.toArray⟩ w).mono ?_
  rintro e w' ⟨rfl, rfl⟩
  exact ⟨Below.refl _ _, .int .i64 (Lib.compareBytes a b), _, rfl, rfl, rfl, .int _ _⟩
end Bow
/- W35: the program's search for an attribute. -/
namespace Bow
open Go Go.Proofs

theorem w_cmpAttr (a : List UInt8 × List UInt8) (k : List UInt8) : Pure Tryz.prog 198 [attrV a, .str k] (fun x => x = .int .i64 (Lib.compareBytes a.1 k)) := by
  refine pure_fn 300 Tryz.func198 rfl rfl rfl fun B => ?_
  show CallThen _ _ _ _ _ _
  refine call_pure (w_Compare a.1 k) rfl ?_
  rintro x rfl
  exact ⟨trivial, rfl, rfl, rfl, rfl⟩

theorem half_eq (i j : Nat) (h : i + j ≤ 2000000) : IntKind.i64.wrap (IntKind.u64.wrap ((i : Int) + j) / 2 ^ min (1 : Int).toNat IntKind.u64.bits) = (((i + j) / 2 : Nat) : Int) := by
  have e : IntKind.u64.wrap ((i : Int) + j) = ((i + j : Nat) : Int) := by
    unfold IntKind.wrap
    simp [IntKind.signed, IntKind.bits]
    omega
  rw [e]
  unfold IntKind.wrap
  simp [IntKind.signed, IntKind.bits]
  omega

set_option maxRecDepth 100000 in
theorem w_search (l : AttrL) (k : List UInt8) (k0 : Option (List UInt8)) (hl : l.length ≤ 1000000) (hs : attrsOk k0 l = true) : Pure Tryz.prog 197 [.sl 2 (l.map attrV), .str k, .fn (.func 198) [] []] (fun x => x = .tup [.int .i64 (posK k l), .bool (hasK k l)]) := by
  have hpl := pos_le k l
  refine pure_wk (pure_fn 300 Tryz.func197 rfl rfl rfl fun B => ?_)
  show Goes _ _ _ _
  refine goes_while (ι := Nat × Nat) (κ := Unit) (fun i => i.1 ≤ posK k l ∧ posK k l ≤ i.2 ∧ i.2 ≤ l.length) (fun i => i.2 - i.1)
    (fun i => [(9, .int .i64 i.1), (10, .int .i64 i.2), (8, .int .i64 (l.map attrV).length), (0, .sl 2 (l.map attrV)), (1, .str k), (2, .fn (.func 198) [] [])]) (fun _ => []) (0, (l.map attrV).length) (fun _ => True)
    (fun _ => [(9, .int .i64 (posK k l)), (8, .int .i64 (l.map attrV).length), (0, .sl 2 (l.map attrV)), (1, .str k), (2, .fn (.func 198) [] [])]) (fun _ => []) 300 (fun _ => rfl) (fun _ => rfl) (fun _ => rfl) (fun _ => rfl) ⟨⟨Nat.zero_le _, by simpa using hpl, by simp⟩, ?_, trivial⟩ ?_ ?_
  · exact ⟨⟨rfl, rfl⟩, ⟨rfl, rfl⟩, ⟨rfl, rfl⟩, ⟨rfl, rfl⟩, ⟨rfl, rfl⟩, ⟨rfl, rfl⟩, trivial⟩
  · rintro ⟨⟩ _
    refine ⟨fun q1 => go 300 ?_, fun q1 => go 300 ?_⟩
    · have hp : posK k l < l.length := by have := lt_of q1; simp at this; omega
      have hx : (l.map attrV)[posK k l]? = some (attrV l[posK k l]) := by simp [hp]
      refine ⟨Int.natCast_nonneg _, _, hx, ?_⟩
      show CallThen _ _ _ _ _ _
      refine call_pure (w_cmpAttr l[posK k l] k) rfl ?_
      rintro x rfl
      refine ⟨trivial, rfl, rfl, rfl, _, Wk.refl _, rfl, ?_⟩
      have hgd : l.getD (posK k l) ([], []) = l[posK k l] := by simp [List.getD_eq_getElem?_getD, hp]
      have e : hasK k l = decide (Lib.compareBytes l[posK k l].1 k = 0) := by
        unfold hasK
        rw [decide_eq_true hp, Bool.true_and, hgd]
        exact decide_eq_decide.2 (cmp_zero _ _).symm
      rw [e]
    · have hp : ¬ posK k l < l.length := by have := not_lt_of q1; simp at this; omega
      refine ⟨trivial, rfl, rfl, rfl, .tup [.int .i64 (posK k l), .bool false], Wk.tup ⟨.refl _, Wk.ff, trivial⟩, rfl, ?_⟩
      have e : hasK k l = false := by unfold hasK; rw [decide_eq_false hp]; rfl
      rw [e]
  · rintro ⟨i, j⟩ ⟨k1, k2, k3⟩ next post
    simp only at k1 k2 k3
    refine ⟨fun hlt => go 300 ?_, fun hge => go 300 ?_⟩
    · have hij : i < j := by have := lt_of hlt; omega
      refine ⟨by constructor <;> simp only <;> omega, ?_⟩
      show Goes _ _ _ _
      refine goes_shr 2 rfl rfl rfl rfl rfl (by decide) ?_
      show Goes _ _ _ _
      refine goes_wkSlot 11 (v' := .int .i64 (((i + j) / 2 : Nat) : Int)) rfl rfl rfl (Wk.of_eq (congrArg (V.int .i64) (half_eq i j (by omega)))) ?_
      refine go 300 ?_
      obtain ⟨m, hm⟩ : ∃ m, (i + j) / 2 = m := ⟨_, rfl⟩
      have hml : m < l.length := by omega
      have hx : (l.map attrV)[m]? = some (attrV l[m]) := by simp [hml]
      rw [hm]
      refine ⟨Int.natCast_nonneg _, _, hx, ?_⟩
      show CallThen _ _ _ _ _ _
      refine call_pure (w_cmpAttr l[m] k) rfl ?_
      rintro x rfl
      have hpi := pos_iff k hs m hml
      refine ⟨fun q2 => go 300 ?_, fun q2 => go 300 ?_⟩
      · have q2 := hpi.1 ((cmp_less _ _).1 (lt_of q2))
        refine ⟨by constructor <;> omega, ?_⟩
        show Goes _ _ _ _
        refine next (m + 1, j) _ _ ⟨⟨q2, k2, k3⟩, by simp only; omega, ⟨⟨rfl, rfl⟩, ⟨rfl, rfl⟩, ⟨rfl, rfl⟩, ⟨rfl, rfl⟩, ⟨rfl, rfl⟩, ⟨rfl, rfl⟩, trivial⟩, trivial⟩
      · have q2 : ¬ m < posK k l := fun h => by
          have := (cmp_less _ _).2 (hpi.2 h)
          have := not_lt_of q2
          omega
        show Goes _ _ _ _
        refine next (i, m) _ _ ⟨⟨k1, by simp only; omega, by simp only; omega⟩, by simp only; omega, ⟨⟨rfl, rfl⟩, ⟨rfl, rfl⟩, ⟨rfl, rfl⟩, ⟨rfl, rfl⟩, ⟨rfl, rfl⟩, ⟨rfl, rfl⟩, trivial⟩, trivial⟩
    · have hij : i = posK k l := by have := not_lt_of hge; omega
      subst hij
      exact post () _ _ _ rfl ⟨trivial, ⟨⟨rfl, rfl⟩, ⟨rfl, rfl⟩, ⟨rfl, rfl⟩, ⟨rfl, rfl⟩, ⟨rfl, rfl⟩, trivial⟩, trivial⟩
end Bow
/- W36: the program's setAttr. -/
namespace Bow
open Go Go.Proofs

set_option maxHeartbeats 1000000 in
set_option maxRecDepth 100000 in
theorem w_setAttr (o : OpT) (y : Tree) (k0 : Option (List UInt8)) (hs : attrsOk k0 y.attrs = true) (hl : y.attrs.length ≤ 900000) : Fun Tryz.prog 154 [some (.box (nodeV y).cells)] [.ptr (.loc 0) 0, opV o] (fun _ T => T = [some (.box (nodeV (setAT o y)).cells)]) := by
  refine fun_keep 1 rfl (fun_fn 300 Tryz.func154 rfl rfl rfl fun imps B hi => ?_)
  obtain ⟨r, rfl⟩ := List.length_eq_one_iff.1 hi
  have hpl := pos_le o.key y.attrs
  have hpl' : ((posK o.key y.attrs : Nat) : Int) ≤ (y.attrs.map attrV).length := by simp; omega
  have hsr := w_search y.attrs o.key k0 (by omega) hs
  show Goes _ _ _ _
  refine goes_draw 300 ⟨_, hsr, rfl, ?_⟩
  refine ⟨by kernel_rfl, ?_⟩
  refine ⟨fun q1 => go 300 ?_, fun q1 => go 300 ?_⟩
  · have q1 : hasK o.key y.attrs = true := by simpa using q1
    have hp : posK o.key y.attrs < y.attrs.length := by
      unfold hasK at q1
      simp only [Bool.and_eq_true, decide_eq_true_eq] at q1
      exact q1.1
    have hpl'' : ((posK o.key y.attrs : Nat) : Int) + 1 ≤ (y.attrs.map attrV).length := by simp; omega
    have hp0 : (0 : Int) ≤ ((posK o.key y.attrs : Nat) : Int) + 1 := by omega
    refine ⟨by constructor <;> omega, ?_⟩
    refine ⟨fun q2 => go 300 ?_, fun q2 => go 300 ?_⟩
    · have q2 : o.gone = false := by simpa using q2
      refine ⟨⟨rfl, trivial⟩, ?_⟩
      show Goes _ _ _ _
      have hc := w_ConcatAttr [(((y.attrs.map attrV).drop (Int.toNat 0)).take (((posK o.key y.attrs : Nat) : Int).toNat - Int.toNat 0)), [attrV (o.key, o.value)], (((y.attrs.map attrV).drop (((posK o.key y.attrs : Nat) : Int) + 1).toNat).take (((y.attrs.map attrV).length : Int).toNat - (((posK o.key y.attrs : Nat) : Int) + 1).toNat))] (by simp; omega) (by simp)
      refine goes_draw 300 ⟨by decide, Int.natCast_nonneg _, hpl', hp0, hpl'', Int.le_refl _, ?_⟩
      refine ⟨by kernel_rfl, rfl, rfl, ⟨rfl, rfl, rfl, trivial⟩, rfl, rfl, rfl, _, hc, rfl, ?_⟩
      refine ⟨by kernel_rfl, ?_⟩
      refine ⟨trivial, rfl, rfl, [some (.box [.int .u64 y.id, .bool y.leaf, .str y.label, .sl 2 [(((y.attrs.map attrV).drop (Int.toNat 0)).take (((posK o.key y.attrs : Nat) : Int).toNat - Int.toNat 0)), [attrV (o.key, o.value)], (((y.attrs.map attrV).drop (((posK o.key y.attrs : Nat) : Int) + 1).toNat).take (((y.attrs.map attrV).length : Int).toNat - (((posK o.key y.attrs : Nat) : Int) + 1).toNat))].flatten, .str y.text, .sl 6 y.subV])], rfl, rfl, ⟨⟨rfl, rfl⟩, trivial⟩, ?_⟩
      have e : [(((y.attrs.map attrV).drop (Int.toNat 0)).take (((posK o.key y.attrs : Nat) : Int).toNat - Int.toNat 0)), [attrV (o.key, o.value)], (((y.attrs.map attrV).drop (((posK o.key y.attrs : Nat) : Int) + 1).toNat).take (((y.attrs.map attrV).length : Int).toNat - (((posK o.key y.attrs : Nat) : Int) + 1).toNat))].flatten = (setA o y.attrs).map attrV := by
        unfold setA midA
        rw [q1, q2]
        rw [List.take_of_length_le (l := List.drop (((posK o.key y.attrs : Nat) : Int) + 1).toNat (y.attrs.map attrV)) (by simp)]
        have e1 : (((posK o.key y.attrs : Nat) : Int) + 1).toNat = posK o.key y.attrs + 1 := by omega
        rw [e1]
        simp [List.map_take, List.map_drop]
      rw [e, setAT, withAttrs_V]
      rfl
    · have q2 : o.gone = true := by simpa using q2
      show Goes _ _ _ _
      have hc := w_ConcatAttr [(((y.attrs.map attrV).drop (Int.toNat 0)).take (((posK o.key y.attrs : Nat) : Int).toNat - Int.toNat 0)), [], (((y.attrs.map attrV).drop (((posK o.key y.attrs : Nat) : Int) + 1).toNat).take (((y.attrs.map attrV).length : Int).toNat - (((posK o.key y.attrs : Nat) : Int) + 1).toNat))] (by simp; omega) (by simp)
      have hc := pure_args (args' := [.sl 1 ([(((y.attrs.map attrV).drop (Int.toNat 0)).take (((posK o.key y.attrs : Nat) : Int).toNat - Int.toNat 0)), [], (((y.attrs.map attrV).drop (((posK o.key y.attrs : Nat) : Int) + 1).toNat).take (((y.attrs.map attrV).length : Int).toNat - (((posK o.key y.attrs : Nat) : Int) + 1).toNat))].map (V.sl 2))]) (args := [.sl 1 [.sl 2 (((y.attrs.map attrV).drop (Int.toNat 0)).take (((posK o.key y.attrs : Nat) : Int).toNat - Int.toNat 0)), .nilsl, .sl 2 (((y.attrs.map attrV).drop (((posK o.key y.attrs : Nat) : Int) + 1).toNat).take (((y.attrs.map attrV).length : Int).toNat - (((posK o.key y.attrs : Nat) : Int) + 1).toNat))]]) hc ⟨Wk.sl ⟨⟨⟨.refl _, trivial⟩, ⟨rfl, rfl⟩⟩, ⟨⟨Wk.nil 2, trivial⟩, ⟨rfl, rfl⟩⟩, ⟨⟨.refl _, trivial⟩, ⟨rfl, rfl⟩⟩, trivial⟩, trivial⟩ rfl rfl
      refine goes_draw 300 ⟨by decide, Int.natCast_nonneg _, hpl', hp0, hpl'', Int.le_refl _, ?_⟩
      refine ⟨by kernel_rfl, ⟨rfl, rfl, rfl, trivial⟩, rfl, rfl, rfl, _, hc, rfl, ?_⟩
      refine ⟨by kernel_rfl, ?_⟩
      refine ⟨trivial, rfl, rfl, [some (.box [.int .u64 y.id, .bool y.leaf, .str y.label, .sl 2 [(((y.attrs.map attrV).drop (Int.toNat 0)).take (((posK o.key y.attrs : Nat) : Int).toNat - Int.toNat 0)), [], (((y.attrs.map attrV).drop (((posK o.key y.attrs : Nat) : Int) + 1).toNat).take (((y.attrs.map attrV).length : Int).toNat - (((posK o.key y.attrs : Nat) : Int) + 1).toNat))].flatten, .str y.text, .sl 6 y.subV])], rfl, rfl, ⟨⟨rfl, rfl⟩, trivial⟩, ?_⟩
      have e : [(((y.attrs.map attrV).drop (Int.toNat 0)).take (((posK o.key y.attrs : Nat) : Int).toNat - Int.toNat 0)), [], (((y.attrs.map attrV).drop (((posK o.key y.attrs : Nat) : Int) + 1).toNat).take (((y.attrs.map attrV).length : Int).toNat - (((posK o.key y.attrs : Nat) : Int) + 1).toNat))].flatten = (setA o y.attrs).map attrV := by
        unfold setA midA
        rw [q1, q2]
        rw [List.take_of_length_le (l := List.drop (((posK o.key y.attrs : Nat) : Int) + 1).toNat (y.attrs.map attrV)) (by simp)]
        have e1 : (((posK o.key y.attrs : Nat) : Int) + 1).toNat = posK o.key y.attrs + 1 := by omega
        rw [e1]
        simp [List.map_take, List.map_drop]
      rw [e, setAT, withAttrs_V]
      rfl
  · have q1 : hasK o.key y.attrs = false := by simpa using q1
    have hpl'' := hpl'
    have hp0 : (0 : Int) ≤ ((posK o.key y.attrs : Nat) : Int) := Int.natCast_nonneg _
    refine ⟨fun q2 => go 300 ?_, fun q2 => go 300 ?_⟩
    · have q2 : o.gone = false := by simpa using q2
      refine ⟨⟨rfl, trivial⟩, ?_⟩
      show Goes _ _ _ _
      have hc := w_ConcatAttr [(((y.attrs.map attrV).drop (Int.toNat 0)).take (((posK o.key y.attrs : Nat) : Int).toNat - Int.toNat 0)), [attrV (o.key, o.value)], (((y.attrs.map attrV).drop ((posK o.key y.attrs : Nat) : Int).toNat).take (((y.attrs.map attrV).length : Int).toNat - ((posK o.key y.attrs : Nat) : Int).toNat))] (by simp; omega) (by simp)
      refine goes_draw 300 ⟨by decide, Int.natCast_nonneg _, hpl', hp0, hpl'', Int.le_refl _, ?_⟩
      refine ⟨by kernel_rfl, rfl, rfl, ⟨rfl, rfl, rfl, trivial⟩, rfl, rfl, rfl, _, hc, rfl, ?_⟩
      refine ⟨by kernel_rfl, ?_⟩
      refine ⟨trivial, rfl, rfl, [some (.box [.int .u64 y.id, .bool y.leaf, .str y.label, .sl 2 [(((y.attrs.map attrV).drop (Int.toNat 0)).take (((posK o.key y.attrs : Nat) : Int).toNat - Int.toNat 0)), [attrV (o.key, o.value)], (((y.attrs.map attrV).drop ((posK o.key y.attrs : Nat) : Int).toNat).take (((y.attrs.map attrV).length : Int).toNat - ((posK o.key y.attrs : Nat) : Int).toNat))].flatten, .str y.text, .sl 6 y.subV])], rfl, rfl, ⟨⟨rfl, rfl⟩, trivial⟩, ?_⟩
      have e : [(((y.attrs.map attrV).drop (Int.toNat 0)).take (((posK o.key y.attrs : Nat) : Int).toNat - Int.toNat 0)), [attrV (o.key, o.value)], (((y.attrs.map attrV).drop ((posK o.key y.attrs : Nat) : Int).toNat).take (((y.attrs.map attrV).length : Int).toNat - ((posK o.key y.attrs : Nat) : Int).toNat))].flatten = (setA o y.attrs).map attrV := by
        unfold setA midA
        rw [q1, q2]
        rw [List.take_of_length_le (l := List.drop ((posK o.key y.attrs : Nat) : Int).toNat (y.attrs.map attrV)) (by simp)]
        simp [List.map_take, List.map_drop]
      rw [e, setAT, withAttrs_V]
      rfl
    · have q2 : o.gone = true := by simpa using q2
      show Goes _ _ _ _
      have hc := w_ConcatAttr [(((y.attrs.map attrV).drop (Int.toNat 0)).take (((posK o.key y.attrs : Nat) : Int).toNat - Int.toNat 0)), [], (((y.attrs.map attrV).drop ((posK o.key y.attrs : Nat) : Int).toNat).take (((y.attrs.map attrV).length : Int).toNat - ((posK o.key y.attrs : Nat) : Int).toNat))] (by simp; omega) (by simp)
      have hc := pure_args (args' := [.sl 1 ([(((y.attrs.map attrV).drop (Int.toNat 0)).take (((posK o.key y.attrs : Nat) : Int).toNat - Int.toNat 0)), [], (((y.attrs.map attrV).drop ((posK o.key y.attrs : Nat) : Int).toNat).take (((y.attrs.map attrV).length : Int).toNat - ((posK o.key y.attrs : Nat) : Int).toNat))].map (V.sl 2))]) (args := [.sl 1 [.sl 2 (((y.attrs.map attrV).drop (Int.toNat 0)).take (((posK o.key y.attrs : Nat) : Int).toNat - Int.toNat 0)), .nilsl, .sl 2 (((y.attrs.map attrV).drop ((posK o.key y.attrs : Nat) : Int).toNat).take (((y.attrs.map attrV).length : Int).toNat - ((posK o.key y.attrs : Nat) : Int).toNat))]]) hc ⟨Wk.sl ⟨⟨⟨.refl _, trivial⟩, ⟨rfl, rfl⟩⟩, ⟨⟨Wk.nil 2, trivial⟩, ⟨rfl, rfl⟩⟩, ⟨⟨.refl _, trivial⟩, ⟨rfl, rfl⟩⟩, trivial⟩, trivial⟩ rfl rfl
      refine goes_draw 300 ⟨by decide, Int.natCast_nonneg _, hpl', hp0, hpl'', Int.le_refl _, ?_⟩
      refine ⟨by kernel_rfl, ⟨rfl, rfl, rfl, trivial⟩, rfl, rfl, rfl, _, hc, rfl, ?_⟩
      refine ⟨by kernel_rfl, ?_⟩
      refine ⟨trivial, rfl, rfl, [some (.box [.int .u64 y.id, .bool y.leaf, .str y.label, .sl 2 [(((y.attrs.map attrV).drop (Int.toNat 0)).take (((posK o.key y.attrs : Nat) : Int).toNat - Int.toNat 0)), [], (((y.attrs.map attrV).drop ((posK o.key y.attrs : Nat) : Int).toNat).take (((y.attrs.map attrV).length : Int).toNat - ((posK o.key y.attrs : Nat) : Int).toNat))].flatten, .str y.text, .sl 6 y.subV])], rfl, rfl, ⟨⟨rfl, rfl⟩, trivial⟩, ?_⟩
      have e : [(((y.attrs.map attrV).drop (Int.toNat 0)).take (((posK o.key y.attrs : Nat) : Int).toNat - Int.toNat 0)), [], (((y.attrs.map attrV).drop ((posK o.key y.attrs : Nat) : Int).toNat).take (((y.attrs.map attrV).length : Int).toNat - ((posK o.key y.attrs : Nat) : Int).toNat))].flatten = (setA o y.attrs).map attrV := by
        unfold setA midA
        rw [q1, q2]
        rw [List.take_of_length_le (l := List.drop ((posK o.key y.attrs : Nat) : Int).toNat (y.attrs.map attrV)) (by simp)]
        simp
      rw [e, setAT, withAttrs_V]
      rfl
end Bow
/- W37: the program's apply, Apply. -/
namespace Bow
open Go Go.Proofs

theorem w_apply1 (o : OpT) (y : Tree) (k0 : Option (List UInt8)) (hs : attrsOk k0 y.attrs = true) (hl : y.attrs.length ≤ 900000) : Fun Tryz.prog 153 [some (.box (nodeV y).cells)] [.ptr (.loc 0) 0, .iptr (opV o).cells 0] (fun _ T => T = [some (.box (nodeV (setAT o y)).cells)]) := by
  refine fun_fn 100 Tryz.func153 rfl rfl rfl fun imps B hi => ?_
  obtain ⟨r, rfl⟩ := List.length_eq_one_iff.1 hi
  show CallThen _ _ _ _ _ _
  refine call_sub [0] (w_setAttr o y k0 hs hl) rfl rfl ⟨⟨rfl, rfl⟩, trivial⟩ rfl rfl rfl ?_
  rintro x T1 rfl
  refine ⟨rfl, ?_⟩
  exact ⟨trivial, rfl, rfl, rfl⟩

set_option maxRecDepth 100000 in
theorem w_apply_att (t y : Tree) (o : OpT) (ht : t.weight ≤ 900000) (ho : o.Ok) (hk : o.kind = 4) (hy : atT t o.path = some y) (hs : attrsOk none y.attrs = true) : Pure Tryz.prog 106 [nodeV t, opV o] (fun x => x = nodeV (changeT (setAT o) t o.path)) := by
  have hp := ho.lt.path
  have hyw := atT_weight hy
  have hya := attrs_le_weight y
  refine pure_fn 300 Tryz.func106 rfl rfl rfl fun B => ?_
  refine ⟨fun g1 => absurd (hk.symm.trans (eq_of g1)) (by decide), fun g1 => go 300 ?_⟩
  refine ⟨fun g1 => absurd (hk.symm.trans (eq_of g1)) (by decide), fun g1 => go 300 ?_⟩
  refine ⟨fun g1 => absurd (hk.symm.trans (eq_of g1)) (by decide), fun g1 => go 300 ?_⟩
  refine ⟨fun g1 => go 300 ?_, fun g1 => absurd hk (ne_of g1)⟩
  show CallThen _ _ _ _ _ _
  refine call_freeze 1 rfl rfl ?_
  refine call_pure (w_change1 153 (opV o).cells (setAT o) y (w_apply1 o y none hs (by omega)) o.path t hp (by omega) hy) rfl ?_
  rintro z rfl
  exact ⟨trivial, rfl, rfl, rfl, rfl⟩

theorem w_applyT (t : Tree) (o : OpT) (ht : t.weight ≤ 900000) (ho : o.Ok) (h : ValidE t o = 0) : Pure Tryz.prog 106 [nodeV t, opV o] (fun x => x = nodeV (applyT t o)) := by
  obtain ⟨hr, hf, _⟩ := valid_right h
  have hra : t.rightA = true := by
    unfold rightT at hr
    rw [Bool.and_eq_true] at hr
    exact hr.2
  have hto : o.kind = 3 → ∀ x ∈ o.to, inI x := fun hk x hx => by
    have := may_step (good_to hf hk) x hx
    constructor <;> omega
  cases good_of h with
  | ins y hk hy hl h0 h1 h2 =>
    have e : applyT t o = changeT (insT o.at_ (freshT o)) t o.path := by unfold applyT; rw [hk]; rfl
    rw [e]
    exact w_apply_k t o _ ht ho (fun h => absurd (hk.symm.trans h) (by decide)) (.ins y hk hy h0 h1)
  | del x hk hne hx =>
    have e : applyT t o = changeT (delT (lastP o.path)) t o.path.dropLast := by unfold applyT; rw [hk]; rfl
    rw [e]
    exact w_apply_k t o _ ht ho (fun h => absurd (hk.symm.trans h) (by decide)) (.del x hk hne hx)
  | mov x z hk hne hx hw hz hl h0 h1 =>
    have e : applyT t o = moveT x t o := by unfold applyT; rw [hk, hx]; rfl
    rw [e]
    exact w_apply_k t o _ ht ho (fun _ => hto hk) (.mov x z hk hne hx hw hz h0 h1)
  | att y hk hy h1 h2 =>
    have e : applyT t o = changeT (setAT o) t o.path := by unfold applyT; rw [hk]; rfl
    rw [e]
    exact w_apply_att t y o ht ho hk hy (right_attrs (right_at hra hy))
  | lab y hk hy h2 =>
    have e : applyT t o = changeT (relabelT o.label) t o.path := by unfold applyT; rw [hk]; rfl
    rw [e]
    exact w_apply_k t o _ ht ho (fun h => absurd (hk.symm.trans h) (by decide)) (.lab y hk hy)
  | edt y hk hy hl he =>
    have e : applyT t o = changeT (retextT o.pieces) t o.path := by unfold applyT; rw [hk]; rfl
    rw [e]
    exact w_apply_k t o _ ht ho (fun h => absurd (hk.symm.trans h) (by decide)) (.edt y hk hy)

theorem w_Apply (t : Tree) (o : OpT) (ht : t.weight ≤ 900000) (ho : o.Ok) : Pure Tryz.prog 51 [nodeV t, opV o] (fun x => x = ApplyV (applyR t o)) := by
  by_cases h : ValidE t o = 0
  · have e : applyR t o = (applyT t o, 0) := by unfold applyR; rw [decide_eq_true h]; rfl
    rw [e]
    exact w_Apply_ok t o _ (by omega) ho h (w_applyT t o ht ho h)
  · have e : applyR t o = (zeroT [], ValidE t o) := by unfold applyR; rw [decide_eq_false h]; rfl
    rw [e]
    exact w_Apply_bad t o (by omega) ho h
end Bow
/- W38: the reference's Apply. -/
namespace Bow
open Go Go.Proofs

set_option maxRecDepth 100000 in
theorem w_refApply_bad (t : Tree) (o : OpT) (ht : t.weight ≤ 1000000) (ho : o.Ok) (h : ValidE t o ≠ 0) : Pure Tryz.prog 26 [nodeV t, opV o] (fun x => x = ApplyV (zeroT [], ValidE t o)) := by
  refine pure_wk (pure_fn 300 Tryz.func26 rfl rfl rfl fun B => ?_)
  show CallThen _ _ _ _ _ _
  refine call_pure (w_refValid t o ht ho) rfl ?_
  rintro x rfl
  refine ⟨fun g1 => go 300 ?_, fun g1 => absurd (eq_of' g1) h⟩
  exact ⟨trivial, rfl, rfl, rfl, ApplyV (zeroT [], ValidE t o), Wk.tup ⟨wk_zero (ss := []) (Wk.nil 6), .refl _, trivial⟩, rfl, rfl⟩

set_option maxHeartbeats 1000000 in
set_option maxRecDepth 100000 in
theorem w_refApply_ok (t : Tree) (o : OpT) (ht : t.weight ≤ 400000) (ho : o.Ok) (h : ValidE t o = 0) : Pure Tryz.prog 26 [nodeV t, opV o] (fun x => x = ApplyV (applyT t o, 0)) := by
  obtain ⟨hr, hf, _⟩ := valid_right h
  have hra : t.rightA = true := by
    unfold rightT at hr
    rw [Bool.and_eq_true] at hr
    exact hr.2
  have hp := ho.lt.path
  have hpi := may_step (formed_path hf)
  refine pure_fn 300 Tryz.func26 rfl rfl rfl fun B => ?_
  show CallThen _ _ _ _ _ _
  refine call_pure (w_refValid t o (by omega) ho) rfl ?_
  rintro x rfl
  refine ⟨fun g1 => absurd h (ne_of' g1), fun g1 => go 300 ?_⟩
  show CallThen _ _ _ _ _ _
  refine call_pure (w_refAt t o.path hp) rfl ?_
  rintro _ rfl
  cases good_of h with
  | ins y hk hy hl h0 h1 h2 =>
    have e : applyT t o = changeT (insT o.at_ (freshT o)) t o.path := by unfold applyT; rw [hk]; rfl
    have hyw := atT_weight hy
    rw [hy]
    refine ⟨fun g1 => go 300 ?_, fun g1 => absurd hk (ne_of g1)⟩
    show Goes _ _ _ _
    have hput := pure_args (args := [nodeV y, .int .i64 o.at_, .agg [.int .u64 o.id, .bool o.leaf, .str o.label, .nilsl, .str [], .nilsl]]) (w_refputs y (freshT o) o.at_ (by omega) h0 h1) ⟨.refl _, .refl _, wk_fresh o, trivial⟩ rfl rfl
    refine goes_draw 300 ⟨_, hput, rfl, _, w_refchange t (insT o.at_ (freshT o) y) y o.path hp (by omega) hy, rfl, ?_⟩
    refine ⟨by kernel_rfl, ?_⟩
    refine ⟨trivial, rfl, rfl, rfl, ?_⟩
    rw [change_const (F := insT o.at_ (freshT o)) hy, e]
    rfl
  | del x hk hne hx =>
    have e : applyT t o = withoutT t o.path := by unfold applyT; rw [hk]; rfl
    rw [hx]
    refine ⟨fun g1 => absurd (hk.symm.trans (eq_of g1)) (by decide), fun g1 => go 300 ?_⟩
    refine ⟨fun g1 => go 300 ?_, fun g1 => absurd hk (ne_of g1)⟩
    show CallThen _ _ _ _ _ _
    refine call_pure (w_refWithout t x o.path hp hne (by omega) hx) rfl ?_
    rintro z rfl
    exact ⟨trivial, rfl, rfl, rfl, by rw [e]; rfl⟩
  | mov x z hk hne hx hw hz hl h0 h1 =>
    have e : applyT t o = moveT x t o := by unfold applyT; rw [hk, hx]; rfl
    rw [hx]
    refine ⟨fun g1 => absurd (hk.symm.trans (eq_of g1)) (by decide), fun g1 => go 300 ?_⟩
    refine ⟨fun g1 => absurd (hk.symm.trans (eq_of g1)) (by decide), fun g1 => go 300 ?_⟩
    refine ⟨fun g1 => go 300 ?_, fun g1 => absurd hk (ne_of g1)⟩
    show CallThen _ _ _ _ _ _
    refine call_pure (w_refmove t x z o ht ho (fun i hi => by have := hpi i hi; constructor <;> omega) hne hx hw hz h0 h1) rfl ?_
    rintro r rfl
    exact ⟨trivial, rfl, rfl, rfl, by rw [e]; rfl⟩
  | att y hk hy h1 h2 =>
    have e : applyT t o = changeT (setAT o) t o.path := by unfold applyT; rw [hk]; rfl
    have hyw := atT_weight hy
    have ea : y.withAttrs (refA o o.gone y.attrs) = setAT o y := by rw [attr_law o (right_attrs (right_at hra hy))]; rfl
    rw [hy]
    refine ⟨fun g1 => absurd (hk.symm.trans (eq_of g1)) (by decide), fun g1 => go 300 ?_⟩
    refine ⟨fun g1 => absurd (hk.symm.trans (eq_of g1)) (by decide), fun g1 => go 300 ?_⟩
    refine ⟨fun g1 => absurd (hk.symm.trans (eq_of g1)) (by decide), fun g1 => go 300 ?_⟩
    refine ⟨fun g1 => go 300 ?_, fun g1 => absurd hk (ne_of g1)⟩
    show Goes _ _ _ _
    have hat := w_refattr y o (by omega)
    rw [ea] at hat
    refine goes_draw 300 ⟨_, hat, rfl, _, w_refchange t (setAT o y) y o.path hp (by omega) hy, rfl, ?_⟩
    refine ⟨by kernel_rfl, ?_⟩
    refine ⟨trivial, rfl, rfl, rfl, ?_⟩
    rw [change_const (F := setAT o) hy, e]
    rfl
  | lab y hk hy h2 =>
    have e : applyT t o = changeT (relabelT o.label) t o.path := by unfold applyT; rw [hk]; rfl
    rw [hy]
    refine ⟨fun g1 => absurd (hk.symm.trans (eq_of g1)) (by decide), fun g1 => go 300 ?_⟩
    refine ⟨fun g1 => absurd (hk.symm.trans (eq_of g1)) (by decide), fun g1 => go 300 ?_⟩
    refine ⟨fun g1 => absurd (hk.symm.trans (eq_of g1)) (by decide), fun g1 => go 300 ?_⟩
    refine ⟨fun g1 => absurd (hk.symm.trans (eq_of g1)) (by decide), fun g1 => go 300 ?_⟩
    refine ⟨fun g1 => go 300 ?_, fun g1 => absurd hk (ne_of g1)⟩
    show CallThen _ _ _ _ _ _
    cases y with
    | mk i lf b a c ss =>
    refine call_pure (w_refchange t (relabelT o.label (.mk i lf b a c ss)) (.mk i lf b a c ss) o.path hp (by omega) hy) rfl ?_
    rintro r rfl
    refine ⟨trivial, rfl, rfl, rfl, ?_⟩
    rw [change_const (F := relabelT o.label) hy, e]
    rfl
  | edt y hk hy hl he =>
    have e : applyT t o = changeT (retextT o.pieces) t o.path := by unfold applyT; rw [hk]; rfl
    have hyw := atT_weight hy
    have htw := text_le_weight y
    rw [hy]
    refine ⟨fun g1 => absurd (hk.symm.trans (eq_of g1)) (by decide), fun g1 => go 300 ?_⟩
    refine ⟨fun g1 => absurd (hk.symm.trans (eq_of g1)) (by decide), fun g1 => go 300 ?_⟩
    refine ⟨fun g1 => absurd (hk.symm.trans (eq_of g1)) (by decide), fun g1 => go 300 ?_⟩
    refine ⟨fun g1 => absurd (hk.symm.trans (eq_of g1)) (by decide), fun g1 => go 300 ?_⟩
    refine ⟨fun g1 => absurd (hk.symm.trans (eq_of g1)) (by decide), fun g1 => go 300 ?_⟩
    show CallThen _ _ _ _ _ _
    refine call_pure (w_refEdit y.text o.pieces (by omega) ho.lt.pieces ho.each) rfl ?_
    rintro r rfl
    show CallThen _ _ _ _ _ _
    cases y with
    | mk i lf b a c ss =>
    refine call_pure (w_refchange t (retextT o.pieces (.mk i lf b a c ss)) (.mk i lf b a c ss) o.path hp (by omega) hy) rfl ?_
    rintro r rfl
    refine ⟨trivial, rfl, rfl, rfl, ?_⟩
    rw [change_const (F := retextT o.pieces) hy, e]
    rfl

theorem w_refApply (t : Tree) (o : OpT) (ht : t.weight ≤ 400000) (ho : o.Ok) : Pure Tryz.prog 26 [nodeV t, opV o] (fun x => x = ApplyV (applyR t o)) := by
  by_cases h : ValidE t o = 0
  · have e : applyR t o = (applyT t o, 0) := by unfold applyR; rw [decide_eq_true h]; rfl
    rw [e]
    exact w_refApply_ok t o ht ho h
  · have e : applyR t o = (zeroT [], ValidE t o) := by unfold applyR; rw [decide_eq_false h]; rfl
    rw [e]
    exact w_refApply_bad t o (by omega) ho h
end Bow
/- SP16: the identities of a tree, counted, in plain Lean. -/
namespace Bow
open Go

mutual
def idsT : Tree → List Int
  | .mk i _ _ _ _ ss => i :: idsTs ss
def idsTs : List Tree → List Int
  | [] => []
  | s :: ss => idsT s ++ idsTs ss
end
theorem idsT_eq (t : Tree) : idsT t = t.id :: idsTs t.subs := by cases t; rw [idsT]; rfl
mutual
theorem idsT_len : ∀ t : Tree, (idsT t).length = t.size
  | .mk i l a b c ss => by rw [idsT, Tree.size, List.length_cons, idsTs_len ss]; omega
theorem idsTs_len : ∀ ss : List Tree, (idsTs ss).length = sizes ss
  | [] => rfl
  | s :: ss => by rw [idsTs, sizes, List.length_append, idsT_len s, idsTs_len ss]
end
section
variable {m : List Int → Nat}
end
end Bow
/- W39: the reference's Same, IDs. -/
namespace Bow
open Go Go.Proofs

theorem attrs_take {α : Type} {xs ys : List α} {i : Nat} (h1 : i < xs.length) (h2 : i < ys.length) : (xs.drop i = ys.drop i) = (xs[i] = ys[i] ∧ xs.drop (i + 1) = ys.drop (i + 1)) := by
  rw [List.drop_eq_getElem_cons h1, List.drop_eq_getElem_cons h2, List.cons.injEq]

set_option maxRecDepth 100000 in
theorem w_refSameAttrs (xs ys : AttrL) (hl : xs.length ≤ 1000000) : Pure Tryz.prog 98 [.sl 2 (xs.map attrV), .sl 2 (ys.map attrV)] (fun x => x = .bool (decide (xs = ys))) := by
  refine pure_wk (pure_fn 300 Tryz.func98 rfl rfl rfl fun B => ?_)
  refine ⟨fun g1 => go 300 ?_, fun g1 => go 300 ?_⟩
  · have g1 := ne_of' g1
    exact ⟨trivial, rfl, rfl, rfl, leaf_ff (decide_eq_false fun e => g1 (by rw [e]))⟩
  have g1 : xs.length = ys.length := by have := eq_of' g1; simp at this; omega
  show Goes _ _ _ _
  refine goes_iter (ι := Nat) (fun i => i ≤ xs.length ∧ (xs.drop i = ys.drop i ↔ xs = ys)) (fun i => xs.length - i) (fun i => [(5, .int .i64 i), (0, .sl 2 (xs.map attrV)), (1, .sl 2 (ys.map attrV))]) (fun _ => []) 0 300 (fun _ => rfl) (fun _ => rfl) ⟨⟨Nat.zero_le _, by simp⟩, ⟨⟨rfl, rfl⟩, ⟨rfl, rfl⟩, ⟨rfl, rfl⟩, trivial⟩, trivial⟩ ?_
  rintro i ⟨k1, k2⟩ next
  refine ⟨fun hlt => go 300 ?_, fun hge => go 300 ?_⟩
  · have hi : i < xs.length := by simpa using hlt
    have hi' : i < ys.length := by omega
    have hx : (xs.map attrV)[i]? = some (attrV xs[i]) := by simp [hi]
    have hy : (ys.map attrV)[i]? = some (attrV ys[i]) := by simp [hi']
    rw [attrs_take hi hi'] at k2
    show Goes _ _ _ _
    refine goes_draw 300 ⟨Int.natCast_nonneg i, _, hx, Int.natCast_nonneg i, _, hy, ?_⟩
    refine ⟨by kernel_rfl, ?_⟩
    refine ⟨by kernel_rfl, ?_⟩
    refine ⟨fun g2 => go 300 ?_, fun g2 => go 300 ?_⟩
    · refine ⟨trivial, rfl, rfl, rfl, leaf_ff (decide_eq_false fun e => ?_)⟩
      have := (k2.2 e).1
      rw [this] at g2
      simp at g2
    · refine ⟨by constructor <;> omega, ?_⟩
      have he : xs[i] = ys[i] := by
        simp at g2
        exact Prod.ext g2.1 g2.2
      exact next (i + 1) _ _ ⟨⟨hi, by rw [← k2]; exact ⟨fun h => ⟨he, h⟩, fun h => h.2⟩⟩, by omega, ⟨⟨rfl, rfl⟩, ⟨rfl, rfl⟩, ⟨rfl, rfl⟩, trivial⟩, trivial⟩
  · have hi : i = xs.length := by have : xs.length ≤ i := by simpa using hge
                                  omega
    subst hi
    refine ⟨trivial, rfl, rfl, rfl, leaf_tt (decide_eq_true (k2.1 ?_))⟩
    rw [List.drop_eq_nil_of_le (Nat.le_refl _), List.drop_eq_nil_of_le (by omega)]

set_option maxHeartbeats 1000000 in
set_option maxRecDepth 100000 in
theorem w_refSameT (t : Tree) : ∀ u : Tree, t.weight ≤ 1000000 → Pure Tryz.prog 40 [nodeV t, nodeV u] (fun x => x = .bool (sameT true t u)) := by
  induction t using Tree.ind with
  | _ t ih =>
  intro u ht
  have hsl := subs_le_weight t
  have hal := attrs_le_weight t
  have hA := w_refSameAttrs t.attrs u.attrs (by omega)
  have e := sameT_eq true t u
  refine pure_wk (pure_fn 300 Tryz.func40 rfl rfl rfl fun B => ?_)
  repeat' first
    | (refine ⟨fun _ => go 300 ?_, fun _ => go 300 ?_⟩)
    | (show CallThen _ _ _ _ _ _; refine call_pure hA rfl ?_; rintro z rfl)
    | (refine ⟨trivial, rfl, rfl, rfl, leaf_ff ?_⟩)
    | fail
  case h.refine_2.refine_2.refine_2.refine_2.refine_2.refine_2 g1 g2 g3 g4 g5 g6 =>
    have hlen : t.subs.length = u.subs.length := by have := eq_of' g6; rw [subV_len, subV_len] at this; omega
    have e' : sameT true t u = sameTs true t.subs u.subs := by
      rw [e]
      have g1 := eq_of' g1
      simp at g2 g3 g4 g5
      simp [g1, g2, g3, g4, g5]
    show Goes _ _ _ _
    refine goes_iter (ι := Nat) (fun i => i ≤ t.subs.length ∧ sameTs true (t.subs.drop i) (u.subs.drop i) = sameTs true t.subs u.subs) (fun i => t.subs.length - i) (fun i => [(5, .int .i64 i), (2, .ptr (.loc 0) 0), (3, .ptr (.loc 1) 0)]) (fun _ => [some (.box (nodeV t).cells), some (.box (nodeV u).cells)]) 0 300 (fun _ => rfl) (fun _ => rfl) ⟨⟨Nat.zero_le _, rfl⟩, ⟨⟨rfl, rfl⟩, ⟨rfl, rfl⟩, ⟨rfl, rfl⟩, trivial⟩, ⟨⟨rfl, rfl⟩, ⟨rfl, rfl⟩, trivial⟩⟩ ?_
    rintro i ⟨k1, k2⟩ next
    refine ⟨fun hlt => go 300 ?_, fun hge => go 300 ?_⟩
    · have hi : i < t.subs.length := by simpa [subV_eq] using hlt
      have hi' : i < u.subs.length := by omega
      have hx : t.subV[i]? = some (nodeV t.subs[i]) := by simp [subV_eq, hi]
      have hy : u.subV[i]? = some (nodeV u.subs[i]) := by simp [subV_eq, hi']
      have hws := weight_sub (List.getElem_mem hi)
      rw [sameTs_at hi hi'] at k2
      show Goes _ _ _ _
      refine goes_draw 300 ⟨Int.natCast_nonneg i, _, hx, Int.natCast_nonneg i, _, hy, _, ih _ (List.getElem_mem hi) u.subs[i] (by omega), rfl, ?_⟩
      refine ⟨by kernel_rfl, ?_⟩
      refine ⟨fun g => go 300 ?_, fun g => go 300 ?_⟩
      · have g : sameT true t.subs[i] u.subs[i] = false := by simpa using g
        exact ⟨trivial, rfl, rfl, rfl, leaf_ff (by rw [e', ← k2, g]; rfl)⟩
      · have g : sameT true t.subs[i] u.subs[i] = true := by simpa using g
        rw [g, Bool.true_and] at k2
        refine ⟨by constructor <;> omega, ?_⟩
        exact next (i + 1) _ _ ⟨⟨hi, k2⟩, by omega, ⟨⟨rfl, rfl⟩, ⟨rfl, rfl⟩, ⟨rfl, rfl⟩, trivial⟩, ⟨⟨rfl, rfl⟩, ⟨rfl, rfl⟩, trivial⟩⟩
    · have hi : t.subs.length ≤ i := by simpa [subV_eq] using hge
      rw [List.drop_eq_nil_of_le hi, List.drop_eq_nil_of_le (by omega), sameTs] at k2
      exact ⟨trivial, rfl, rfl, rfl, leaf_tt (by rw [e', ← k2])⟩
  case h.refine_2.refine_2.refine_2.refine_2.refine_2.refine_1 g1 g2 g3 g4 g5 g6 =>
    have g6 := ne_of' g6
    rw [subV_len, subV_len] at g6
    cases h : sameT true t u with
    | false => rfl
    | true =>
      rw [e] at h
      simp only [Bool.and_eq_true] at h
      exact absurd (congrArg Nat.cast (sameTs_len h.2.2.2.2.2)) g6
  all_goals (rw [e]; simp_all)

theorem idsTs_drop {ss : List Tree} {i : Nat} (h : i < ss.length) : idsTs (ss.drop i) = idsT ss[i] ++ idsTs (ss.drop (i + 1)) := by
  rw [List.drop_eq_getElem_cons h, idsTs]
def idV (i : Int) : V := .int .u64 i
def idsV (l : List Int) : V := .sl 1 (l.map idV)
set_option maxRecDepth 100000 in
theorem w_refIDs (t : Tree) : t.weight ≤ 1000000 → Pure Tryz.prog 36 [nodeV t] (fun x => x = idsV (idsT t)) := by
  induction t using Tree.ind with
  | _ t ih =>
  intro ht
  have hsl := subs_le_weight t
  have hsz := size_le_weight t
  have hil := idsT_len t
  refine pure_fn 300 Tryz.func36 rfl rfl rfl fun B => ?_
  refine ⟨⟨rfl, trivial⟩, ?_⟩
  show Goes _ _ _ _
  refine goes_iter (ι := Nat × Nat × Nat × List V) (fun i => i.1 ≤ t.subs.length ∧ ∃ acc : List Int, i.2.2.2 = acc.map idV ∧ i.2.2.1 = acc.length ∧ acc ++ idsTs (t.subs.drop i.1) = idsT t) (fun i => t.subs.length - i.1)
    (fun i => [(4, .int .i64 i.1), (3, .osl (.loc 1) i.2.1 0 i.2.2.1), (1, .ptr (.loc 0) 0)]) (fun i => [some (.box (nodeV t).cells), some (.vec i.2.1 1 i.2.2.2)]) (0, 0, 1, [idV t.id]) 300 (fun _ => rfl) (fun _ => rfl) ⟨⟨Nat.zero_le _, [t.id], rfl, rfl, by rw [idsT_eq]; rfl⟩, ⟨⟨rfl, rfl⟩, ⟨rfl, rfl⟩, ⟨rfl, rfl⟩, trivial⟩, ⟨⟨rfl, rfl⟩, ⟨rfl, rfl⟩, trivial⟩⟩ ?_
  rintro ⟨i, g, n, xs⟩ ⟨k1, acc, rfl, rfl, k2⟩ next
  simp only at k1 k2
  refine ⟨fun hlt => go 300 ?_, fun hge => go 300 ?_⟩
  · have hi : i < t.subs.length := by simpa [subV_eq] using hlt
    have hx : t.subV[i]? = some (nodeV t.subs[i]) := by simp [subV_eq, hi]
    have hws := weight_sub (List.getElem_mem hi)
    rw [idsTs_drop hi] at k2
    have hlen := congrArg List.length k2
    simp only [List.length_append] at hlen
    refine ⟨Int.natCast_nonneg i, _, hx, ?_⟩
    show CallThen _ _ _ _ _ _
    refine call_pure (ih _ (List.getElem_mem hi) (by omega)) rfl ?_
    rintro x rfl
    refine ⟨rfl, by simp, room_of (by simp; omega) (by decide), ?_⟩
    refine ⟨by constructor <;> omega, ?_⟩
    show Goes _ _ _ _
    refine next (i + 1, bump g, _, _) _ _ ⟨⟨hi, acc ++ idsT t.subs[i], ?_, ?_, ?_⟩, ?_, ⟨⟨rfl, rfl⟩, ⟨rfl, rfl⟩, ⟨rfl, rfl⟩, trivial⟩, ⟨⟨rfl, rfl⟩, ⟨rfl, rfl⟩, trivial⟩⟩
    · simp
    · simp
    · simpa using k2
    · simp only; omega
  · have hi : t.subs.length ≤ i := by simpa [subV_eq] using hge
    rw [List.drop_eq_nil_of_le hi, idsTs, List.append_nil] at k2
    subst k2
    exact ⟨trivial, rfl, rfl, rfl, by simp, rfl, rfl⟩
end Bow
/- W43a: ApplyAll, the program's and the reference's. -/
namespace Bow
open Go Go.Proofs

def AllV (r : Tree × Nat × Int) : V := .tup [nodeV r.1, .int .i64 r.2.1, .int .i64 r.2.2]
theorem allZ (i : Nat) (e : Int) : ∃ y, Wk (.tup [zeroV .nilsl, .int .i64 i, .int .i64 e]) y ∧ y.pureB = true ∧ y = AllV (zeroT0, i, e) :=
  ⟨_, Wk.tup (ys := [nodeV zeroT0, .int .i64 i, .int .i64 e]) ⟨wk_zero (ss := []) (Wk.nil 6), .refl _, .refl _, trivial⟩, rfl, rfl⟩

set_option maxHeartbeats 1000000 in
set_option maxRecDepth 100000 in
theorem w_refApplyAll (t : Tree) (l : List OpT) (hw : t.weight + costs l ≤ 400000) (hl : l.length ≤ 1000000) (hok : ∀ o ∈ l, o.Ok) : Pure Tryz.prog 66 [nodeV t, opsV l] (fun x => x = AllV (AllR t l)) := by
  refine pure_wk (pure_fn 300 Tryz.func66 rfl rfl rfl fun B => ?_)
  show CallThen _ _ _ _ _ _
  refine call_pure (w_refRightT t (by omega)) rfl ?_
  rintro x rfl
  refine ⟨fun g => go 300 ?_, fun g => go 300 ?_⟩
  · have hr : rightT t = false := by simpa using g
    refine ⟨trivial, rfl, rfl, rfl, ?_⟩
    have e : AllR t l = (zeroT0, 0, 2) := by unfold AllR; rw [hr]; rfl
    rw [e]
    exact allZ 0 2
  have hr : rightT t = true := by simpa using g
  have e : AllR t l = allR t l 0 := by unfold AllR; rw [hr]; rfl
  rw [e]
  show Goes _ _ _ _
  refine goes_iter (ι := Nat × Tree) (fun i => i.1 ≤ l.length ∧ rightT i.2 = true ∧ i.2.weight + costs (l.drop i.1) ≤ 400000 ∧ allR i.2 (l.drop i.1) i.1 = allR t l 0) (fun i => l.length - i.1)
    (fun i => [(7, .int .i64 i.1), (1, opsV l), (2, .ptr (.loc 0) 0), (4, .ptr (.loc 1) 0)]) (fun i => [some (.box (nodeV i.2).cells), some (.box (zeroV .nilsl).cells)]) (0, t) 300 (fun _ => rfl) (fun _ => rfl) ⟨⟨Nat.zero_le _, hr, hw, rfl⟩, ⟨⟨rfl, rfl⟩, ⟨rfl, rfl⟩, ⟨rfl, rfl⟩, ⟨rfl, rfl⟩, trivial⟩, ⟨⟨rfl, rfl⟩, ⟨rfl, rfl⟩, trivial⟩⟩ ?_
  rintro ⟨i, u⟩ ⟨k1, k2, k3, k4⟩ next
  simp only at k1 k2 k3 k4
  refine ⟨fun hlt => go 300 ?_, fun hge => go 300 ?_⟩
  · have hi : i < l.length := by simpa using hlt
    have hx : (l.map opV)[i]? = some (opV l[i]) := by simp [hi]
    rw [List.drop_eq_getElem_cons hi, allR] at k4
    rw [List.drop_eq_getElem_cons hi, costs] at k3
    have hap := w_refApply u l[i] (by omega) (hok _ (List.getElem_mem hi))
    show Goes _ _ _ _
    refine goes_draw 300 ⟨Int.natCast_nonneg i, _, hx, _, hap, rfl, ?_⟩
    refine ⟨by kernel_rfl, ?_⟩
    refine ⟨by kernel_rfl, ?_⟩
    by_cases hv : ValidE u l[i] = 0
    · have e : applyR u l[i] = (applyT u l[i], 0) := by unfold applyR; rw [decide_eq_true hv]; rfl
      rw [decide_eq_true hv] at k4
      have hwt := applyT_weight hv
      rw [e]
      refine ⟨fun g => absurd rfl (ne_of' g), fun _ => go 300 ?_⟩
      refine ⟨by constructor <;> omega, ?_⟩
      show Goes _ _ _ _
      exact next (i + 1, applyT u l[i]) _ _ ⟨⟨hi, right_applyT hv, by simp only; omega, k4⟩, by simp only; omega, ⟨⟨rfl, rfl⟩, ⟨rfl, rfl⟩, ⟨rfl, rfl⟩, ⟨rfl, rfl⟩, trivial⟩, ⟨⟨rfl, rfl⟩, ⟨rfl, rfl⟩, trivial⟩⟩
    · have e : applyR u l[i] = (zeroT [], ValidE u l[i]) := by unfold applyR; rw [decide_eq_false hv]; rfl
      rw [decide_eq_false hv] at k4
      rw [e]
      refine ⟨fun _ => go 300 ?_, fun g => absurd (eq_of' g) hv⟩
      refine ⟨trivial, rfl, rfl, rfl, ?_⟩
      rw [← k4]
      exact allZ i (ValidE u l[i])
  · have hi : i = l.length := by have := not_lt_of hge; simp at this; omega
    subst hi
    rw [List.drop_length, allR] at k4
    refine ⟨trivial, rfl, rfl, rfl, ?_⟩
    rw [← k4]
    exact ⟨_, Wk.refl _, rfl, by simp [AllV]; rfl⟩

set_option maxHeartbeats 1000000 in
set_option maxRecDepth 100000 in
theorem w_ApplyAll (t : Tree) (l : List OpT) (hw : t.weight + costs l ≤ 400000) (hl : l.length ≤ 1000000) (hok : ∀ o ∈ l, o.Ok) : Pure Tryz.prog 65 [nodeV t, opsV l] (fun x => x = AllV (AllR t l)) := by
  refine pure_wk (pure_fn 300 Tryz.func65 rfl rfl rfl fun B => ?_)
  show CallThen _ _ _ _ _ _
  refine call_pure (w_RightT t (by omega)) rfl ?_
  rintro x rfl
  refine ⟨fun g => go 300 ?_, fun g => go 300 ?_⟩
  · have hr : rightT t = false := by simpa using g
    refine ⟨trivial, rfl, rfl, rfl, ?_⟩
    have e : AllR t l = (zeroT0, 0, 2) := by unfold AllR; rw [hr]; rfl
    rw [e]
    exact allZ 0 2
  have hr : rightT t = true := by simpa using g
  have e : AllR t l = allR t l 0 := by unfold AllR; rw [hr]; rfl
  rw [e]
  show Goes _ _ _ _
  refine goes_iter (ι := Nat × Tree) (fun i => i.1 ≤ l.length ∧ rightT i.2 = true ∧ i.2.weight + costs (l.drop i.1) ≤ 400000 ∧ allR i.2 (l.drop i.1) i.1 = allR t l 0) (fun i => l.length - i.1)
    (fun i => [(16, .int .i64 i.1), (15, .int .i64 (l.map opV).length), (14, opsV l), (1, opsV l), (2, .ptr (.loc 0) 0), (4, .ptr (.loc 1) 0)]) (fun i => [some (.box (nodeV i.2).cells), some (.box (zeroV .nilsl).cells)]) (0, t) 300 (fun _ => rfl) (fun _ => rfl) ⟨⟨Nat.zero_le _, hr, hw, rfl⟩, ⟨⟨rfl, rfl⟩, ⟨rfl, rfl⟩, ⟨rfl, rfl⟩, ⟨rfl, rfl⟩, ⟨rfl, rfl⟩, ⟨rfl, rfl⟩, trivial⟩, ⟨⟨rfl, rfl⟩, ⟨rfl, rfl⟩, trivial⟩⟩ ?_
  rintro ⟨i, u⟩ ⟨k1, k2, k3, k4⟩ next
  simp only at k1 k2 k3 k4
  refine ⟨fun hlt => go 300 ?_, fun hge => go 300 ?_⟩
  · have hi : i < l.length := by simpa using hlt
    have hx : (l.map opV)[i]? = some (opV l[i]) := by simp [hi]
    have ho := hok _ (List.getElem_mem hi)
    have hvr := valid_of_right k2 l[i]
    rw [List.drop_eq_getElem_cons hi, allR] at k4
    rw [List.drop_eq_getElem_cons hi, costs] at k3
    refine ⟨Int.natCast_nonneg i, _, hx, ?_⟩
    show CallThen _ _ _ _ _ _
    refine call_pure (w_Formed l[i] ho.lt ho.each) rfl ?_
    rintro x rfl
    refine ⟨fun g => go 300 ?_, fun g => go 300 ?_⟩
    · rw [g] at hvr
      have hvr : ValidE u l[i] = validE u l[i] := hvr
      show CallThen _ _ _ _ _ _
      refine call_pure (w_valid u l[i] (by omega) ho) rfl ?_
      rintro x rfl
      rw [← hvr]
      by_cases hv : ValidE u l[i] = 0
      · rw [decide_eq_true hv] at k4
        have hwt := applyT_weight hv
        refine ⟨fun g => absurd hv (ne_of' g), fun _ => go 300 ?_⟩
        show CallThen _ _ _ _ _ _
        refine call_pure (w_applyT u l[i] (by omega) ho hv) rfl ?_
        rintro x rfl
        refine ⟨by constructor <;> omega, ?_⟩
        show Goes _ _ _ _
        exact next (i + 1, applyT u l[i]) _ _ ⟨⟨hi, right_applyT hv, by simp only; omega, k4⟩, by simp only; omega, ⟨⟨rfl, rfl⟩, ⟨rfl, rfl⟩, ⟨rfl, rfl⟩, ⟨rfl, rfl⟩, ⟨rfl, rfl⟩, ⟨rfl, rfl⟩, trivial⟩, ⟨⟨rfl, rfl⟩, ⟨rfl, rfl⟩, trivial⟩⟩
      · rw [decide_eq_false hv] at k4
        refine ⟨fun _ => go 300 ?_, fun g => absurd (eq_of' g) hv⟩
        refine ⟨trivial, rfl, rfl, rfl, ?_⟩
        rw [← k4]
        exact allZ i (ValidE u l[i])
    · rw [g] at hvr
      have hvr : ValidE u l[i] = 80 := hvr
      rw [hvr] at k4
      refine ⟨fun _ => go 300 ?_, fun g => absurd (eq_of' g) (by decide)⟩
      refine ⟨trivial, rfl, rfl, rfl, ?_⟩
      rw [← k4]
      exact allZ i 80
  · have hi : i = l.length := by have := not_lt_of hge; simp at this; omega
    subst hi
    rw [List.drop_length, allR] at k4
    refine ⟨trivial, rfl, rfl, rfl, ?_⟩
    rw [← k4]
    exact ⟨_, Wk.refl _, rfl, by simp [AllV]; rfl⟩

end Bow
/- AE42: nil in a row of cells as own memory; own slices cut ahead; a pointer into own memory is not nil. -/
namespace Bow
open Go

section
variable {c : Cx} {E : Env} {T : Heap} {ops : Array Oper} {i : Nat} {rest : List Nat} {k : List Item} {o : Oper}
theorem convL_get (m : List Nat) (cs : List V) (j : Nat) : (V.convL m cs)[j]? = cs[j]?.map (V.conv m) := by
  rw [V.convL_eq, List.getElem?_map]
theorem convL_set (m : List Nat) (cs : List V) (j : Nat) (x : V) : V.convL m (cs.set j x) = (V.convL m cs).set j (x.conv m) := by
  rw [V.convL_eq, V.convL_eq, List.map_set]

/-- A nil slice in a box, as own memory. -/
theorem goes_ownCell {todo : List Item} {cs : List V} (kb j sz : Nat) (hk : lget T kb = some (some (.box cs))) (hj : cs[j]? = some .nilsl) (h : Goes c todo E (List.set (T ++ [some (HObj.vec 0 sz [])]) kb (some (HObj.box (cs.set j (.osl (.loc T.length) 0 0 0)))))) : Goes c todo E T := by
  rw [lget_eq] at hk
  refine goes_step fun w β H m a b cs0 hs _ _ _ => ?_
  obtain ⟨β', H', k1, k2, k3⟩ := hs.newNil 0 sz none
  have hk2 : (T ++ [some (HObj.vec 0 sz [])])[kb]? = some (some (.box cs)) := by rw [List.getElem?_append_left (lt_of_get hk)]; exact hk
  obtain ⟨r, hr, hH⟩ := k1.at hk2
  have hob := k1.hrel.obj r _ hH
  have hfr : Fr w β' H' w β' (H'.set r (some ((HObj.box (cs.set j (.osl (.loc T.length) 0 0 0))).conv (m ++ [H.length])))) := Fr.swap hH trivial
  have hrel : HRel w β' (H'.set r (some ((HObj.box (cs.set j (.osl (.loc T.length) 0 0 0))).conv (m ++ [H.length])))) := by
    refine k1.hrel.swap hH trivial ?_
    simp only [HObj.conv]
    cases hβ : β' r with
    | none => trivial
    | nil => rw [hβ] at hob; exact hob
    | blk bb N =>
      rw [hβ] at hob
      obtain ⟨vs, e, q1, q2, q3, q4⟩ := hob
      refine ⟨vs, e, q1, q2, by rw [convL_set, List.length_set]; exact q3, fun i x v hi hv => ?_⟩
      rw [convL_set, List.getElem?_set] at hi
      split at hi
      · rename_i hji
        subst hji
        split at hi
        · injection hi with hi
          subst hi
          have h0 := q4 j .nilsl v (by rw [convL_get, hj]; rfl) hv
          cases h0
          exact k3.mono hfr
        · cases hi
      · exact (q4 i x v hi hv).mono hfr
  have hset := k1.setAt (o' := some (.box (cs.set j (.osl (.loc T.length) 0 0 0)))) (w' := w) hr (fun o1 e1 => by
      injection e1 with e1
      subst e1
      have hm : m.length = T.length := hs.mlen
      have hsc := hs.scT kb _ hk
      show V.scL _ _
      rw [V.scL_iff]
      have hsc' := (V.scL_iff _ _).1 hsc
      intro v hv
      rcases List.mem_or_eq_of_mem_set hv with hv | hv
      · exact V.sc_mono (by simp; omega) v (hsc' v hv)
      · subst hv
        show T.length < (m ++ [H.length]).length
        simp only [List.length_append, List.length_singleton]
        omega)
    (fun hm => absurd hm (k1.notD hk2 (by simp))) hfr hrel
  exact ⟨w, β', _, m ++ [H.length], a, todo, ⟨E, _, c.B, c.D⟩, .refl _ _, hset, k2.trans hfr, h⟩

/-- An own slice, cut ahead of its elements from the h-th on. -/
theorem goes_cutlo {t e : TypeId} {x lo : Operand} {kk : IntKind} {ti : TypeInfo} {kn g off l sz h : Nat} {xs : List V} (n : Nat) (ho : lget ops.toList i = some o) (hg : o.guard = none) (hop : o.op = .slice t x (some lo) none none) (hx : opd E x = .osl (.loc kn) g off l) (hh : opd E lo = .int kk h) (ht : tyU c.P t = some (.slice e)) (hi' : tyI c.P e = some ti) (hsz : ti.size = sz)
    (hk : lget T kn = some (some (.vec g sz xs))) (hle : h ≤ l)
    (hn : putE c.nt o.dst (.osl (.loc kn) g (off + h) (l - h)) E False fun E' => evp c n (.inRegion ops rest :: k) E' T) : Goes c (.inRegion ops (i :: rest) :: k) E T := by
  rw [lget_eq] at hk
  refine goes_opTo n ho hg hop (fun o hop w β H m a hs => ?_) (fun cl h => by cases h) hn
  have hv := opd_rep hs x
  obtain ⟨r, hr, hH⟩ := hs.at hk
  simp only [hx, V.conv, Ref.conv, hr] at hv
  simp only [HObj.conv] at hH
  have e2 := rep_int (m := m) (by have := opd_rep hs lo; rwa [hh] at this)
  have hvec2 : ∀ sz2 xs2, H[r]? = some (some (.vec g sz2 xs2)) → sz2 = sz ∧ xs2 = xs := fun sz2 xs2 h2 => by
    rw [hH] at h2
    injection h2 with h2
    injection h2 with h2
    injection h2 with _ e1 e2
    exact ⟨e1.symm, e2.symm⟩
  generalize hq : a.eval x = q at hv
  have hrun : ∀ (ad : Option Addr) (cap : Nat), q = .slice ad l cap → l ≤ cap → (execOp a.eval o).run c.P w = .ok (.value (.slice (if cap - h = 0 then ad else Option.map (fun x => x.add (h * sz)) ad) (l - h) (cap - h))) w := by
    intro ad cap hqe hlc
    subst hqe
    have hhc : h ≤ cap := by omega
    simp [execOp, hop, hq, e2, Instr.sliceAt, Instr.slice, Instr.sliceBounds, Instr.sliceBound, asIntOf, run_underlying (tyU_sound ht), run_sizeOf' (tyI_sound hi'), hsz, hle]
    by_cases hch : cap = h
    · simp [hch]
    · rw [if_neg hch, if_neg (by omega)]
  cases hv with
  | oslNil _ _ sz2 xs2 ad hH' hβ =>
    obtain ⟨rfl, rfl⟩ := hvec2 _ _ hH'
    obtain rfl : h = 0 := by omega
    refine ⟨_, _, w, β, H, m, hrun ad 0 rfl (Nat.le_refl _), .inl rfl, hs, Fr.refl w β H, ?_, List.prefix_refl _⟩
    simp only [V.conv, Ref.conv, hr]
    exact .oslNil r g sz2 xs2 _ hH hβ
  | oslBlk _ _ _ _ sz2 xs2 b N ad cap hH' hβ hl hN hcap ha hlen =>
    obtain ⟨rfl, rfl⟩ := hvec2 _ _ hH'
    refine ⟨_, _, w, β, H, m, hrun ad cap rfl hl, .inl rfl, hs, Fr.refl w β H, ?_, List.prefix_refl _⟩
    simp only [V.conv, Ref.conv, hr]
    refine .oslBlk r g (off + h) (l - h) sz2 xs2 b N _ _ hH hβ (by omega) (by rw [show off + h + (cap - h) = off + cap by omega]; exact hN) (by omega) (fun hc => ?_) (by omega)
    rw [if_neg (by omega), ha (by omega)]
    simp [Addr.add, Nat.add_mul]
  | oslStale _ _ _ _ g' sz' xs' _ hH' hg =>
    rw [hH] at hH'
    injection hH' with hH'
    injection hH' with hH'
    injection hH' with e0 _ _
    omega
  | oslDead _ _ _ _ _ hd => rw [hH] at hd; cases hd

/-- A pointer into own memory is not nil. -/
theorem goes_nilE {x : Operand} {kn g sz ix off : Nat} {xs : List V} (n : Nat) (ho : lget ops.toList i = some o) (hg : o.guard = none) (hop : o.op = .nilCheck x) (hx : opd E x = .eptr (.loc kn) g ix off) (hk : lget T kn = some (some (.vec g sz xs)))
    (hn : putE c.nt o.dst (.eptr (.loc kn) g ix off) E False fun E' => evp c n (.inRegion ops rest :: k) E' T) : Goes c (.inRegion ops (i :: rest) :: k) E T := by
  rw [lget_eq] at hk
  refine goes_opTo n ho hg hop (fun o hop w β H m a hs => ?_) (fun cl h => by cases h) hn
  have hv := opd_rep hs x
  obtain ⟨r, hr, hH⟩ := hs.at hk
  simp only [hx, V.conv, Ref.conv, hr] at hv
  simp only [HObj.conv] at hH
  generalize hq : a.eval x = q at hv
  cases hv with
  | eptrLive _ _ _ _ sz2 xs2 b N hH' hβ hi =>
    refine ⟨_, _, w, β, H, m, by simp [execOp, hop, hq]; rfl, .inl rfl, hs, Fr.refl w β H, ?_, List.prefix_refl _⟩
    simp only [V.conv, Ref.conv, hr]
    exact .eptrLive r g ix off sz2 xs2 b N hH' hβ hi
  | eptrStale _ _ _ _ g' sz' xs' _ hH' hg =>
    rw [hH] at hH'
    injection hH' with hH'
    injection hH' with hH'
    injection hH' with e0 _ _
    omega
  | eptrDead _ _ _ _ _ hd => rw [hH] at hd; cases hd
end

/-- A function's contract, its pure result said less closely. -/
theorem fun_wk {P : Program} {f : FuncId} {T : Heap} {args : List V} {Q : V → Heap → Prop} (h : Fun P f T args fun x T' => ∃ y, Wk x y ∧ x.pureB = true ∧ y.pureB = true ∧ Q y T') : Fun P f T args Q := by
  unfold Fun at *
  refine ⟨h.1, fun w β H m B vals cs hs hl hr => ?_⟩
  obtain ⟨x, T', v, w', β', H', m', fr, ⟨y, q1, q2, q3, q4⟩, k1, k2, k3, k4⟩ := h.2 w β H m B vals cs hs hl hr
  rw [pure_conv _ _ q2] at k3
  exact ⟨y, T', v, w', β', H', m', fr, q4, k1, k2, by rw [pure_conv _ _ q3]; exact q1 _ _ _ _ k3, k4⟩
end Bow
/- W49: where nodes are behind an operation: shift.moves, of, number, land. -/
namespace Bow
open Go Go.Proofs

set_option maxRecDepth 100000 in
theorem w_moves (o : OpT) (ho : o.Ok) : Pure Tryz.prog 233 [opV o] (fun x => x = .bool (movesO o)) := by
  refine pure_wk (pure_fn 300 Tryz.func233 rfl rfl rfl fun B => ?_)
  show CallThen _ _ _ _ _ _
  refine call_pure (w_Formed o ho.lt ho.each) rfl ?_
  rintro x rfl
  have hW := w_pathWithin o.path o.to ho.lt.path
  repeat' first
    | (refine ⟨fun _ => go 300 ?_, fun _ => go 300 ?_⟩)
    | (show CallThen _ _ _ _ _ _; refine call_pure hW rfl ?_; rintro z rfl)
    | (refine ⟨trivial, rfl, rfl, rfl, leaf_tt ?_⟩)
    | (refine ⟨trivial, rfl, rfl, rfl, leaf_ff ?_⟩)
    | (refine ⟨trivial, rfl, rfl, rfl, leaf_b ?_⟩)
    | fail
  all_goals (clear hW; simp_all [movesO])

theorem moves_ne {o : OpT} (h : movesO o = true) : o.kind ≠ 1 → o.path ≠ [] := fun hk e => by
  unfold movesO at h
  rw [e, decide_eq_false hk] at h
  simp at h
theorem leaf_i {n m : Int} (h : n = m) : V.int .i64 n = V.int .i64 m := by rw [h]
def chgV (c : Chg) : V := .agg [.bool c.takes, .bool c.puts, pathV c.frm, pathV c.to, .int .i64 c.at_, .int .i64 c.gap]
set_option maxRecDepth 100000 in
theorem w_chgOf (o : OpT) (ho : o.Ok) (hne : o.kind ≠ 1 → o.path ≠ []) : Pure Tryz.prog 234 [opV o] (fun x => x = chgV (chgO o)) := by
  refine pure_wk (pure_fn 300 Tryz.func234 rfl rfl rfl fun B => ?_)
  refine ⟨fun g1 => go 300 ?_, fun g1 => go 300 ?_⟩
  · have hk : o.kind = 1 := eq_of g1
    refine ⟨fun q => absurd hk (ne_of' q), fun _ => go 300 ?_⟩
    have e : chgO o = ⟨!decide (o.kind = 1), !decide (o.kind = 2), [], o.path, 0, o.at_⟩ := by unfold chgO; simp [hk]
    rw [e]
    exact ⟨trivial, rfl, rfl, rfl, chgV ⟨!decide (o.kind = 1), !decide (o.kind = 2), [], o.path, 0, o.at_⟩, Wk.agg ⟨.refl _, .refl _, Wk.nil 1, .refl _, .refl _, .refl _, trivial⟩, rfl, rfl⟩
  · have hk : o.kind ≠ 1 := ne_of g1
    refine ⟨fun _ => go 300 ?_, fun q => absurd (eq_of' q) hk⟩
    show CallThen _ _ _ _ _ _
    refine call_pure (w_Parent o.path ho.lt.path (hne hk)) rfl ?_
    rintro x rfl
    have e : chgO o = ⟨!decide (o.kind = 1), !decide (o.kind = 2), o.path.dropLast, o.to, o.path.getLast (hne hk), o.at_⟩ := by unfold chgO; rw [lastP_eq]; simp [hk]
    rw [e]
    exact ⟨trivial, rfl, rfl, rfl, _, Wk.refl _, rfl, rfl⟩

set_option maxRecDepth 100000 in
theorem w_number (c : Chg) (p : List Int) (k : Int) (hp : p.length ≤ 1000000) (hk : -1 ≤ k ∧ k ≤ 10000000) : Pure Tryz.prog 236 [chgV c, pathV p, .int .i64 k] (fun x => x = .int .i64 (c.number p k)) := by
  refine pure_fn 300 Tryz.func236 rfl rfl rfl fun B => ?_
  have h1 := w_pathSame p c.frm hp
  have h2 := w_pathSame p c.to hp
  repeat' first
    | (refine ⟨fun _ => go 300 ?_, fun _ => go 300 ?_⟩)
    | (show CallThen _ _ _ _ _ _; refine call_pure h1 rfl ?_; rintro z rfl)
    | (show CallThen _ _ _ _ _ _; refine call_pure h2 rfl ?_; rintro z rfl)
    | (refine ⟨trivial, rfl, rfl, rfl, leaf_i ?_⟩)
    | (refine ⟨by constructor <;> omega, ?_⟩)
    | fail
  all_goals (unfold Chg.number; try simp_all)
  all_goals (first | (simp [show ¬ (c.gap ≤ k) by omega, show ¬ (c.at_ < k) by omega]; done) | (simp [show ¬ (c.gap ≤ k) by omega]; done) | (simp [show ¬ (c.at_ < k) by omega]; done))

set_option maxRecDepth 100000 in
theorem w_land (c : Chg) (hp : c.frm.length ≤ 1000000) (hk : -1 ≤ c.gap ∧ c.gap ≤ 10000000) : Pure Tryz.prog 235 [chgV c] (fun x => x = .int .i64 c.land) := by
  refine pure_fn 300 Tryz.func235 rfl rfl rfl fun B => ?_
  have h1 := w_pathSame c.frm c.to hp
  repeat' first
    | (refine ⟨fun _ => go 300 ?_, fun _ => go 300 ?_⟩)
    | (show CallThen _ _ _ _ _ _; refine call_pure h1 rfl ?_; rintro z rfl)
    | (refine ⟨trivial, rfl, rfl, rfl, leaf_i ?_⟩)
    | (refine ⟨by constructor <;> omega, ?_⟩)
    | fail
  all_goals (unfold Chg.land; try simp_all)
  all_goals (simp [show ¬ (c.at_ < c.gap) by omega]; done)
end Bow
/- W50: where a node is behind an operation: shift.Node. -/
namespace Bow
open Go Go.Proofs

/-- What Node hands back: nil; or own memory, ahead of it the boxes that it made. -/
def NodeS (o : OpT) (q : List Int) (x : V) (T : Heap) : Prop :=
  (q = [] ∧ x = .tup [.nilsl, .tt] ∧ T = [some (.box (opV o).cells)]) ∨ (∃ g, x = .tup [.osl (.loc 1) g 0 q.length, .tt] ∧ T = [some (.box (opV o).cells), some (.vec g 1 (q.map intV))])
def NodeM (o : OpT) (q : List Int) (x : V) (T : Heap) : Prop :=
  ∃ g, x = .tup [.osl (.loc 2) g 0 q.length, .tt] ∧ T = [some (.box (opV o).cells), some (.box (chgV (chgO o)).cells), some (.vec g 1 (q.map intV))]
theorem nums_snoc (c : Chg) : ∀ (p q : List Int) (k : Int), c.nums q (p ++ [k]) = c.nums q p ++ [c.number (q ++ p) k]
  | [], q, k => by simp [Chg.nums]
  | x :: p, q, k => by
    rw [List.cons_append, Chg.nums, nums_snoc c p, Chg.nums]
    simp
theorem nums_len (c : Chg) : ∀ (p q : List Int), (c.nums q p).length = p.length
  | [], _ => rfl
  | x :: p, q => by rw [Chg.nums, List.length_cons, nums_len c p, List.length_cons]
theorem nums_take (c : Chg) {p : List Int} {i : Nat} (h : i < p.length) : c.nums [] (p.take (i + 1)) = c.nums [] (p.take i) ++ [c.number (p.take i) p[i]] := by
  rw [List.take_succ_eq_append_getElem h, nums_snoc]
  simp

set_option maxRecDepth 100000 in
/-- Where nothing moves. -/
theorem w_NodeStay (o : OpT) (p : List Int) (ho : o.Ok) (hp : p.length ≤ 1000000) (hm : movesO o = false) :
    Fun Tryz.prog 212 [] [opV o, pathV p] (NodeS o p) := by
  refine fun_fn 300 Tryz.func212 rfl rfl rfl fun imps B hi => ?_
  have : imps = [] := List.length_eq_zero_iff.1 hi
  subst this
  show CallThen _ _ _ _ _ _
  refine call_pure (w_moves o ho) rfl ?_
  rintro x rfl
  refine ⟨fun g1 => go 300 ?_, fun g1 => absurd hm (by simpa using g1)⟩
  show CallThen _ _ _ _ _ _
  refine call_sub [] (w_CloneInt (p.map intV) (by simpa using hp)) rfl rfl trivial rfl rfl rfl ?_
  rintro x T1 (⟨e, rfl, rfl⟩ | ⟨rfl, rfl⟩)
  · refine ⟨rfl, ?_⟩
    refine ⟨trivial, rfl, rfl, .inl ⟨by simpa using e, rfl, rfl⟩⟩
  · refine ⟨rfl, ?_⟩
    refine ⟨trivial, rfl, rfl, .inr ⟨2, by simp [resV]; rfl, rfl⟩⟩

set_option maxHeartbeats 2000000 in
set_option maxRecDepth 100000 in
/-- Of a node that is not taken. -/
theorem w_Node0 (o : OpT) (p : List Int) (ho : o.Ok) (hp : p.length ≤ 1000000) (hpb : ∀ i ∈ p, 0 ≤ i ∧ i ≤ 1048576) (hm : movesO o = true) (hb : ((chgO o).takes && within o.path p) = false) :
    Fun Tryz.prog 212 [] [opV o, pathV p] (NodeM o ((chgO o).nums [] p)) := by
  refine fun_fn 300 Tryz.func212 rfl rfl rfl fun imps B hi => ?_
  have : imps = [] := List.length_eq_zero_iff.1 hi
  subst this
  show CallThen _ _ _ _ _ _
  refine call_pure (w_moves o ho) rfl ?_
  rintro x rfl
  refine ⟨fun g1 => absurd hm (by simpa using g1), fun g1 => go 300 ?_⟩
  have hne : o.kind ≠ 1 → o.path ≠ [] := moves_ne hm
  unfold NodeM
  show CallThen _ _ _ _ _ _
  refine call_pure (w_chgOf o ho hne) rfl ?_
  rintro x rfl
  obtain ⟨c, hc⟩ : ∃ c, chgO o = c := ⟨_, rfl⟩
  rw [hc] at hb ⊢
  rcases Bool.eq_false_or_eq_true c.takes with ht | ht
  · rw [ht, Bool.true_and] at hb
    refine ⟨fun _ => go 300 ?_, fun q => absurd (ht.symm.trans q) (by decide)⟩
    show CallThen _ _ _ _ _ _
    refine call_pure (w_pathWithin o.path p ho.lt.path) rfl ?_
    rintro x rfl
    refine ⟨fun q => absurd (hb.symm.trans q) (by decide), fun _ => go 300 ?_⟩
    show Goes _ _ _ _
    refine goes_own 7 1 rfl ?_
    refine goes_while (ι := Nat × Nat × Nat × List V) (κ := Nat × Nat × List V) (fun i => i.1 ≤ p.length ∧ i.2.2.2 = (c.nums [] (p.take i.1)).map intV ∧ i.2.2.1 = i.1) (fun i => p.length - i.1)
      (fun i => [(9, .int .i64 i.1), (8, .int .i64 0), (7, .osl (.loc 2) i.2.1 0 i.2.2.1), (6, .ptr (.loc 1) 0), (1, pathV p), (2, .ptr (.loc 0) 0)]) (fun i => [some (.box (opV o).cells), some (.box (chgV c).cells), some (.vec i.2.1 1 i.2.2.2)]) (0, 0, 0, [])
      (fun k => k.2.1 = p.length ∧ k.2.2 = (c.nums [] p).map intV) (fun k => [(7, .osl (.loc 2) k.1 0 k.2.1)]) (fun k => [some (.box (opV o).cells), some (.box (chgV c).cells), some (.vec k.1 1 k.2.2)]) 300 (fun _ => rfl) (fun _ => rfl) (fun _ => rfl) (fun _ => rfl) ⟨⟨Nat.zero_le _, rfl, rfl⟩, ⟨⟨rfl, rfl⟩, ⟨rfl, rfl⟩, ⟨rfl, rfl⟩, ⟨rfl, rfl⟩, ⟨rfl, rfl⟩, ⟨rfl, rfl⟩, trivial⟩, ⟨⟨rfl, rfl⟩, ⟨rfl, rfl⟩, ⟨rfl, rfl⟩, trivial⟩⟩ ?_ ?_
    · rintro ⟨g, n, xs⟩ ⟨j1, j2⟩
      simp only at j1 j2
      subst j1 j2
      refine ⟨trivial, rfl, rfl, g, ?_, rfl⟩
      simp [resV, nums_len]
    · rintro ⟨i, g, n, xs⟩ ⟨j1, j2, j3⟩ next post
      simp only at j1 j2 j3
      subst j2
      replace j3 := j3.symm
      subst j3
      refine ⟨fun hlt => go 300 ?_, fun hge => go 300 ?_⟩
      · have hi : i < p.length := by simpa using hlt
        have hx : (p.map intV)[i]? = some (intV p[i]) := by simp [hi]
        have hbd := hpb _ (List.getElem_mem hi)
        have hnum := w_number c (p.take i) p[i] (by simp; omega) ⟨by omega, by omega⟩
        have et : V.sl 1 (((p.map intV).drop (Int.toNat 0)).take (((i : Nat) : Int).toNat - Int.toNat 0)) = pathV (p.take i) := by
          unfold pathV
          simp
        refine ⟨fun q => absurd (lt_of q) (by omega), fun _ => go 300 ?_⟩
        show Goes _ _ _ _
        refine goes_draw 300 ?_
        refine ⟨by decide, Int.natCast_nonneg i, Int.ofNat_le.2 (by simpa using j1), ?_⟩
        refine ⟨Int.natCast_nonneg i, _, hx, ?_⟩
        have hnum' := hnum
        rw [← et] at hnum'
        refine ⟨_, hnum', rfl, ?_⟩
        have hcl : (c.nums [] (p.take i)).length = i := by rw [nums_len]; simp; omega
        refine ⟨rfl, ⟨rfl, trivial⟩, ?_⟩
        refine ⟨rfl, rfl, rfl, rfl, by simp [hcl], room_of (by simp [hcl]; omega) (by decide), ?_⟩
        refine ⟨by kernel_rfl, ?_⟩
        try refine ⟨by kernel_rfl, ?_⟩
        refine ⟨⟨by omega, by omega⟩, ?_⟩
        refine next (i + 1, bump g, i + 1, (c.nums [] (p.take i)).map intV ++ [intV (c.number (p.take i) p[i])]) _ _ ⟨⟨hi, ?_, rfl⟩, ?_, ?_, ?_⟩
        · simp only
          rw [nums_take c hi, List.map_append]
          rfl
        · simp only; omega
        · refine ⟨⟨rfl, rfl⟩, ⟨rfl, rfl⟩, ⟨?_, rfl⟩, ⟨rfl, rfl⟩, ⟨rfl, rfl⟩, ⟨rfl, rfl⟩, trivial⟩
          simp [hcl]
          rfl
        · refine ⟨⟨rfl, rfl⟩, ⟨rfl, rfl⟩, ⟨?_, rfl⟩, trivial⟩
          rfl
      · have hi : i = p.length := by have : p.length ≤ i := by simpa using hge
                                     omega
        subst hi
        rw [List.take_length]
        exact post (g, _, _) _ _ _ rfl ⟨⟨rfl, rfl⟩, ⟨⟨rfl, rfl⟩, trivial⟩, ⟨⟨rfl, rfl⟩, ⟨rfl, rfl⟩, ⟨rfl, rfl⟩, trivial⟩⟩
  · refine ⟨fun q => absurd (ht.symm.trans q) (by decide), fun _ => go 300 ?_⟩
    show Goes _ _ _ _
    refine goes_own 7 1 rfl ?_
    refine goes_while (ι := Nat × Nat × Nat × List V) (κ := Nat × Nat × List V) (fun i => i.1 ≤ p.length ∧ i.2.2.2 = (c.nums [] (p.take i.1)).map intV ∧ i.2.2.1 = i.1) (fun i => p.length - i.1)
      (fun i => [(9, .int .i64 i.1), (8, .int .i64 0), (7, .osl (.loc 2) i.2.1 0 i.2.2.1), (6, .ptr (.loc 1) 0), (1, pathV p), (2, .ptr (.loc 0) 0)]) (fun i => [some (.box (opV o).cells), some (.box (chgV c).cells), some (.vec i.2.1 1 i.2.2.2)]) (0, 0, 0, [])
      (fun k => k.2.1 = p.length ∧ k.2.2 = (c.nums [] p).map intV) (fun k => [(7, .osl (.loc 2) k.1 0 k.2.1)]) (fun k => [some (.box (opV o).cells), some (.box (chgV c).cells), some (.vec k.1 1 k.2.2)]) 300 (fun _ => rfl) (fun _ => rfl) (fun _ => rfl) (fun _ => rfl) ⟨⟨Nat.zero_le _, rfl, rfl⟩, ⟨⟨rfl, rfl⟩, ⟨rfl, rfl⟩, ⟨rfl, rfl⟩, ⟨rfl, rfl⟩, ⟨rfl, rfl⟩, ⟨rfl, rfl⟩, trivial⟩, ⟨⟨rfl, rfl⟩, ⟨rfl, rfl⟩, ⟨rfl, rfl⟩, trivial⟩⟩ ?_ ?_
    · rintro ⟨g, n, xs⟩ ⟨j1, j2⟩
      simp only at j1 j2
      subst j1 j2
      refine ⟨trivial, rfl, rfl, g, ?_, rfl⟩
      simp [resV, nums_len]
    · rintro ⟨i, g, n, xs⟩ ⟨j1, j2, j3⟩ next post
      simp only at j1 j2 j3
      subst j2
      replace j3 := j3.symm
      subst j3
      refine ⟨fun hlt => go 300 ?_, fun hge => go 300 ?_⟩
      · have hi : i < p.length := by simpa using hlt
        have hx : (p.map intV)[i]? = some (intV p[i]) := by simp [hi]
        have hbd := hpb _ (List.getElem_mem hi)
        have hnum := w_number c (p.take i) p[i] (by simp; omega) ⟨by omega, by omega⟩
        have et : V.sl 1 (((p.map intV).drop (Int.toNat 0)).take (((i : Nat) : Int).toNat - Int.toNat 0)) = pathV (p.take i) := by
          unfold pathV
          simp
        refine ⟨fun q => absurd (lt_of q) (by omega), fun _ => go 300 ?_⟩
        show Goes _ _ _ _
        refine goes_draw 300 ?_
        refine ⟨by decide, Int.natCast_nonneg i, Int.ofNat_le.2 (by simpa using j1), ?_⟩
        refine ⟨Int.natCast_nonneg i, _, hx, ?_⟩
        have hnum' := hnum
        rw [← et] at hnum'
        refine ⟨_, hnum', rfl, ?_⟩
        have hcl : (c.nums [] (p.take i)).length = i := by rw [nums_len]; simp; omega
        refine ⟨rfl, ⟨rfl, trivial⟩, ?_⟩
        refine ⟨rfl, rfl, rfl, rfl, by simp [hcl], room_of (by simp [hcl]; omega) (by decide), ?_⟩
        refine ⟨by kernel_rfl, ?_⟩
        try refine ⟨by kernel_rfl, ?_⟩
        refine ⟨⟨by omega, by omega⟩, ?_⟩
        refine next (i + 1, bump g, i + 1, (c.nums [] (p.take i)).map intV ++ [intV (c.number (p.take i) p[i])]) _ _ ⟨⟨hi, ?_, rfl⟩, ?_, ?_, ?_⟩
        · simp only
          rw [nums_take c hi, List.map_append]
          rfl
        · simp only; omega
        · refine ⟨⟨rfl, rfl⟩, ⟨rfl, rfl⟩, ⟨?_, rfl⟩, ⟨rfl, rfl⟩, ⟨rfl, rfl⟩, ⟨rfl, rfl⟩, trivial⟩
          simp [hcl]
          rfl
        · refine ⟨⟨rfl, rfl⟩, ⟨rfl, rfl⟩, ⟨?_, rfl⟩, trivial⟩
          rfl
      · have hi : i = p.length := by have : p.length ≤ i := by simpa using hge
                                     omega
        subst hi
        rw [List.take_length]
        exact post (g, _, _) _ _ _ rfl ⟨⟨rfl, rfl⟩, ⟨⟨rfl, rfl⟩, trivial⟩, ⟨⟨rfl, rfl⟩, ⟨rfl, rfl⟩, ⟨rfl, rfl⟩, trivial⟩⟩
end Bow
/- W51: shift.Node, all; Gap; Undo. -/
namespace Bow
open Go Go.Proofs

theorem moves_parts {o : OpT} (h : movesO o = true) : formedB o = true ∧ (o.kind = 1 ∨ (o.kind = 2 ∧ o.path ≠ []) ∨ (o.kind = 3 ∧ o.path ≠ [] ∧ within o.path o.to = false)) := by
  have hne := moves_ne h
  unfold movesO at h
  rw [Bool.and_eq_true] at h
  refine ⟨h.1, ?_⟩
  have h2 := h.2
  by_cases k1 : o.kind = 1
  · exact .inl k1
  · by_cases k2 : o.kind = 2
    · exact .inr (.inl ⟨k2, hne k1⟩)
    · rw [decide_eq_false k1, decide_eq_false k2] at h2
      by_cases k3 : o.kind = 3
      · rw [decide_eq_true k3] at h2
        simp only [cond_false, cond_true, Bool.and_eq_true, Bool.not_eq_true'] at h2
        exact .inr (.inr ⟨k3, hne k1, h2.2⟩)
      · rw [decide_eq_false k3] at h2
        cases h2
theorem may_len {p : List Int} (h : mayP p = true) : p.length ≤ 64 := by
  unfold mayP at h
  rw [Bool.and_eq_true] at h
  exact of_decide_eq_true h.1
theorem formed_gap {o : OpT} (hf : formedB o = true) (hk : o.kind = 1 ∨ o.kind = 3) : 0 ≤ o.at_ ∧ o.at_ ≤ 1048576 := by
  unfold formedB at hf
  rw [Bool.and_eq_true] at hf
  have hf2 := hf.2
  rcases hk with hk | hk
  · simp only [hk] at hf2
    have hf3 : (gapOk o.at_ && decide ((o.label.length : Int) ≤ 64)) = true := hf2
    unfold gapOk at hf3
    simp only [Bool.and_eq_true, decide_eq_true_eq] at hf3
    exact hf3.1
  · simp only [hk] at hf2
    have hf3 : (gapOk o.at_ && mayP o.to) = true := hf2
    unfold gapOk at hf3
    simp only [Bool.and_eq_true, decide_eq_true_eq] at hf3
    exact hf3.1

def nodeRV : Option (List Int) → V
  | none => .tup [pathV [], .ff]
  | some q => .tup [pathV q, .tt]

set_option maxHeartbeats 4000000 in
set_option maxRecDepth 100000 in
/-- Of a node that is taken. -/
theorem w_NodeT (o : OpT) (p : List Int) (ho : o.Ok) (hp : p.length ≤ 1000) (_hpb : ∀ i ∈ p, 0 ≤ i ∧ i ≤ 1048576) (hm : movesO o = true) (hb : ((chgO o).takes && within o.path p) = true) :
    Pure Tryz.prog 212 [opV o, pathV p] (fun x => x = nodeRV (nodeP o p)) := by
  simp only [Bool.and_eq_true] at hb
  obtain ⟨ht, hwi⟩ := hb
  obtain ⟨hf, hkk⟩ := moves_parts hm
  have hpl := may_step (formed_path hf)
  have hwl := within_len hwi
  refine pure_wk (pure_fn 300 Tryz.func212 rfl rfl rfl fun B => ?_)
  show CallThen _ _ _ _ _ _
  refine call_pure (w_moves o ho) rfl ?_
  rintro x rfl
  refine ⟨fun g1 => absurd hm (by simpa using g1), fun g1 => go 300 ?_⟩
  show CallThen _ _ _ _ _ _
  refine call_pure (w_chgOf o ho (moves_ne hm)) rfl ?_
  rintro x rfl
  refine ⟨fun _ => go 300 ?_, fun q => absurd (ht.symm.trans q) (by decide)⟩
  show CallThen _ _ _ _ _ _
  refine call_pure (w_pathWithin o.path p ho.lt.path) rfl ?_
  rintro x rfl
  refine ⟨fun _ => go 300 ?_, fun q => absurd (hwi.symm.trans q) (by decide)⟩
  rcases Bool.eq_false_or_eq_true (chgO o).puts with hq | hq
  case inr =>
    have e : nodeP o p = none := by unfold nodeP; rw [hm, ht, hwi, hq]; rfl
    rw [e]
    refine ⟨fun _ => go 300 ?_, fun q => absurd q (by rw [hq]; simp)⟩
    exact ⟨trivial, rfl, rfl, rfl, nodeRV none, Wk.tup ⟨Wk.nil 1, .refl _, trivial⟩, rfl, rfl⟩
  have e : nodeP o p = some ((chgO o).nums [] o.to ++ [(chgO o).land] ++ p.drop o.path.length) := by unfold nodeP; rw [hm, ht, hwi, hq]; rfl
  rw [e]
  refine ⟨fun q => absurd q (by rw [hq]; simp), fun _ => go 300 ?_⟩
  have hk3 : o.kind = 3 ∧ o.path ≠ [] ∧ within o.path o.to = false := by
    rcases hkk with k | ⟨k, _⟩ | h
    · unfold chgO at ht; simp [k] at ht
    · unfold chgO at hq; simp [k] at hq
    · exact h
  obtain ⟨hk3, hne, hwt⟩ := hk3
  have htl := may_step (good_to hf hk3)
  have htn : o.to.length ≤ 64 := may_len (good_to hf hk3)
  have hgap := formed_gap hf (.inr hk3)
  have hrec := w_Node0 o o.to ho (by omega) htl hm (by rw [hwt]; simp)
  have hpos : 0 < o.path.length := List.length_pos_iff.2 hne
  have hcf : (chgO o).frm.length ≤ 1000000 := by unfold chgO; simp [hk3]; have := ho.lt.path; omega
  have hcg : (chgO o).gap = o.at_ := rfl
  have hland := w_land (chgO o) hcf ⟨by rw [hcg]; omega, by rw [hcg]; omega⟩
  unfold NodeM at hrec
  obtain ⟨c, hc⟩ : ∃ c, chgO o = c := ⟨_, rfl⟩
  rw [hc] at hrec hland ⊢
  show CallThen _ _ _ _ _ _
  refine call_sub [] hrec rfl rfl trivial rfl rfl rfl ?_
  rintro x T1 ⟨G, rfl, rfl⟩
  refine ⟨rfl, ?_⟩
  show CallThen _ _ _ _ _ _
  refine call_pure hland rfl ?_
  rintro x rfl
  refine ⟨⟨rfl, trivial⟩, rfl, rfl, rfl, by simp, room_of (by simp [nums_len]; omega) (by decide), ?_⟩
  show Goes _ _ _ _
  refine goes_while (ι := Nat × Nat × Nat × List V) (κ := Nat × Nat × List V) (fun i => o.path.length ≤ i.1 ∧ i.1 ≤ p.length ∧ ∃ acc : List Int, i.2.2.2 = acc.map intV ∧ i.2.2.1 = acc.length ∧ acc.length ≤ 1000 + i.1 ∧ acc ++ p.drop i.1 = c.nums [] o.to ++ [c.land] ++ p.drop o.path.length) (fun i => p.length - i.1)
    (fun i => [(9, .int .i64 i.1), (8, .int .i64 (o.path.map intV).length), (7, .osl (.loc 4) i.2.1 0 i.2.2.1), (6, .ptr (.loc 1) 0), (1, pathV p), (2, .ptr (.loc 0) 0)]) (fun i => [some (.box (opV o).cells), some (.box (chgV c).cells), some (.box (opV o).cells), some (.box (chgV c).cells), some (.vec i.2.1 1 i.2.2.2)]) ((o.path.map intV).length, bump G, _, _)
    (fun k => ∃ acc : List Int, k.2.2 = acc.map intV ∧ k.2.1 = acc.length ∧ acc = c.nums [] o.to ++ [c.land] ++ p.drop o.path.length) (fun k => [(7, .osl (.loc 4) k.1 0 k.2.1)]) (fun k => [some (.box (opV o).cells), some (.box (chgV c).cells), some (.box (opV o).cells), some (.box (chgV c).cells), some (.vec k.1 1 k.2.2)]) 300 (fun _ => rfl) (fun _ => rfl) (fun _ => rfl) (fun _ => rfl) ⟨⟨by simp, by simpa using hwl, c.nums [] o.to ++ [c.land], by simp [intV], by simp, by simp [nums_len]; omega, by simp⟩, ⟨⟨rfl, rfl⟩, ⟨rfl, rfl⟩, ⟨rfl, rfl⟩, ⟨rfl, rfl⟩, ⟨rfl, rfl⟩, ⟨rfl, rfl⟩, trivial⟩, ⟨⟨rfl, rfl⟩, ⟨rfl, rfl⟩, ⟨rfl, rfl⟩, ⟨rfl, rfl⟩, ⟨rfl, rfl⟩, trivial⟩⟩ ?_ ?_
  · rintro ⟨g, n, xs⟩ ⟨acc, h1, h2, h3⟩
    simp only at h1 h2 h3
    subst h1 h2 h3
    exact ⟨trivial, rfl, rfl, rfl, by simp, rfl, nodeRV (some _), Wk.refl _, rfl, rfl⟩
  · rintro ⟨i, g, n, xs⟩ ⟨j0, j1, acc, j4, j5, j2, j3⟩ next post
    simp only at j0 j1 j2 j3 j4 j5
    subst j4
    subst j5
    refine ⟨fun hlt => go 300 ?_, fun hge => go 300 ?_⟩
    · have hi : i < p.length := by simpa using hlt
      have hx : (p.map intV)[i]? = some (intV p[i]) := by simp [hi]
      rw [List.drop_eq_getElem_cons hi] at j3
      refine ⟨fun _ => go 300 ?_, fun q => absurd (not_lt_of q) (by simp; omega)⟩
      refine ⟨Int.natCast_nonneg i, _, hx, ⟨rfl, trivial⟩, rfl, rfl, rfl, by simp, room_of (by simp; omega) (by decide), ?_⟩
      refine ⟨by constructor <;> omega, ?_⟩
      show Goes _ _ _ _
      refine next (i + 1, bump g, _, _) _ _ ⟨⟨by simp only; omega, hi, acc ++ [p[i]], ?_, ?_, ?_, ?_⟩, ?_, ⟨⟨rfl, rfl⟩, ⟨rfl, rfl⟩, ⟨rfl, rfl⟩, ⟨rfl, rfl⟩, ⟨rfl, rfl⟩, ⟨rfl, rfl⟩, trivial⟩, ⟨⟨rfl, rfl⟩, ⟨rfl, rfl⟩, ⟨rfl, rfl⟩, ⟨rfl, rfl⟩, ⟨rfl, rfl⟩, trivial⟩⟩
      · simp [intV]
      · simp
      · simp; omega
      · rw [← j3]; simp
      · simp only; omega
    · have hi : i = p.length := by have : p.length ≤ i := by simpa using hge
                                   omega
      subst hi
      rw [List.drop_length, List.append_nil] at j3
      exact post (g, _, _) _ _ _ rfl ⟨⟨acc, rfl, rfl, j3⟩, ⟨⟨rfl, rfl⟩, trivial⟩, ⟨⟨rfl, rfl⟩, ⟨rfl, rfl⟩, ⟨rfl, rfl⟩, ⟨rfl, rfl⟩, ⟨rfl, rfl⟩, trivial⟩⟩

theorem w_Node (o : OpT) (p : List Int) (ho : o.Ok) (hp : p.length ≤ 1000) (hpb : ∀ i ∈ p, 0 ≤ i ∧ i ≤ 1048576) : Pure Tryz.prog 212 [opV o, pathV p] (fun x => x = nodeRV (nodeP o p)) := by
  rcases Bool.eq_false_or_eq_true (movesO o) with hm | hm
  · rcases Bool.eq_false_or_eq_true ((chgO o).takes && within o.path p) with hb | hb
    · exact w_NodeT o p ho hp hpb hm hb
    · have e : nodeP o p = some ((chgO o).nums [] p) := by unfold nodeP; simp only [hm, hb]; rfl
      rw [e]
      refine pure_wk (pure_of_fun (Fun.mono (w_Node0 o p ho (by omega) hpb hm hb) fun x T h => ?_))
      obtain ⟨g, rfl, rfl⟩ := h
      exact ⟨rfl, by simp, rfl, nodeRV (some _), Wk.refl _, rfl, rfl⟩
  · have e : nodeP o p = some p := by unfold nodeP; rw [hm]; rfl
    rw [e]
    refine pure_wk (pure_of_fun (Fun.mono (w_NodeStay o p ho (by omega) hm) fun x T h => ?_))
    rcases h with ⟨rfl, rfl, rfl⟩ | ⟨g, rfl, rfl⟩
    · exact ⟨rfl, nodeRV (some []), Wk.tup ⟨Wk.nil 1, .refl _, trivial⟩, rfl, rfl⟩
    · exact ⟨rfl, by simp, rfl, nodeRV (some _), Wk.refl _, rfl, rfl⟩
end Bow
/- W52: shift.Gap, Undo; square.sound, drop, shifted, won. -/
namespace Bow
open Go Go.Proofs

def gapV (r : List Int × Int × Bool) : V := .tup [pathV r.1, .int .i64 r.2.1, .bool r.2.2]
theorem gap_leaf {q : List Int} {n : Int} {r : List Int × Int × Bool} (h : r = (q, n, true)) : ∃ y, Wk (.tup [pathV q, .int .i64 n, .tt]) y ∧ y.pureB = true ∧ y = gapV r := by
  subst h
  exact ⟨gapV (q, n, true), Wk.tup ⟨.refl _, .refl _, Wk.tt, trivial⟩, rfl, rfl⟩

set_option maxHeartbeats 4000000 in
set_option maxRecDepth 100000 in
theorem w_Gap (a : OpT) (p : List Int) (at_ : Int) (first : Bool) (ho : a.Ok) (hp : p.length ≤ 1000) (hpb : ∀ i ∈ p, 0 ≤ i ∧ i ≤ 1048576) (hat : 0 ≤ at_ ∧ at_ ≤ 10000000) :
    Pure Tryz.prog 237 [opV a, pathV p, .int .i64 at_, .bool first] (fun x => x = gapV (gapP a p at_ first)) := by
  refine pure_wk (pure_fn 300 Tryz.func237 rfl rfl rfl fun B => ?_)
  show CallThen _ _ _ _ _ _
  refine call_pure (w_Node a p ho hp hpb) rfl ?_
  rintro x rfl
  have hmv := w_moves a ho
  cases hn : nodeP a p with
  | none =>
    have e : gapP a p at_ first = ([], 0, false) := by unfold gapP; rw [hn]
    rw [e]
    exact ⟨trivial, rfl, rfl, rfl, gapV ([], 0, false), Wk.tup ⟨.refl _, .refl _, Wk.ff, trivial⟩, rfl, rfl⟩
  | some q =>
    show CallThen _ _ _ _ _ _
    refine call_pure hmv rfl ?_
    rintro x rfl
    refine ⟨fun g1 => go 300 ?_, fun g1 => go 300 ?_⟩
    · have hm : movesO a = false := by simpa using g1
      refine ⟨trivial, rfl, rfl, rfl, gap_leaf ?_⟩
      unfold gapP
      rw [hn, hm]
      rfl
    have hm : movesO a = true := by simpa using g1
    show CallThen _ _ _ _ _ _
    refine call_pure (w_chgOf a ho (moves_ne hm)) rfl ?_
    rintro x rfl
    have e : gapP a p at_ first = (q, (bif (chgO a).takes && (decide ((chgO a).at_ < at_) && decide (p = (chgO a).frm)) then at_ - 1 else at_) + (bif (chgO a).puts && (decide (p = (chgO a).to) && (decide ((chgO a).gap < at_) || (decide (at_ = (chgO a).gap) && !first))) then 1 else 0), true) := by
      unfold gapP
      rw [hn, hm]
      rfl
    rw [e]
    obtain ⟨c, hc⟩ : ∃ c, chgO a = c := ⟨_, rfl⟩
    rw [hc]
    have h1 := w_pathSame p c.frm (by omega)
    have h2 := w_pathSame p c.to (by omega)
    repeat' first
      | (refine ⟨fun _ => go 300 ?_, fun _ => go 300 ?_⟩)
      | (show CallThen _ _ _ _ _ _; refine call_pure h1 rfl ?_; rintro z rfl)
      | (show CallThen _ _ _ _ _ _; refine call_pure h2 rfl ?_; rintro z rfl)
      | (refine ⟨trivial, rfl, rfl, rfl, gap_leaf ?_⟩)
      | (refine ⟨by constructor <;> omega, ?_⟩)
      | fail
    all_goals (clear hmv h1 h2 e; simp_all)
    all_goals ((try simp only [Bool.cond_decide]); (repeat' split) <;> first | omega | (simp_all; done) | skip)
    all_goals (first | (simp [show ¬ (c.at_ < at_) by omega]; done) | (simp [show ¬ (c.at_ < c.gap) by omega]; done) | (simp [show ¬ (c.at_ < at_) by omega, show ¬ (c.gap < at_) by omega]; done))

theorem wk_zeroOp : Wk (.agg [.int .u8 0, .nilsl, .int .i64 0, .nilsl, .int .u64 0, .ff, .str [], .str [], .str [], .ff, .nilsl]) (opV (noOp 0)) :=
  Wk.agg ⟨.refl _, Wk.nil 1, .refl _, Wk.nil 1, .refl _, Wk.ff, .refl _, .refl _, .refl _, Wk.ff, Wk.nil 3, trivial⟩

set_option maxRecDepth 100000 in
theorem w_sound (o : OpT) (ho : o.Ok) : Pure Tryz.prog 180 [opV o] (fun x => x = .bool (soundO o)) := by
  refine pure_wk (pure_fn 300 Tryz.func180 rfl rfl rfl fun B => ?_)
  show CallThen _ _ _ _ _ _
  refine call_pure (w_Formed o ho.lt ho.each) rfl ?_
  rintro x rfl
  have hW := w_pathWithin o.path o.to ho.lt.path
  repeat' first
    | (refine ⟨fun _ => go 300 ?_, fun _ => go 300 ?_⟩)
    | (show CallThen _ _ _ _ _ _; refine call_pure hW rfl ?_; rintro z rfl)
    | (refine ⟨trivial, rfl, rfl, rfl, leaf_tt ?_⟩)
    | (refine ⟨trivial, rfl, rfl, rfl, leaf_ff ?_⟩)
    | (refine ⟨trivial, rfl, rfl, rfl, leaf_b ?_⟩)
    | fail
  all_goals (unfold soundO; simp_all)

theorem w_drop (p : List Int) : Pure Tryz.prog 213 [pathV p] (fun x => x = opV (dropO p)) := by
  refine pure_wk (pure_fn 300 Tryz.func213 rfl rfl rfl fun B => ?_)
  exact ⟨trivial, rfl, rfl, rfl, opV (dropO p), Wk.agg ⟨.refl _, .refl _, .refl _, Wk.nil 1, .refl _, Wk.ff, .refl _, .refl _, .refl _, Wk.ff, Wk.nil 3, trivial⟩, rfl, rfl⟩

set_option maxRecDepth 100000 in
theorem w_won (b a : OpT) (ha : a.Ok) : Pure Tryz.prog 214 [opV b, opV a] (fun x => x = .bool (wonO b a)) := by
  refine pure_wk (pure_fn 300 Tryz.func214 rfl rfl rfl fun B => ?_)
  have h1 := w_pathSame a.path b.path ha.lt.path
  repeat' first
    | (refine ⟨fun _ => go 300 ?_, fun _ => go 300 ?_⟩)
    | (show CallThen _ _ _ _ _ _; refine call_pure h1 rfl ?_; rintro z rfl)
    | (refine ⟨trivial, rfl, rfl, rfl, leaf_tt ?_⟩)
    | (refine ⟨trivial, rfl, rfl, rfl, leaf_ff ?_⟩)
    | (refine ⟨trivial, rfl, rfl, rfl, leaf_b ?_⟩)
    | fail
  all_goals (unfold wonO; simp_all)

/-- The path behind, of a node that is there. -/
theorem nodeRV_get {r : Option (List Int)} : ∃ b : V, nodeRV r = .tup [pathV (r.getD []), b] ∧ (b = .tt ∨ b = .ff) := by
  cases r with
  | none => exact ⟨.ff, rfl, .inr rfl⟩
  | some q => exact ⟨.tt, rfl, .inl rfl⟩

set_option maxHeartbeats 4000000 in
set_option maxRecDepth 100000 in
theorem w_shifted (b a : OpT) (prior : Bool) (ha : a.Ok) (_hb : b.Ok) (hf : formedB b = true) :
    Pure Tryz.prog 216 [opV b, opV a, .bool prior] (fun x => x = opV (shiftedO b a prior)) := by
  have hpl := may_len (formed_path hf)
  have hps := may_step (formed_path hf)
  refine pure_fn 300 Tryz.func216 rfl rfl rfl fun B => ?_
  show CallThen _ _ _ _ _ _
  refine call_pure (w_Node a b.path ha (by omega) hps) rfl ?_
  rintro x rfl
  obtain ⟨v, e, hv⟩ := nodeRV_get (r := nodeP a b.path)
  rw [e]
  rcases hv with rfl | rfl
  all_goals
    refine ⟨fun g1 => go 300 ?_, fun g1 => go 300 ?_⟩
    · have hk : b.kind = 1 := eq_of g1
      have hg := formed_gap hf (.inl hk)
      show CallThen _ _ _ _ _ _
      refine call_pure (w_Gap a b.path b.at_ prior ha (by omega) hps ⟨by omega, by omega⟩) rfl ?_
      rintro x rfl
      refine ⟨trivial, rfl, rfl, rfl, ?_⟩
      unfold shiftedO
      rw [decide_eq_true hk]
      rfl
    have hk1 : b.kind ≠ 1 := ne_of g1
    refine ⟨fun g2 => go 300 ?_, fun g2 => go 300 ?_⟩
    · have hk : b.kind = 3 := eq_of g2
      have hg := formed_gap hf (.inr hk)
      have htl := may_len (good_to hf hk)
      have hts := may_step (good_to hf hk)
      show CallThen _ _ _ _ _ _
      refine call_pure (w_Gap a b.to b.at_ prior ha (by omega) hts ⟨by omega, by omega⟩) rfl ?_
      rintro x rfl
      refine ⟨trivial, rfl, rfl, rfl, ?_⟩
      unfold shiftedO
      rw [decide_eq_false hk1, decide_eq_true hk]
      rfl
    · have hk3 : b.kind ≠ 3 := ne_of g2
      refine ⟨trivial, rfl, rfl, rfl, ?_⟩
      unfold shiftedO
      rw [decide_eq_false hk1, decide_eq_false hk3]
      rfl

set_option maxHeartbeats 4000000 in
set_option maxRecDepth 100000 in
theorem w_UndoM (o : OpT) (ho : o.Ok) : Pure Tryz.prog 215 [opV o] (fun x => x = opV (undoO o)) := by
  refine pure_wk (pure_fn 300 Tryz.func215 rfl rfl rfl fun B => ?_)
  have z : undoO o = noOp 0 → ∃ y, Wk (.agg [.int .u8 0, .nilsl, .int .i64 0, .nilsl, .int .u64 0, .ff, .str [], .str [], .str [], .ff, .nilsl]) y ∧ y.pureB = true ∧ y = opV (undoO o) := fun h => ⟨opV (noOp 0), wk_zeroOp, rfl, by rw [h]⟩
  refine ⟨fun g1 => go 300 ?_, fun g1 => go 300 ?_⟩
  · have hk : o.kind ≠ 3 := ne_of' g1
    exact ⟨trivial, rfl, rfl, rfl, z (by unfold undoO; rw [decide_eq_false hk]; rfl)⟩
  have hk : o.kind = 3 := eq_of' g1
  show CallThen _ _ _ _ _ _
  refine call_pure (w_moves o ho) rfl ?_
  rintro x rfl
  refine ⟨fun g2 => go 300 ?_, fun g2 => go 300 ?_⟩
  · have hm : movesO o = false := by simpa using g2
    exact ⟨trivial, rfl, rfl, rfl, z (by unfold undoO; rw [hm]; simp)⟩
  have hm : movesO o = true := by simpa using g2
  obtain ⟨hf, hkk⟩ := moves_parts hm
  have hpl := may_len (formed_path hf)
  have hps := may_step (formed_path hf)
  have hfrm : (chgO o).frm = o.path.dropLast := by unfold chgO; simp [hk]
  have hfs : ∀ i ∈ (chgO o).frm, 0 ≤ i ∧ i ≤ 1048576 := fun i hi => hps i (by rw [hfrm] at hi; exact List.dropLast_subset _ hi)
  have hfl : (chgO o).frm.length ≤ 1000 := by rw [hfrm]; simp; omega
  have hgap := formed_gap hf (.inr hk)
  have hne := moves_ne hm (by rw [hk]; decide)
  have hat : 0 ≤ (chgO o).at_ ∧ (chgO o).at_ ≤ 1048576 := by
    have : (chgO o).at_ = lastP o.path := by unfold chgO; simp [hk]
    rw [this, ← lastP_eq hne]
    exact hps _ (List.getLast_mem hne)
  have hcg : (chgO o).gap = o.at_ := rfl
  have hland := w_land (chgO o) (by omega) ⟨by rw [hcg]; omega, by rw [hcg]; omega⟩
  show CallThen _ _ _ _ _ _
  refine call_pure (w_chgOf o ho (moves_ne hm)) rfl ?_
  rintro x rfl
  show CallThen _ _ _ _ _ _
  refine call_pure (w_Node o o.path ho (by omega) hps) rfl ?_
  rintro x rfl
  obtain ⟨v, e, hv⟩ := nodeRV_get (r := nodeP o o.path)
  rw [e]
  have fin : ∀ n : Int, n = (chgO o).at_ + (bif decide ((chgO o).frm = (chgO o).to) && decide ((chgO o).land < (chgO o).at_) then 1 else 0) →
      ∃ y, Wk (.agg [.int .u8 3, pathV ((nodeP o o.path).getD []), .int .i64 n, pathV ((nodeP o (chgO o).frm).getD []), .int .u64 0, .ff, .str [], .str [], .str [], .ff, .nilsl]) y ∧ y.pureB = true ∧ y = opV (undoO o) := fun n hn =>
    ⟨opV (undoO o), by
      have : undoO o = { noOp 3 with path := (nodeP o o.path).getD [], to := (nodeP o (chgO o).frm).getD [], at_ := n } := by unfold undoO; rw [decide_eq_true hk, hm, hn]; rfl
      rw [this]
      exact Wk.agg ⟨.refl _, .refl _, .refl _, .refl _, .refl _, Wk.ff, .refl _, .refl _, .refl _, Wk.ff, Wk.nil 3, trivial⟩, rfl, rfl⟩
  rcases hv with rfl | rfl
  all_goals
    show CallThen _ _ _ _ _ _
    refine call_pure (w_Node o (chgO o).frm ho hfl hfs) rfl ?_
    rintro x rfl
    obtain ⟨v2, e2, hv2⟩ := nodeRV_get (r := nodeP o (chgO o).frm)
    rw [e2]
    rcases hv2 with rfl | rfl
    all_goals
      show CallThen _ _ _ _ _ _
      refine call_pure (w_pathSame (chgO o).frm (chgO o).to (by omega)) rfl ?_
      rintro x rfl
      refine ⟨fun q1 => go 300 ?_, fun q1 => go 300 ?_⟩
      · show CallThen _ _ _ _ _ _
        refine call_pure hland rfl ?_
        rintro x rfl
        refine ⟨fun q2 => go 300 ?_, fun q2 => go 300 ?_⟩
        · refine ⟨by constructor <;> omega, ?_⟩
          exact ⟨trivial, rfl, rfl, rfl, fin _ (by rw [q1, q2]; rfl)⟩
        · exact ⟨trivial, rfl, rfl, rfl, fin _ (by rw [q1, q2]; simp)⟩
      · exact ⟨trivial, rfl, rfl, rfl, fin _ (by rw [q1]; simp)⟩
end Bow
/- W53: square.row (but for two edits), Behind, Both. -/
namespace Bow
open Go Go.Proofs

theorem nodeP_len (o : OpT) (p : List Int) : ((nodeP o p).getD []).length ≤ p.length + o.to.length + 1 := by
  unfold nodeP
  cases movesO o with
  | false => simp; omega
  | true =>
    cases (chgO o).takes && within o.path p with
    | false => simp [nums_len]; omega
    | true =>
      cases (chgO o).puts with
      | false => simp
      | true => simp [nums_len]; omega
theorem gapP_len (o : OpT) (p : List Int) (n : Int) (f : Bool) : (gapP o p n f).1.length ≤ p.length + o.to.length + 1 := by
  have h := nodeP_len o p
  unfold gapP
  cases hn : nodeP o p with
  | none => simp
  | some q =>
    rw [hn] at h
    simp only [Option.getD_some] at h
    cases movesO o <;> simpa using h
theorem drop_ok {p : List Int} (h : p.length ≤ 1000000) : (dropO p).Ok := ⟨⟨h, Nat.zero_le _, Nat.zero_le _, Nat.zero_le _, Nat.zero_le _, Nat.zero_le _⟩, Nat.zero_le _⟩
theorem shifted_ok {b a : OpT} {prior : Bool} (_ha : a.Ok) (hb : b.Ok) (hp : b.path.length ≤ 1000) (ht : b.to.length ≤ 1000) (hat : a.to.length ≤ 1000) : (shiftedO b a prior).Ok := by
  have h1 := nodeP_len a b.path
  have h2 := gapP_len a b.to b.at_ prior
  unfold shiftedO
  cases decide (b.kind = 1) with
  | true => exact ⟨⟨by show ((nodeP a b.path).getD []).length ≤ _; omega, hb.lt.to, hb.lt.label, hb.lt.key, hb.lt.value, hb.lt.pieces⟩, hb.puts⟩
  | false =>
    cases decide (b.kind = 3) with
    | true => exact ⟨⟨by show ((nodeP a b.path).getD []).length ≤ _; omega, by show (gapP a b.to b.at_ prior).1.length ≤ _; omega, hb.lt.label, hb.lt.key, hb.lt.value, hb.lt.pieces⟩, hb.puts⟩
    | false => exact ⟨⟨by show ((nodeP a b.path).getD []).length ≤ _; omega, hb.lt.to, hb.lt.label, hb.lt.key, hb.lt.value, hb.lt.pieces⟩, hb.puts⟩

theorem number_steps {c : Chg} (h : 0 ≤ c.at_) {p : List Int} {k : Int} (hk : 0 ≤ k ∧ k ≤ 1048575) : 0 ≤ c.number p k ∧ c.number p k ≤ 1048576 := by
  unfold Chg.number
  by_cases h1 : c.at_ < k
  · cases c.takes <;> cases c.puts <;> cases decide (p = c.frm) <;> cases decide (c.gap ≤ k) <;> cases decide (p = c.to) <;> simp [h1] <;> omega
  · cases c.takes <;> cases c.puts <;> cases decide (p = c.frm) <;> cases decide (c.gap ≤ k) <;> cases decide (p = c.to) <;> simp [h1] <;> omega
theorem nums_steps {c : Chg} (h : 0 ≤ c.at_) : ∀ (p q : List Int), (∀ i ∈ p, 0 ≤ i ∧ i ≤ 1048575) → ∀ i ∈ c.nums q p, 0 ≤ i ∧ i ≤ 1048576
  | [], _, _, i, hi => by cases hi
  | k :: p, q, hp, i, hi => by
    rw [Chg.nums] at hi
    rcases List.mem_cons.1 hi with rfl | hi
    · exact number_steps h (hp k List.mem_cons_self)
    · exact nums_steps h p _ (fun j hj => hp j (List.mem_cons_of_mem _ hj)) i hi
theorem may_strict {p : List Int} (h : mayP p = true) : ∀ i ∈ p, 0 ≤ i ∧ i ≤ 1048575 := by
  unfold mayP at h
  rw [Bool.and_eq_true] at h
  intro i hi
  have := List.all_eq_true.1 h.2 i hi
  unfold stepOk at this
  simp only [Bool.and_eq_true, decide_eq_true_eq] at this
  omega
theorem chg_at {o : OpT} (h : movesO o = true) : 0 ≤ (chgO o).at_ := by
  obtain ⟨hf, hkk⟩ := moves_parts h
  have hne := moves_ne h
  by_cases k1 : o.kind = 1
  · unfold chgO; simp [k1]
  · have : (chgO o).at_ = lastP o.path := by unfold chgO; simp [k1]
    rw [this, ← lastP_eq (hne k1)]
    exact (may_step (formed_path hf) _ (List.getLast_mem (hne k1))).1
theorem node_steps {a : OpT} {p : List Int} (hp : ∀ i ∈ p, 0 ≤ i ∧ i ≤ 1048575) : ∀ i ∈ (nodeP a p).getD [], 0 ≤ i ∧ i ≤ 1048576 := by
  intro i hi
  unfold nodeP at hi
  cases hm : movesO a with
  | false =>
    rw [hm] at hi
    have := hp i hi
    omega
  | true =>
    rw [hm] at hi
    have hat := chg_at hm
    obtain ⟨hf, hkk⟩ := moves_parts hm
    cases ht : (chgO a).takes && within a.path p with
    | false =>
      rw [ht] at hi
      exact nums_steps hat p [] hp i hi
    | true =>
      rw [ht] at hi
      cases hq : (chgO a).puts with
      | false => rw [hq] at hi; cases hi
      | true =>
        rw [hq] at hi
        rw [Bool.and_eq_true] at ht
        have hk3 : a.kind = 3 := by
          rcases hkk with k | ⟨k, _⟩ | h
          · have := ht.1; unfold chgO at this; simp [k] at this
          · unfold chgO at hq; simp [k] at hq
          · exact h.1
        have hts := may_strict (good_to hf hk3)
        have hgap := formed_gap hf (.inr hk3)
        have hi : i ∈ (chgO a).nums [] a.to ++ [(chgO a).land] ++ p.drop a.path.length := hi
        rcases List.mem_append.1 hi with hi | hi
        · rcases List.mem_append.1 hi with hi | hi
          · exact nums_steps hat a.to [] hts i hi
          · rw [List.mem_singleton] at hi
            have e : (chgO a).gap = a.at_ := rfl
            rw [hi]
            unfold Chg.land
            by_cases h1 : (chgO a).at_ < (chgO a).gap
            · cases decide ((chgO a).frm = (chgO a).to) <;> simp [h1] <;> omega
            · simp [h1]; omega
        · have := hp i (List.mem_of_mem_drop hi)
          omega
/-- The path behind, and some truth value. -/
theorem w_NodeB (o : OpT) (p : List Int) (ho : o.Ok) (hp : p.length ≤ 1000) (hpb : ∀ i ∈ p, 0 ≤ i ∧ i ≤ 1048576) : Pure Tryz.prog 212 [opV o, pathV p] (fun x => ∃ q b, (nodeP o p).getD [] = q ∧ x = .tup [pathV q, .bool b]) := by
  refine pure_wk ((w_Node o p ho hp hpb).mono fun x h => ?_)
  subst h
  cases nodeP o p with
  | none => exact ⟨.tup [pathV [], .bool false], Wk.tup ⟨.refl _, Wk.ff, trivial⟩, rfl, [], false, rfl, rfl⟩
  | some q => exact ⟨.tup [pathV q, .bool true], Wk.tup ⟨.refl _, Wk.tt, trivial⟩, rfl, q, true, rfl, rfl⟩

/-- What row hands back: nil, or own memory; ahead of it the boxes that it made. -/
def RowQ (b a : OpT) (l : List OpT) (x : V) (T : Heap) : Prop :=
  (l = [] ∧ x = .tup [.nilsl, .int .i64 0] ∧ T = [some (.box (opV b).cells), some (.box (opV a).cells)]) ∨
  (∃ g, x = .tup [.osl (.loc 2) g 0 l.length, .int .i64 0] ∧ T = [some (.box (opV b).cells), some (.box (opV a).cells), some (.vec g 11 (l.map opV))])

set_option maxHeartbeats 8000000 in
set_option maxRecDepth 100000 in
theorem w_row (b a : OpT) (prior : Bool) (ha : a.Ok) (hb : b.Ok) (sa : soundO a = true) (sb : soundO b = true) (he : bothEdit b a = false) (hto : a.to.length ≤ 1000 ∧ b.to.length ≤ 1000) :
    Fun Tryz.prog 181 [] [opV b, opV a, .bool prior] (RowQ b a (rowO b a prior)) := by
  have fa : formedB a = true := by unfold soundO at sa; rw [Bool.and_eq_true] at sa; exact sa.1
  have fb : formedB b = true := by unfold soundO at sb; rw [Bool.and_eq_true] at sb; exact sb.1
  have pa := may_len (formed_path fa)
  have pb := may_len (formed_path fb)
  have qa := may_step (formed_path fa)
  have qb := may_step (formed_path fb)
  have hnb := nodeP_len a b.path
  have hna := nodeP_len a a.path
  refine fun_fn 300 Tryz.func181 rfl rfl rfl fun imps B hi => ?_
  have : imps = [] := List.length_eq_zero_iff.1 hi
  subst this
  have leafN : rowO b a prior = [] → RowQ b a (rowO b a prior) (.tup [.nilsl, .int .i64 0]) [some (.box (opV b).cells), some (.box (opV a).cells)] := fun h1 => .inl ⟨h1, rfl, rfl⟩
  have leaf1 : ∀ {g : Nat} (o : OpT), rowO b a prior = [o] → RowQ b a (rowO b a prior) (.tup [.osl (.loc 2) g 0 1, .int .i64 0]) [some (.box (opV b).cells), some (.box (opV a).cells), some (.vec g 11 [opV o])] := fun o h1 => .inr ⟨_, by rw [h1]; rfl, by rw [h1]; rfl⟩
  have leaf2 : ∀ {g : Nat} (o o' : OpT), rowO b a prior = [o, o'] → RowQ b a (rowO b a prior) (.tup [.osl (.loc 2) g 0 2, .int .i64 0]) [some (.box (opV b).cells), some (.box (opV a).cells), some (.vec g 11 [opV o, opV o'])] := fun o o' h1 => .inr ⟨_, by rw [h1]; rfl, by rw [h1]; rfl⟩
  have hsh := w_shifted b a prior ha hb fb
  have c1 := w_pathWithin a.path b.path (by omega)
  have c2 := w_pathWithin a.path b.to (by omega)
  have c3 := w_pathWithin b.path a.path (by omega)
  have c4 := w_pathWithin b.path a.to (by omega)
  have c5 := w_pathSame b.path a.path (by omega)
  have c6 := w_pathSame a.path b.path (by omega)
  refine ⟨fun g1 => go 300 ?_, fun g1 => go 300 ?_⟩
  · have k1 : a.kind = 2 := eq_of g1
    show CallThen _ _ _ _ _ _
    refine call_pure c1 rfl ?_
    rintro x rfl
    refine ⟨fun g2 => go 300 ?_, fun g2 => go 300 ?_⟩
    · exact ⟨trivial, rfl, rfl, leafN (by unfold rowO; rw [decide_eq_true k1, g2]; rfl)⟩
    refine ⟨fun g3 => go 300 ?_, fun g3 => go 300 ?_⟩
    · have k3 : b.kind = 3 := eq_of g3
      show CallThen _ _ _ _ _ _
      refine call_pure c2 rfl ?_
      rintro x rfl
      refine ⟨fun g4 => go 300 ?_, fun g4 => go 300 ?_⟩
      · show CallThen _ _ _ _ _ _
        refine call_pure (w_NodeB a b.path ha (by omega) qb) rfl ?_
        rintro x ⟨q1, v, hq1, rfl⟩
        show CallThen _ _ _ _ _ _
        refine call_pure (w_drop q1) rfl ?_
        rintro x rfl
        refine ⟨⟨rfl, trivial⟩, ?_⟩
        exact ⟨trivial, rfl, rfl, leaf1 (dropO q1) (by unfold rowO; rw [decide_eq_true k1, g2, decide_eq_true k3, g4, hq1]; rfl)⟩
      · show CallThen _ _ _ _ _ _
        refine call_pure hsh rfl ?_
        rintro x rfl
        refine ⟨⟨rfl, trivial⟩, ?_⟩
        exact ⟨trivial, rfl, rfl, leaf1 (shiftedO b a prior) (by unfold rowO; rw [decide_eq_true k1, g2, decide_eq_true k3, g4]; rfl)⟩
    · have k3 : b.kind ≠ 3 := ne_of g3
      show CallThen _ _ _ _ _ _
      refine call_pure hsh rfl ?_
      rintro x rfl
      refine ⟨⟨rfl, trivial⟩, ?_⟩
      exact ⟨trivial, rfl, rfl, leaf1 (shiftedO b a prior) (by unfold rowO; rw [decide_eq_true k1, g2, decide_eq_false k3]; rfl)⟩
  have k1 : a.kind ≠ 2 := ne_of g1
  show CallThen _ _ _ _ _ _
  refine call_pure (w_won b a ha) rfl ?_
  rintro x rfl
  refine ⟨fun g2 => go 300 ?_, fun g2 => go 300 ?_⟩
  · refine ⟨fun g3 => go 300 ?_, fun g3 => go 300 ?_⟩
    · have g3 : prior = false := by simpa using g3
      exact ⟨trivial, rfl, rfl, leafN (by unfold rowO; rw [decide_eq_false k1, g2, g3]; rfl)⟩
    · have g3 : prior = true := by simpa using g3
      show CallThen _ _ _ _ _ _
      refine call_pure hsh rfl ?_
      rintro x rfl
      refine ⟨⟨rfl, trivial⟩, ?_⟩
      exact ⟨trivial, rfl, rfl, leaf1 (shiftedO b a prior) (by unfold rowO; rw [decide_eq_false k1, g2]; rw [g3]; rfl)⟩
  refine ⟨fun g3 => go 300 ?_, fun g3 => go 300 ?_⟩
  · have k3 : a.kind ≠ 3 := ne_of' g3
    have er : rowO b a prior = [shiftedO b a prior] := by unfold rowO; rw [decide_eq_false k1, g2, decide_eq_false k3]; rfl
    refine ⟨fun g4 => go 300 ?_, fun g4 => go 300 ?_⟩
    · refine ⟨fun g5 => go 300 ?_, fun g5 => go 300 ?_⟩
      · show CallThen _ _ _ _ _ _
        refine call_pure c6 rfl ?_
        rintro x rfl
        refine ⟨fun g6 => ?_, fun g6 => go 300 ?_⟩
        · exfalso
          unfold bothEdit at he
          rw [g4, g5, g6] at he
          cases he
        · show CallThen _ _ _ _ _ _
          refine call_pure hsh rfl ?_
          rintro x rfl
          refine ⟨⟨rfl, trivial⟩, ?_⟩
          exact ⟨trivial, rfl, rfl, leaf1 (shiftedO b a prior) er⟩
      · show CallThen _ _ _ _ _ _
        refine call_pure hsh rfl ?_
        rintro x rfl
        refine ⟨⟨rfl, trivial⟩, ?_⟩
        exact ⟨trivial, rfl, rfl, leaf1 (shiftedO b a prior) er⟩
    · show CallThen _ _ _ _ _ _
      refine call_pure hsh rfl ?_
      rintro x rfl
      refine ⟨⟨rfl, trivial⟩, ?_⟩
      exact ⟨trivial, rfl, rfl, leaf1 (shiftedO b a prior) er⟩
  have k3 : a.kind = 3 := eq_of' g3
  refine ⟨fun g4 => go 300 ?_, fun g4 => go 300 ?_⟩
  · have k4 : b.kind = 2 := eq_of g4
    show CallThen _ _ _ _ _ _
    refine call_pure c3 rfl ?_
    rintro x rfl
    refine ⟨fun g5 => go 300 ?_, fun g5 => go 300 ?_⟩
    case refine_2 =>
      have er : rowO b a prior = [shiftedO b a prior] := by unfold rowO; rw [decide_eq_false k1, g2, decide_eq_true k3, decide_eq_true k4, g5]; rfl
      show CallThen _ _ _ _ _ _
      refine call_pure hsh rfl ?_
      rintro x rfl
      refine ⟨⟨rfl, trivial⟩, ?_⟩
      exact ⟨trivial, rfl, rfl, leaf1 (shiftedO b a prior) er⟩
    show CallThen _ _ _ _ _ _
    refine call_pure c5 rfl ?_
    rintro x rfl
    refine ⟨fun g6 => go 300 ?_, fun g6 => go 300 ?_⟩
    case refine_2 =>
      have g6 : decide (b.path = a.path) = true := by simpa using g6
      have er : rowO b a prior = [shiftedO b a prior] := by unfold rowO; rw [decide_eq_false k1, g2, decide_eq_true k3, decide_eq_true k4, g5, g6]; rfl
      show CallThen _ _ _ _ _ _
      refine call_pure hsh rfl ?_
      rintro x rfl
      refine ⟨⟨rfl, trivial⟩, ?_⟩
      exact ⟨trivial, rfl, rfl, leaf1 (shiftedO b a prior) er⟩
    have g6 : decide (b.path = a.path) = false := by simpa using g6
    show CallThen _ _ _ _ _ _
    refine call_pure c4 rfl ?_
    rintro x rfl
    refine ⟨fun g7 => go 300 ?_, fun g7 => go 300 ?_⟩
    case refine_2 =>
      have g7 : within b.path a.to = true := by simpa using g7
      have er : rowO b a prior = [shiftedO b a prior] := by unfold rowO; rw [decide_eq_false k1, g2, decide_eq_true k3, decide_eq_true k4, g5, g6, g7]; rfl
      show CallThen _ _ _ _ _ _
      refine call_pure hsh rfl ?_
      rintro x rfl
      refine ⟨⟨rfl, trivial⟩, ?_⟩
      exact ⟨trivial, rfl, rfl, leaf1 (shiftedO b a prior) er⟩
    have g7 : within b.path a.to = false := by simpa using g7
    have er : rowO b a prior = [dropO ((nodeP a a.path).getD []), dropO ((nodeP (dropO ((nodeP a a.path).getD [])) ((nodeP a b.path).getD [])).getD [])] := by unfold rowO; rw [decide_eq_false k1, g2, decide_eq_true k3, decide_eq_true k4, g5, g6, g7]; rfl
    have hqs := node_steps (a := a) (p := b.path) (may_strict (formed_path fb))
    show CallThen _ _ _ _ _ _
    refine call_pure (w_NodeB a a.path ha (by omega) qa) rfl ?_
    rintro x ⟨p1, v1, hp1, rfl⟩
    show CallThen _ _ _ _ _ _
    refine call_pure (w_NodeB a b.path ha (by omega) qb) rfl ?_
    rintro x ⟨q1, v2, hq1, rfl⟩
    rw [hp1, hq1] at er
    rw [hq1] at hqs hnb
    rw [hp1] at hna
    show CallThen _ _ _ _ _ _
    refine call_pure (w_drop p1) rfl ?_
    rintro x rfl
    show CallThen _ _ _ _ _ _
    have hat64 := may_len (good_to fa k3)
    refine call_pure (w_NodeB (dropO p1) q1 (drop_ok (by omega)) (by omega) hqs) rfl ?_
    rintro x ⟨q2, v3, hq2, rfl⟩
    rw [hq2] at er
    show CallThen _ _ _ _ _ _
    refine call_pure (w_drop p1) rfl ?_
    rintro x rfl
    show CallThen _ _ _ _ _ _
    refine call_pure (w_drop q2) rfl ?_
    rintro x rfl
    refine ⟨⟨rfl, rfl, trivial⟩, ?_⟩
    exact ⟨trivial, rfl, rfl, leaf2 _ _ er⟩
  have k4 : b.kind ≠ 2 := ne_of g4
  refine ⟨fun g5 => go 300 ?_, fun g5 => go 300 ?_⟩
  · have k5 : b.kind = 3 := eq_of g5
    show CallThen _ _ _ _ _ _
    refine call_pure c4 rfl ?_
    rintro x rfl
    refine ⟨fun g6 => go 300 ?_, fun g6 => go 300 ?_⟩
    case refine_2 =>
      have er : rowO b a prior = [shiftedO b a prior] := by unfold rowO; rw [decide_eq_false k1, g2, decide_eq_true k3, decide_eq_false k4, decide_eq_true k5, g6]; rfl
      show CallThen _ _ _ _ _ _
      refine call_pure hsh rfl ?_
      rintro x rfl
      refine ⟨⟨rfl, trivial⟩, ?_⟩
      exact ⟨trivial, rfl, rfl, leaf1 (shiftedO b a prior) er⟩
    show CallThen _ _ _ _ _ _
    refine call_pure c2 rfl ?_
    rintro x rfl
    refine ⟨fun g7 => go 300 ?_, fun g7 => go 300 ?_⟩
    case refine_2 =>
      have er : rowO b a prior = [shiftedO b a prior] := by unfold rowO; rw [decide_eq_false k1, g2, decide_eq_true k3, decide_eq_false k4, decide_eq_true k5, g6, g7]; rfl
      show CallThen _ _ _ _ _ _
      refine call_pure hsh rfl ?_
      rintro x rfl
      refine ⟨⟨rfl, trivial⟩, ?_⟩
      exact ⟨trivial, rfl, rfl, leaf1 (shiftedO b a prior) er⟩
    refine ⟨fun g8 => go 300 ?_, fun g8 => go 300 ?_⟩
    · have g8 : prior = false := by simpa using g8
      exact ⟨trivial, rfl, rfl, leafN (by unfold rowO; rw [decide_eq_false k1, g2, decide_eq_true k3, decide_eq_false k4, decide_eq_true k5, g6, g7, g8]; rfl)⟩
    · have g8 : prior = true := by simpa using g8
      show Goes _ _ _ _
      refine goes_draw 300 ⟨_, w_UndoM a ha, rfl, rfl, ⟨rfl, rfl, trivial⟩, ?_⟩
      refine ⟨by kernel_rfl, ?_⟩
      refine ⟨by kernel_rfl, ?_⟩
      exact ⟨trivial, rfl, rfl, leaf2 (undoO a) b (by unfold rowO; rw [decide_eq_false k1, g2, decide_eq_true k3, decide_eq_false k4, decide_eq_true k5, g6, g7]; rw [g8]; rfl)⟩
  · have k5 : b.kind ≠ 3 := ne_of g5
    have er : rowO b a prior = [shiftedO b a prior] := by unfold rowO; rw [decide_eq_false k1, g2, decide_eq_true k3, decide_eq_false k4, decide_eq_false k5]; rfl
    show CallThen _ _ _ _ _ _
    refine call_pure hsh rfl ?_
    rintro x rfl
    refine ⟨⟨rfl, trivial⟩, ?_⟩
    exact ⟨trivial, rfl, rfl, leaf1 (shiftedO b a prior) er⟩
end Bow
/- W54: square.Behind, Both (but for two edits of one leaf). -/
namespace Bow
open Go Go.Proofs

theorem undo_ok {a : OpT} (h1 : a.path.length ≤ 1000) (h2 : a.to.length ≤ 1000) : (undoO a).Ok := by
  unfold undoO
  cases decide (a.kind = 3) && movesO a with
  | false => exact ⟨⟨Nat.zero_le _, Nat.zero_le _, Nat.zero_le _, Nat.zero_le _, Nat.zero_le _, Nat.zero_le _⟩, Nat.zero_le _⟩
  | true =>
    have q1 := nodeP_len a a.path
    have q2 := nodeP_len a (chgO a).frm
    have q3 : (chgO a).frm.length ≤ a.path.length := by
      unfold chgO
      cases decide (a.kind = 1) <;> simp
    exact ⟨⟨by show ((nodeP a a.path).getD []).length ≤ _; omega, by show ((nodeP a (chgO a).frm).getD []).length ≤ _; omega, Nat.zero_le _, Nat.zero_le _, Nat.zero_le _, Nat.zero_le _⟩, Nat.zero_le _⟩
theorem row_mem {b a o : OpT} {prior : Bool} (h : o ∈ rowO b a prior) : o = shiftedO b a prior ∨ o = dropO ((nodeP a b.path).getD []) ∨ o = dropO ((nodeP a a.path).getD []) ∨
    o = dropO ((nodeP (dropO ((nodeP a a.path).getD [])) ((nodeP a b.path).getD [])).getD []) ∨ o = undoO a ∨ o = b := by
  unfold rowO at h
  have one : ∀ {x : OpT}, o ∈ [x] → o = x := fun h => List.mem_singleton.1 h
  cases h1 : decide (a.kind = 2) with
  | true =>
    rw [h1] at h
    cases h2 : within a.path b.path with
    | true => rw [h2] at h; cases h
    | false =>
      rw [h2] at h
      cases h3 : decide (b.kind = 3) && within a.path b.to with
      | true => rw [h3] at h; exact .inr (.inl (one h))
      | false => rw [h3] at h; exact .inl (one h)
  | false =>
    rw [h1] at h
    cases h2 : wonO b a with
    | true =>
      rw [h2] at h
      cases prior with
      | true => exact .inl (one h)
      | false => cases h
    | false =>
      rw [h2] at h
      cases h3 : decide (a.kind = 3) with
      | false => rw [h3] at h; exact .inl (one h)
      | true =>
        rw [h3] at h
        cases h4 : decide (b.kind = 2) with
        | true =>
          rw [h4] at h
          cases h5 : within b.path a.path && (!decide (b.path = a.path) && !within b.path a.to) with
          | true =>
            rw [h5] at h
            rcases List.mem_cons.1 h with h | h
            · exact .inr (.inr (.inl h))
            · exact .inr (.inr (.inr (.inl (one h))))
          | false => rw [h5] at h; exact .inl (one h)
        | false =>
          rw [h4] at h
          cases h5 : decide (b.kind = 3) && (within b.path a.to && within a.path b.to) with
          | true =>
            rw [h5] at h
            cases prior with
            | true =>
              rcases List.mem_cons.1 h with h | h
              · exact .inr (.inr (.inr (.inr (.inl h))))
              · exact .inr (.inr (.inr (.inr (.inr (one h)))))
            | false => cases h
          | false => rw [h5] at h; exact .inl (one h)
theorem row_ok {b a : OpT} {prior : Bool} (ha : a.Ok) (hb : b.Ok) (pa : a.path.length ≤ 1000) (pb : b.path.length ≤ 1000) (ta : a.to.length ≤ 1000) (tb : b.to.length ≤ 1000) : ∀ o ∈ rowO b a prior, o.Ok := by
  have hs := shifted_ok (prior := prior) ha hb pb tb ta
  have hu := undo_ok pa ta
  have q1 := nodeP_len a b.path
  have q2 := nodeP_len a a.path
  have q3 := nodeP_len (dropO ((nodeP a a.path).getD [])) ((nodeP a b.path).getD [])
  have q4 : (dropO ((nodeP a a.path).getD [])).to.length = 0 := rfl
  have d1 := drop_ok (p := (nodeP a b.path).getD []) (by omega)
  have d2 := drop_ok (p := (nodeP a a.path).getD []) (by omega)
  have d3 := drop_ok (p := (nodeP (dropO ((nodeP a a.path).getD [])) ((nodeP a b.path).getD [])).getD []) (by omega)
  intro o ho
  rcases row_mem ho with rfl | rfl | rfl | rfl | rfl | rfl <;> assumption

theorem set_step {l : List OpT} {i : Nat} (hi : i < l.length) : (((l.take i).map bareO ++ l.drop i).map opV).set (0 + ((i : Nat) : Int).toNat) (opV (bareO l[i])) = ((l.take (i + 1)).map bareO ++ l.drop (i + 1)).map opV := by
  rw [List.drop_eq_getElem_cons hi, List.take_succ_eq_append_getElem hi, List.map_append, List.map_append, List.map_append, List.map_append, Nat.zero_add, show ((i : Nat) : Int).toNat = i from rfl]
  rw [List.set_append_right _ _ (by simp; omega)]
  have : i - (List.map opV (List.map bareO (List.take i l))).length = 0 := by simp; omega
  rw [this, List.map_cons, List.set_cons_zero]
  simp
def BehV (r : List OpT × Int) : V := .tup [opsV r.1, .int .i64 r.2]
theorem behZ (e : Int) : ∃ y, Wk (.tup [.nilsl, .int .i64 e]) y ∧ y.pureB = true ∧ y = BehV ([], e) := ⟨BehV ([], e), Wk.tup ⟨Wk.nil 11, .refl _, trivial⟩, rfl, rfl⟩

set_option maxHeartbeats 4000000 in
set_option maxRecDepth 100000 in
theorem w_Behind (b a : OpT) (prior : Bool) (ha : a.Ok) (hb : b.Ok) (he : bothEdit b a = false) (hto : a.to.length ≤ 1000 ∧ b.to.length ≤ 1000) :
    Pure Tryz.prog 142 [opV b, opV a, .bool prior] (fun x => x = BehV (behindO b a prior)) := by
  refine pure_wk (pure_fn 300 Tryz.func142 rfl rfl rfl fun B => ?_)
  show CallThen _ _ _ _ _ _
  refine call_pure (w_sound a ha) rfl ?_
  rintro x rfl
  refine ⟨fun g1 => go 300 ?_, fun g1 => go 300 ?_⟩
  · have g1 : soundO a = false := by simpa using g1
    have e : behindO b a prior = ([], 80) := by unfold behindO; rw [g1]; rfl
    rw [e]
    exact ⟨trivial, rfl, rfl, rfl, behZ 80⟩
  have sa : soundO a = true := by simpa using g1
  show CallThen _ _ _ _ _ _
  refine call_pure (w_sound b hb) rfl ?_
  rintro x rfl
  refine ⟨fun g2 => go 300 ?_, fun g2 => go 300 ?_⟩
  · have g2 : soundO b = false := by simpa using g2
    have e : behindO b a prior = ([], 80) := by unfold behindO; rw [sa, g2]; rfl
    rw [e]
    exact ⟨trivial, rfl, rfl, rfl, behZ 80⟩
  have sb : soundO b = true := by simpa using g2
  have fa : formedB a = true := by unfold soundO at sa; rw [Bool.and_eq_true] at sa; exact sa.1
  have fb : formedB b = true := by unfold soundO at sb; rw [Bool.and_eq_true] at sb; exact sb.1
  have pa := may_len (formed_path fa)
  have pb := may_len (formed_path fb)
  have hrow := w_row b a prior ha hb sa sb he hto
  have hrok := row_ok (prior := prior) ha hb (by omega) (by omega) hto.1 hto.2
  have e : behindO b a prior = bif (rowO b a prior).all formedB then ((rowO b a prior).map bareO, 0) else ([], 3) := by unfold behindO; rw [sa, sb]; rfl
  rw [e]
  obtain ⟨l, hl⟩ : ∃ l, rowO b a prior = l := ⟨_, rfl⟩
  have hlen : l.length ≤ 2 := by rw [← hl]; exact row_len b a prior
  rw [hl] at hrow hrok ⊢
  show CallThen _ _ _ _ _ _
  refine call_sub [] hrow rfl rfl trivial rfl rfl rfl ?_
  rintro x T1 (⟨rfl, rfl, rfl⟩ | ⟨G, rfl, rfl⟩)
  · refine ⟨rfl, ?_⟩
    refine ⟨fun q => absurd rfl (ne_of' q), fun _ => go 300 ?_⟩
    show Goes _ _ _ _
    refine goes_loop ?_
    refine go 300 ?_
    refine ⟨fun q => absurd (lt_of q) (by decide), fun _ => go 300 ?_⟩
    exact ⟨trivial, rfl, rfl, rfl, behZ 0⟩
  · refine ⟨rfl, ?_⟩
    refine ⟨fun q => absurd rfl (ne_of' q), fun _ => go 300 ?_⟩
    refine ⟨rfl, ?_⟩
    show Goes _ _ _ _
    refine goes_iter (ι := Nat) (fun i => i ≤ l.length ∧ (l.take i).all formedB = true) (fun i => l.length - i) (fun i => [(31, .int .i64 i), (30, .int .i64 l.length), (29, .osl (.loc 4) G 0 l.length), (8, .osl (.loc 4) G 0 l.length)])
      (fun i => [some (.box (opV b).cells), some (.box (opV a).cells), some (.box (opV b).cells), some (.box (opV a).cells), some (.vec G 11 (((l.take i).map bareO ++ l.drop i).map opV))]) 0 300 (fun _ => rfl) (fun _ => rfl) ⟨⟨Nat.zero_le _, by simp⟩, ⟨⟨rfl, rfl⟩, ⟨rfl, rfl⟩, ⟨rfl, rfl⟩, ⟨rfl, rfl⟩, trivial⟩, ⟨⟨rfl, rfl⟩, ⟨rfl, rfl⟩, ⟨rfl, rfl⟩, ⟨rfl, rfl⟩, ⟨rfl, rfl⟩, trivial⟩⟩ ?_
    rintro i ⟨k1, k2⟩ next
    refine ⟨fun hlt => go 300 ?_, fun hge => go 300 ?_⟩
    · have hi : i < l.length := by have := lt_of hlt; omega
      have hx : ((((l.take i).map bareO ++ l.drop i).map opV))[0 + ((i : Nat) : Int).toNat]? = some (opV l[i]) := by
        simp [List.getElem?_append_right, hi, Nat.min_eq_left (Nat.le_of_lt hi)]
      have hok := hrok l[i] (List.getElem_mem hi)
      refine ⟨rfl, Int.natCast_nonneg i, by omega, rfl, _, hx, ?_⟩
      show CallThen _ _ _ _ _ _
      refine call_pure (w_Formed l[i] hok.lt hok.each) rfl ?_
      rintro x rfl
      refine ⟨fun g3 => go 300 ?_, fun g3 => go 300 ?_⟩
      · have g3 : formedB l[i] = false := by simpa using g3
        have e : l.all formedB = false := List.all_eq_false.2 ⟨l[i], List.getElem_mem hi, by simpa using g3⟩
        rw [e]
        exact ⟨trivial, rfl, rfl, rfl, behZ 3⟩
      have g3 : formedB l[i] = true := by simpa using g3
      show CallThen _ _ _ _ _ _
      refine call_pure (w_Bare l[i] hok.lt) rfl ?_
      rintro x rfl
      refine ⟨rfl, Int.natCast_nonneg i, by omega, rfl, _, hx, ?_⟩
      refine ⟨by constructor <;> omega, ?_⟩
      show Goes _ _ _ _
      refine next (i + 1) _ _ ⟨⟨hi, ?_⟩, by omega, ⟨⟨rfl, rfl⟩, ⟨rfl, rfl⟩, ⟨rfl, rfl⟩, ⟨rfl, rfl⟩, trivial⟩, ⟨⟨rfl, rfl⟩, ⟨rfl, rfl⟩, ⟨rfl, rfl⟩, ⟨rfl, rfl⟩, ⟨?_, rfl⟩, trivial⟩⟩
      · rw [List.take_succ_eq_append_getElem hi, List.all_append, k2]
        simp [g3]
      · show some (HObj.vec G 11 (((((l.take i).map bareO ++ l.drop i).map opV)).set (0 + ((i : Nat) : Int).toNat) (opV (bareO l[i])))) = _
        rw [set_step hi]
    · have hi : i = l.length := by have := not_lt_of hge; omega
      subst hi
      rw [List.take_length] at k2
      rw [k2]
      refine ⟨trivial, rfl, rfl, rfl, by simp, rfl, ?_⟩
      refine ⟨BehV (l.map bareO, 0), ?_, rfl, rfl⟩
      simp [BehV, opsV]
      exact Wk.refl _

def BothV (r : List OpT × List OpT × Int) : V := .tup [opsV r.1, opsV r.2.1, .int .i64 r.2.2]
theorem bothZ (e : Int) : ∃ y, Wk (.tup [.nilsl, .nilsl, .int .i64 e]) y ∧ y.pureB = true ∧ y = BothV ([], [], e) := ⟨BothV ([], [], e), Wk.tup ⟨Wk.nil 11, Wk.nil 11, .refl _, trivial⟩, rfl, rfl⟩
end Bow
/- W55: leaftext's maker of a normal edit; norm. -/
namespace Bow
open Go Go.Proofs

def mkB (m : Mk) (g : Nat) : HObj := .box [.osl (.loc 1) g 0 m.l.length, .int .i64 m.keep]
def mkVec (m : Mk) (g : Nat) : HObj := .vec g 3 (m.l.map pieceV)
def mkT (m : Mk) (g : Nat) : Heap := [some (mkB m g), some (mkVec m g)]

theorem last_grown {m : Mk} (h : 0 < m.keep ∨ m.l.length = 0) : m.last = ⟨m.l ++ [⟨m.keep, 0, []⟩], 0⟩ := by
  unfold Mk.last
  have : (decide (0 < m.keep) || m.l.isEmpty) = true := by
    rcases h with h | h
    · simp [h]
    · have := List.length_eq_zero_iff.1 h
      simp [this]
  rw [this]
  rfl
theorem last_still {m : Mk} (h : ¬ 0 < m.keep) (h' : m.l.length ≠ 0) : m.last = m := by
  unfold Mk.last
  have : (decide (0 < m.keep) || m.l.isEmpty) = false := by
    have h2 : m.l ≠ [] := fun e => h' (by rw [e]; rfl)
    simp [h, h2]
  rw [this]
  rfl

set_option maxRecDepth 100000 in
theorem w_last (m : Mk) (g : Nat) (hok : m.Ok) (hw : m.w ≤ 1000000000000) : Fun Tryz.prog 247 (mkT m g) [.ptr (.loc 0) 0] (fun x T => ∃ g', x = .eptr (.loc 1) g' (m.last.l.length - 1) 0 ∧ T = mkT m.last g') := by
  have hlen : (m.l.length : Int) ≤ 1000000000000 := by
    have := sumW_len hok.l
    have := hok.k
    unfold Mk.w at hw
    omega
  refine fun_keep 2 rfl (fun_fn 300 Tryz.func247 rfl rfl rfl fun imps B hi => ?_)
  have hroom : room ((m.l.map pieceV).length + 1) 32 := by
    unfold room
    simp only [List.length_map]
    omega
  refine ⟨fun g1 => go 300 ?_, fun g1 => go 300 ?_⟩
  · have hl := last_grown (.inl (lt_of g1))
    show Goes _ _ _ _
    refine goes_draw 300 ⟨rfl, ⟨rfl, trivial⟩, rfl, rfl, rfl, rfl, by simp, hroom, ?_⟩
    refine ⟨by kernel_rfl, ?_⟩
    show Goes _ _ _ _
    refine goes_draw 300 ⟨rfl, ⟨?_, ?_⟩, rfl, ?_, ?_, ?_⟩
    · simp only [List.length_map, List.length_cons, List.length_nil]; omega
    · simp only [List.length_map, List.length_cons, List.length_nil]; omega
    · simp only [List.length_map, List.length_cons, List.length_nil]; omega
    · simp only [List.length_map, List.length_cons, List.length_nil]; omega
    refine ⟨by kernel_rfl, ?_⟩
    refine ⟨trivial, rfl, rfl, mkT m.last (bump g), rfl, rfl, ⟨⟨?_, rfl⟩, ⟨?_, rfl⟩, trivial⟩, bump g, ?_, rfl⟩
    · rw [hl]; simp [mkB]
    · rw [hl]; simp [mkVec, pieceV]
    · rw [hl]
      show V.eptr (Ref.loc 1) (bump g) _ 0 = _
      congr 1
      simp
  · refine ⟨rfl, ?_⟩
    refine ⟨fun g2 => go 300 ?_, fun g2 => go 300 ?_⟩
    · have hz := eq_of g2
      have hl := last_grown (m := m) (.inr (by omega))
      show Goes _ _ _ _
      refine goes_draw 300 ⟨rfl, ⟨rfl, trivial⟩, rfl, rfl, rfl, rfl, by simp, hroom, ?_⟩
      refine ⟨by kernel_rfl, ?_⟩
      show Goes _ _ _ _
      refine goes_draw 300 ⟨rfl, ⟨?_, ?_⟩, rfl, ?_, ?_, ?_⟩
      · simp only [List.length_map, List.length_cons, List.length_nil]; omega
      · simp only [List.length_map, List.length_cons, List.length_nil]; omega
      · simp only [List.length_map, List.length_cons, List.length_nil]; omega
      · simp only [List.length_map, List.length_cons, List.length_nil]; omega
      refine ⟨by kernel_rfl, ?_⟩
      refine ⟨trivial, rfl, rfl, mkT m.last (bump g), rfl, rfl, ⟨⟨?_, rfl⟩, ⟨?_, rfl⟩, trivial⟩, bump g, ?_, rfl⟩
      · rw [hl]; simp [mkB]
      · rw [hl]; simp [mkVec, pieceV]
      · rw [hl]
        show V.eptr (Ref.loc 1) (bump g) _ 0 = _
        congr 1
        simp
    · have hz := ne_of g2
      have hl := last_still (m := m) (Int.not_lt.2 (not_lt_of g1)) (by omega)
      show Goes _ _ _ _
      refine goes_draw 300 ⟨rfl, ⟨by omega, by omega⟩, rfl, by omega, by omega, ?_⟩
      refine ⟨by kernel_rfl, ?_⟩
      refine ⟨trivial, rfl, rfl, mkT m.last g, rfl, rfl, ⟨⟨?_, rfl⟩, ⟨?_, rfl⟩, trivial⟩, g, ?_, rfl⟩
      · rw [hl]
      · rw [hl]
      · rw [hl]
        show V.eptr (Ref.loc 1) g _ 0 = _
        congr 1
        simp
theorem set_modL {f : PieceT → PieceT} {l : List PieceT} (h : l ≠ []) {x : V} (hx : x = pieceV (f (l[l.length - 1]'(by have := List.length_pos_iff.2 h; omega)))) : (l.map pieceV).set (l.length - 1) x = (modL f l).map pieceV := by
  rw [modL_set f l (by have := List.length_pos_iff.2 h; omega), List.map_set, hx]
theorem last_get {l : List PieceT} (h : l ≠ []) : (l.map pieceV)[l.length - 1]? = some (pieceV (l[l.length - 1]'(by have := List.length_pos_iff.2 h; omega))) := by
  have := List.length_pos_iff.2 h
  simp [show l.length - 1 < l.length by omega]

set_option maxRecDepth 100000 in
theorem w_mkPut (m : Mk) (g : Nat) (s : List UInt8) (hok : m.Ok) (hw : m.w ≤ 1000000000000) (hs : s.length ≤ 1000000000000) : Fun Tryz.prog 228 (mkT m g) [.ptr (.loc 0) 0, .str s] (fun x T => ∃ g', x = .tup [] ∧ T = mkT (m.put s) g') := by
  refine fun_keep 2 rfl (fun_fn 300 Tryz.func228 rfl rfl rfl fun imps B hi => ?_)
  refine ⟨fun g1 => go 300 ?_, fun g1 => go 300 ?_⟩
  · have hne : s.isEmpty = false := by
      have : s ≠ [] := by simpa using g1
      cases s with
      | nil => exact absurd rfl this
      | cons a s => rfl
    have e : m.put s = ⟨modL (fun p => { p with put := p.put ++ s }) m.last.l, m.last.keep⟩ := by unfold Mk.put; rw [hne]; rfl
    obtain ⟨lok, lw⟩ := Mk.last_ok hok
    have hlast := m.last_ne
    show CallThen _ _ _ _ _ _
    refine call_sub [0, 1] (w_last m g hok hw) rfl rfl ⟨⟨rfl, rfl⟩, ⟨rfl, rfl⟩, trivial⟩ rfl rfl rfl ?_
    rintro x T1 ⟨g', rfl, rfl⟩
    refine ⟨rfl, ?_⟩
    show Goes _ _ _ _
    refine goes_nilE 300 rfl rfl rfl rfl rfl ?_
    have hput : (m.last.l[m.last.l.length - 1]'(by have := List.length_pos_iff.2 hlast; omega)).put.length ≤ 1000000000001 := by
      have h1 := sumW_mem lok.l _ (List.getElem_mem (by have := List.length_pos_iff.2 hlast; omega : m.last.l.length - 1 < m.last.l.length))
      have h2 := lok.l _ (List.getElem_mem (by have := List.length_pos_iff.2 hlast; omega : m.last.l.length - 1 < m.last.l.length))
      have := h2.k
      have := h2.d
      have := lok.k
      unfold PieceT.w at h1
      unfold Mk.w at lw hw
      omega
    refine ⟨rfl, rfl, _, last_get hlast, ?_⟩
    refine ⟨by rw [List.length_append]; omega, ?_⟩
    show Goes _ _ _ _
    refine goes_nilE 300 rfl rfl rfl rfl rfl ?_
    refine ⟨rfl, rfl, _, last_get hlast, ?_⟩
    refine ⟨trivial, rfl, rfl, mkT (m.put s) g', rfl, rfl, ⟨⟨?_, rfl⟩, ⟨?_, rfl⟩, trivial⟩, g', rfl, rfl⟩
    · show some (mkB m.last g') = _
      rw [e]
      simp only [mkB, modL_len]
    · rw [e]
      exact congrArg (fun z => some (HObj.vec g' 3 z)) (set_modL (f := fun p => { p with put := p.put ++ s }) hlast rfl)
  · have hne : s = [] := by simpa using g1
    subst hne
    refine ⟨trivial, rfl, rfl, mkT m g, rfl, rfl, ⟨⟨rfl, rfl⟩, ⟨rfl, rfl⟩, trivial⟩, g, rfl, rfl⟩
set_option maxRecDepth 100000 in
theorem w_mkDrop (m : Mk) (g : Nat) (n : Int) (hok : m.Ok) (hw : m.w ≤ 1000000000000) (hs : n ≤ 1000000000000) : Fun Tryz.prog 229 (mkT m g) [.ptr (.loc 0) 0, .int .i64 n] (fun x T => ∃ g', x = .tup [] ∧ T = mkT (m.drop n) g') := by
  refine fun_keep 2 rfl (fun_fn 300 Tryz.func229 rfl rfl rfl fun imps B hi => ?_)
  refine ⟨fun g1 => go 300 ?_, fun g1 => go 300 ?_⟩
  · have hne : 0 < n := lt_of g1
    have e : m.drop n = ⟨modL (fun p => { p with drop := p.drop + n }) m.last.l, m.last.keep⟩ := by unfold Mk.drop; rw [decide_eq_true hne]; rfl
    obtain ⟨lok, lw⟩ := Mk.last_ok hok
    have hlast := m.last_ne
    show CallThen _ _ _ _ _ _
    refine call_sub [0, 1] (w_last m g hok hw) rfl rfl ⟨⟨rfl, rfl⟩, ⟨rfl, rfl⟩, trivial⟩ rfl rfl rfl ?_
    rintro x T1 ⟨g', rfl, rfl⟩
    refine ⟨rfl, ?_⟩
    show Goes _ _ _ _
    refine goes_nilE 300 rfl rfl rfl rfl rfl ?_
    have hput : 0 ≤ (m.last.l[m.last.l.length - 1]'(by have := List.length_pos_iff.2 hlast; omega)).drop ∧ (m.last.l[m.last.l.length - 1]'(by have := List.length_pos_iff.2 hlast; omega)).drop ≤ 1000000000001 := by
      have h1 := sumW_mem lok.l _ (List.getElem_mem (by have := List.length_pos_iff.2 hlast; omega : m.last.l.length - 1 < m.last.l.length))
      have h2 := lok.l _ (List.getElem_mem (by have := List.length_pos_iff.2 hlast; omega : m.last.l.length - 1 < m.last.l.length))
      have := h2.k
      have := h2.d
      have := lok.k
      unfold PieceT.w at h1
      unfold Mk.w at lw hw
      omega
    refine ⟨rfl, rfl, _, last_get hlast, ?_⟩
    refine ⟨by constructor <;> omega, ?_⟩
    show Goes _ _ _ _
    refine goes_nilE 300 rfl rfl rfl rfl rfl ?_
    refine ⟨rfl, rfl, _, last_get hlast, ?_⟩
    refine ⟨trivial, rfl, rfl, mkT (m.drop n) g', rfl, rfl, ⟨⟨?_, rfl⟩, ⟨?_, rfl⟩, trivial⟩, g', rfl, rfl⟩
    · show some (mkB m.last g') = _
      rw [e]
      simp only [mkB, modL_len]
    · rw [e]
      exact congrArg (fun z => some (HObj.vec g' 3 z)) (set_modL (f := fun p => { p with drop := p.drop + n }) hlast rfl)
  · have hne : ¬ 0 < n := Int.not_lt.2 (not_lt_of g1)
    have e : m.drop n = m := by unfold Mk.drop; rw [decide_eq_false hne]; rfl
    rw [e]
    refine ⟨trivial, rfl, rfl, mkT m g, rfl, rfl, ⟨⟨rfl, rfl⟩, ⟨rfl, rfl⟩, trivial⟩, g, rfl, rfl⟩

set_option maxRecDepth 100000 in
theorem w_mkPiece (m : Mk) (g : Nat) (p : PieceT) (hok : m.Ok) (hp : p.Nn) (hw : m.w + p.w ≤ 900000000000) : Fun Tryz.prog 205 (mkT m g) [.ptr (.loc 0) 0, pieceV p] (fun x T => ∃ g', x = .tup [] ∧ T = mkT (m.piece p) g') := by
  have p1 := hp.k
  have p2 := hp.d
  have m1 := hok.k
  have m2 := sumW_len hok.l
  have hw' := hw
  unfold PieceT.w Mk.w at hw'
  obtain ⟨a1, a2⟩ := Mk.kept_ok hok hp.k
  obtain ⟨b1, b2⟩ := Mk.put_ok (s := p.put) a1
  have hpw : p.w = p.keep + p.drop + p.put.length + 1 := rfl
  refine fun_keep 2 rfl (fun_fn 300 Tryz.func205 rfl rfl rfl fun imps B hi => ?_)
  show Goes _ _ _ _
  refine goes_draw 300 ⟨⟨by omega, by omega⟩, ?_⟩
  refine ⟨by kernel_rfl, ?_⟩
  show CallThen _ _ _ _ _ _
  refine call_sub [0, 1] (w_mkPut (m.kept p.keep) g p.put a1 (by omega) (by omega)) rfl rfl ⟨⟨rfl, rfl⟩, ⟨rfl, rfl⟩, trivial⟩ rfl rfl rfl ?_
  rintro x T1 ⟨g1, rfl, rfl⟩
  refine ⟨rfl, ?_⟩
  show CallThen _ _ _ _ _ _
  refine call_sub [0, 1] (w_mkDrop ((m.kept p.keep).put p.put) g1 p.drop b1 (by omega) (by omega)) rfl rfl ⟨⟨rfl, rfl⟩, ⟨rfl, rfl⟩, trivial⟩ rfl rfl rfl ?_
  rintro x T1 ⟨g2, rfl, rfl⟩
  refine ⟨rfl, ?_⟩
  exact ⟨trivial, rfl, rfl, mkT (m.piece p) g2, rfl, rfl, ⟨⟨rfl, rfl⟩, ⟨rfl, rfl⟩, trivial⟩, g2, rfl, rfl⟩

theorem foldl_take_succ {l : List PieceT} {i : Nat} (hi : i < l.length) (m : Mk) : (l.take (i + 1)).foldl Mk.piece m = ((l.take i).foldl Mk.piece m).piece l[i] := by
  rw [List.take_succ_eq_append_getElem hi, List.foldl_append]
  rfl
theorem sumW_take (l : List PieceT) (i : Nat) (h : ∀ p ∈ l, p.Nn) : sumW (l.take i) ≤ sumW l := by
  have e := sumW_append (l.take i) (l.drop i)
  rw [List.take_append_drop] at e
  have := sumW_len (l := l.drop i) fun p hp => h p (List.mem_of_mem_drop hp)
  omega
set_option maxRecDepth 100000 in
theorem w_norm (l : List PieceT) (h : ∀ p ∈ l, p.Nn) (hw : sumW l ≤ 100000000000) (hl : l.length ≤ 100000000000) : Fun Tryz.prog 204 [] [piecesV l] (fun x T => ∃ g k, x = .osl (.loc 1) g 0 (normP l).length ∧ T = [some (.box [.osl (.loc 1) g 0 (normP l).length, .int .i64 k]), some (.vec g 3 ((normP l).map pieceV))]) := by
  refine fun_keep 2 rfl (fun_fn 300 Tryz.func204 rfl rfl rfl fun imps B hi => ?_)
  have : imps = [] := List.length_eq_zero_iff.1 hi
  subst this
  show Goes _ _ _ _
  refine goes_ownCell 0 0 3 rfl rfl ?_
  refine goes_iter (ι := Nat × Nat) (fun i => i.1 ≤ l.length) (fun i => l.length - i.1) (fun i => [(8, .int .i64 i.1), (7, .int .i64 l.length), (6, piecesV l), (3, .ptr (.loc 0) 0)]) (fun i => mkT ((l.take i.1).foldl Mk.piece Mk.nil) i.2) (0, 0) 300 (fun _ => rfl) (fun _ => rfl)
    ⟨Nat.zero_le _, ⟨⟨rfl, rfl⟩, ⟨?_, rfl⟩, ⟨rfl, rfl⟩, ⟨rfl, rfl⟩, trivial⟩, ⟨⟨rfl, rfl⟩, ⟨rfl, rfl⟩, trivial⟩⟩ ?_
  · show V.int _ _ = _
    simp
  rintro ⟨i, g⟩ k1 next
  simp only at k1
  refine ⟨fun hlt => go 300 ?_, fun hge => go 300 ?_⟩
  · have hi : i < l.length := by have := lt_of hlt; omega
    have hx : (l.map pieceV)[i]? = some (pieceV l[i]) := by simp [hi]
    have hm : l[i] ∈ l := List.getElem_mem hi
    obtain ⟨q1, q2⟩ := foldl_ok (l := l.take i) Mk.nil_ok fun p hp => h p (List.mem_of_mem_take hp)
    have q3 := sumW_take l i h
    have q4 := sumW_mem h _ hm
    have q5 : Mk.nil.w = 0 := rfl
    refine ⟨Int.natCast_nonneg i, _, hx, ?_⟩
    show CallThen _ _ _ _ _ _
    refine call_sub [0, 1] (w_mkPiece _ g l[i] q1 (h _ hm) (by omega)) rfl rfl ⟨⟨rfl, rfl⟩, ⟨rfl, rfl⟩, trivial⟩ rfl rfl rfl ?_
    rintro x T1 ⟨g1, rfl, rfl⟩
    refine ⟨rfl, ?_⟩
    refine ⟨by constructor <;> omega, ?_⟩
    show Goes _ _ _ _
    refine next (i + 1, g1) _ _ ⟨hi, by simp only; omega, ⟨⟨rfl, rfl⟩, ⟨rfl, rfl⟩, ⟨rfl, rfl⟩, ⟨rfl, rfl⟩, trivial⟩, ?_⟩
    rw [show (l.take (i + 1)).foldl Mk.piece Mk.nil = _ from foldl_take_succ hi Mk.nil]
    exact ⟨⟨rfl, rfl⟩, ⟨rfl, rfl⟩, trivial⟩
  · have hi : i = l.length := by have := not_lt_of hge; omega
    subst hi
    refine ⟨trivial, rfl, rfl, mkT (l.foldl Mk.piece Mk.nil) g, rfl, rfl, ⟨⟨?_, rfl⟩, ⟨?_, rfl⟩, trivial⟩, g, (l.foldl Mk.piece Mk.nil).keep, ?_, rfl⟩
    · show some (mkB ((l.take l.length).foldl Mk.piece Mk.nil) g) = _
      rw [List.take_length]
    · show some (mkVec ((l.take l.length).foldl Mk.piece Mk.nil) g) = _
      rw [List.take_length]
    · show V.osl (Ref.loc 1) g 0 ((l.take l.length).foldl Mk.piece Mk.nil).l.length = _
      rw [List.take_length]
      rfl
end Bow
/- W56: leaftext's rows. -/
namespace Bow
open Go Go.Proofs

def rowVec (d r : List PieceT) (g : Nat) : HObj := .vec g 3 ((d ++ r).map pieceV)
theorem row_get (d : List PieceT) (p : PieceT) (r : List PieceT) : ((d ++ p :: r).map pieceV)[d.length + ((0 : Int)).toNat]? = some (pieceV p) := by simp
theorem row_set (d : List PieceT) (p q : PieceT) (r : List PieceT) : ((d ++ p :: r).map pieceV).set (d.length + ((0 : Int)).toNat) (pieceV q) = (d ++ q :: r).map pieceV := by simp
set_option maxRecDepth 100000 in
theorem w_rowPut (d r : List PieceT) (g : Nat) : Fun Tryz.prog 231 [some (rowVec d r g)] [.osl (.loc 0) g d.length r.length] (fun x T => x = .tup [.str (rowPut r).1, .bool (rowHas r)] ∧ T = [some (rowVec d (rowPut r).2 g)]) := by
  refine fun_wk (fun_fn 300 Tryz.func231 rfl rfl rfl fun imps B hi => ?_)
  have ff : ∀ {s : List UInt8} {b : Bool}, b = false → Wk (.tup [.str s, .ff]) (.tup [.str s, .bool b]) := fun h => by subst h; exact Wk.tup ⟨.refl _, Wk.ff, trivial⟩
  have tt : ∀ {s : List UInt8} {b : Bool}, b = true → Wk (.tup [.str s, .tt]) (.tup [.str s, .bool b]) := fun h => by subst h; exact Wk.tup ⟨.refl _, Wk.tt, trivial⟩
  cases r with
  | nil =>
    refine ⟨rfl, ?_⟩
    refine ⟨fun g1 => go 300 ?_, fun g1 => absurd rfl (ne_of g1)⟩
    exact ⟨trivial, rfl, rfl, _, ff rfl, rfl, rfl, rfl, rfl⟩
  | cons p r =>
    refine ⟨rfl, ?_⟩
    refine ⟨fun g1 => by have := eq_of g1; simp at this; omega, fun g1 => go 300 ?_⟩
    have hl : (0 : Int) < ((p :: r).length : Nat) := by simp
    refine ⟨rfl, by decide, hl, rfl, rfl, _, row_get d p r, ?_⟩
    refine ⟨fun g2 => go 300 ?_, fun g2 => go 300 ?_⟩
    · have e : (decide (0 < p.keep) || p.put.isEmpty) = true := by rw [g2]; rfl
      have e1 : rowPut (p :: r) = ([], p :: r) := by show (bif _ then _ else _) = _; rw [e]; rfl
      have e2 : rowHas (p :: r) = false := by show (!_) = _; rw [e]; rfl
      exact ⟨trivial, rfl, rfl, .tup [.str [], .bool (rowHas (p :: r))], ff e2, rfl, rfl, by rw [e1], by show [some (rowVec d (p :: r) g)] = _; rw [e1]⟩
    · refine ⟨rfl, by decide, hl, rfl, rfl, _, row_get d p r, ?_⟩
      refine ⟨fun g3 => go 300 ?_, fun g3 => go 300 ?_⟩
      · have g3 : p.put = [] := by simpa using g3
        have e : (decide (0 < p.keep) || p.put.isEmpty) = true := by rw [g3]; simp
        have e1 : rowPut (p :: r) = ([], p :: r) := by show (bif _ then _ else _) = _; rw [e]; rfl
        have e2 : rowHas (p :: r) = false := by show (!_) = _; rw [e]; rfl
        exact ⟨trivial, rfl, rfl, .tup [.str [], .bool (rowHas (p :: r))], ff e2, rfl, rfl, by rw [e1], by show [some (rowVec d (p :: r) g)] = _; rw [e1]⟩
      · have g3 : p.put ≠ [] := by simpa using g3
        have e : (decide (0 < p.keep) || p.put.isEmpty) = false := by rw [g2]; simp [g3]
        refine ⟨rfl, by decide, hl, rfl, rfl, _, row_get d p r, ?_⟩
        refine ⟨rfl, by decide, hl, rfl, rfl, _, row_get d p r, ?_⟩
        have e1 : rowPut (p :: r) = (p.put, { p with put := [] } :: r) := by show (bif _ then _ else _) = _; rw [e]; rfl
        have e2 : rowHas (p :: r) = true := by show (!_) = _; rw [e]; rfl
        refine ⟨trivial, rfl, rfl, .tup [.str p.put, .bool (rowHas (p :: r))], tt e2, rfl, rfl, by rw [e1], ?_⟩
        rw [e1]
        exact congrArg (fun z => [some (HObj.vec g 3 z)]) (row_set d p { p with put := [] } r)

set_option maxRecDepth 100000 in
theorem w_rowTake (d r : List PieceT) (g : Nat) (n : Int) (hn : 0 ≤ n ∧ n ≤ 1000000000000) (hr : ∀ p ∈ r, p.Nn ∧ p.w ≤ 1000000000000) : Fun Tryz.prog 249 [some (rowVec d r g)] [.osl (.loc 0) g d.length r.length, .int .i64 n] (fun x T => x = .tup [] ∧ T = [some (rowVec d (rowTake n r) g)]) := by
  refine fun_fn 300 Tryz.func249 rfl rfl rfl fun imps B hi => ?_
  cases r with
  | nil =>
    refine ⟨rfl, ?_⟩
    refine ⟨fun g1 => go 300 ?_, fun g1 => absurd rfl (ne_of g1)⟩
    exact ⟨trivial, rfl, rfl, rfl, rfl⟩
  | cons p r =>
    refine ⟨rfl, ?_⟩
    refine ⟨fun g1 => by have := eq_of g1; simp at this; omega, fun g1 => go 300 ?_⟩
    have hl : (0 : Int) < ((p :: r).length : Nat) := by simp
    obtain ⟨hp, hw⟩ := hr p List.mem_cons_self
    have h1 := hp.k
    have h2 := hp.d
    unfold PieceT.w at hw
    refine ⟨rfl, by decide, hl, ?_⟩
    show Goes _ _ _ _
    refine goes_nilE 300 rfl rfl rfl rfl rfl ?_
    refine ⟨rfl, rfl, _, row_get d p r, ?_⟩
    refine ⟨fun g2 => go 300 ?_, fun g2 => go 300 ?_⟩
    · show Goes _ _ _ _
      refine goes_nilE 300 rfl rfl rfl rfl rfl ?_
      refine ⟨rfl, rfl, _, row_get d p r, by constructor <;> omega, ?_⟩
      show Goes _ _ _ _
      refine goes_nilE 300 rfl rfl rfl rfl rfl ?_
      refine ⟨rfl, rfl, _, row_get d p r, ?_⟩
      refine ⟨trivial, rfl, rfl, rfl, ?_⟩
      have er : rowTake n (p :: r) = { p with keep := p.keep - n } :: r := by
        show (bif decide (0 < p.keep) then _ else _) = _
        rw [g2]
        rfl
      rw [er]
      exact congrArg (fun z => [some (HObj.vec g 3 z)]) (row_set d p { p with keep := p.keep - n } r)
    · show Goes _ _ _ _
      refine goes_nilE 300 rfl rfl rfl rfl rfl ?_
      refine ⟨rfl, rfl, _, row_get d p r, by constructor <;> omega, ?_⟩
      show Goes _ _ _ _
      refine goes_nilE 300 rfl rfl rfl rfl rfl ?_
      refine ⟨rfl, rfl, _, row_get d p r, ?_⟩
      refine ⟨trivial, rfl, rfl, rfl, ?_⟩
      have er : rowTake n (p :: r) = { p with drop := p.drop - n } :: r := by
        show (bif decide (0 < p.keep) then _ else _) = _
        rw [g2]
        rfl
      rw [er]
      exact congrArg (fun z => [some (HObj.vec g 3 z)]) (row_set d p { p with drop := p.drop - n } r)
end Bow
